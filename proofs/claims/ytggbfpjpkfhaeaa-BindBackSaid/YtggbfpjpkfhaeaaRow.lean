/- Rows of variables' values. -/
import Derived.Test.YtggbfpjpkfhaeaaEnv
namespace Go.Proofs.Ytggbfpjpkfhaeaa
open Go.RowKit

/-- the values of variables; none: one has none -/
def rowOf (get : ByteArray → Option GV) : List ByteArray → Option (List GV)
  | [] => some []
  | s :: l => match get s, rowOf get l with
    | some v, some r => some (v :: r)
    | _, _ => none
theorem rowOf_snoc (get : ByteArray → Option GV) (l : List ByteArray) (s : ByteArray) (r : List GV) (h : rowOf get l = some r) : rowOf get (l ++ [s]) = (get s).map fun v => r ++ [v] := by
  induction l generalizing r with
  | nil => simp [rowOf] at h; subst h; simp [rowOf]; cases get s <;> rfl
  | cons t l ih =>
    simp only [rowOf, List.cons_append] at h ⊢
    cases hg : get t with
    | none => simp [hg] at h
    | some v =>
      cases hr : rowOf get l with
      | none => simp [hg, hr] at h
      | some r' =>
        simp only [hg, hr, Option.some.injEq] at h
        subst h
        rw [ih r' hr]
        cases get s <;> rfl
theorem rowOf_none {get : ByteArray → Option GV} {l : List ByteArray} {s : ByteArray} (hm : s ∈ l) (h : get s = none) : rowOf get l = none := by
  induction l with
  | nil => simp at hm
  | cons t l ih =>
    simp only [rowOf]
    rcases List.mem_cons.1 hm with rfl | hm
    · simp [h]
    · rw [ih hm]; cases get t <;> rfl
theorem rowOf_len {get : ByteArray → Option GV} {l : List ByteArray} {r : List GV} (h : rowOf get l = some r) : r.length = l.length := by
  induction l generalizing r with
  | nil => simp [rowOf] at h; subst h; rfl
  | cons t l ih =>
    simp only [rowOf] at h
    cases hg : get t with
    | none => simp [hg] at h
    | some v =>
      cases hr : rowOf get l with
      | none => simp [hg, hr] at h
      | some r' => simp only [hg, hr, Option.some.injEq] at h; subst h; simp [ih hr]
theorem rowOf_mem {get : ByteArray → Option GV} {l : List ByteArray} {r : List GV} (h : rowOf get l = some r) {x : GV} (hx : x ∈ r) : ∃ s, get s = some x := by
  induction l generalizing r with
  | nil => simp [rowOf] at h; subst h; simp at hx
  | cons t l ih =>
    simp only [rowOf] at h
    cases hg : get t with
    | none => simp [hg] at h
    | some v =>
      cases hr : rowOf get l with
      | none => simp [hg, hr] at h
      | some r' =>
        simp only [hg, hr, Option.some.injEq] at h
        subst h
        rcases List.mem_cons.1 hx with rfl | hx
        · exact ⟨t, hg⟩
        · exact ih hr hx
/-- the row and the error's number -/
def rowSpec (get : ByteArray → Option GV) (l : List ByteArray) : List GV × Int :=
  if 6 < l.length then ([], 6) else match rowOf get l with
    | some r => (r, 0)
    | none => ([], 13)

theorem gv_info : (Try.prog.info? 63).map (fun i => (i.zero, i.size, i.bytes)) = some (some zeroV.v, 3, 32) := by kernel_rfl

def TupErr (p : List GV × Int) (err : Int → Value) (w : World) (e : Ending) (w' : World) : Prop :=
  ∃ A m c, e = .returned (.tuple #[.slice A m c, err p.2]) ∧ SliceIs Enc.val w' w'.heap.size A m c p.1 ∧ Below w.heap.size w w'

set_option maxRecDepth 100000 in
set_option maxHeartbeats 400000 in
theorem row_any (g : Nat) (kvs : List (ByteArray × GV)) (A : Option Addr) (n c : Nat) (l : List ByteArray) (w : World) (hm : MapIs w g (gvs kvs)) (hl : SliceIs Enc.str w w.heap.size A n c l)
    (hok : ∀ s v, kvGet kvs s = some v → v.ok) :
    Calls Try.prog 11 #[.map (some g), .slice A n c] w (TupErr (rowSpec (kvGet kvs) l) (errV 91) w) := by
  have hn := hl.bound
  have hlen := Lib.hid hl.1
  by_cases h6 : 6 < n
  · have HR : Hid (rowSpec (kvGet kvs) l = ([], 6)) := by unfold rowSpec; rw [if_pos (by have := hlen.out; omega)]; rfl
    clear hok
    go_enter Try.func11, Try.ntmps11
    go_wp2
    go_ret2
    exact ⟨none, 0, 0, by rw [HR.out]; rfl, by rw [HR.out]; exact SliceIs.nil, Below.refl _ _⟩
  · obtain ⟨w1, hmk, hown, hb1⟩ := run_mk (P := Try.prog) w (base := w.heap.size) Try.underlying24 gv_info n (by omega) (by simp [maxLen]; omega) (Nat.le_refl _)
    have hok := Lib.hid hok
    go_enter Try.func11, Try.ntmps11
    go_wp2
    clear hmk
    go_loopw [6, 8, 9, 10, 20] (fun v _ _ _ i wr => ∃ (k : Nat) (r : List GV), k ≤ n ∧ i = .int .i64 k ∧ Hid (rowOf (kvGet kvs) (l.take k) = some r) ∧ r.length = k ∧ wr.ownsRow w.heap.size 63 3 v k (r.flatMap GV.cells) ∧ Below w.heap.size w wr) (fun _ _ _ _ i _ => n - (intOf i).toNat)
    case atStart => exact ⟨0, [], by omega, rfl, rfl, rfl, hown, hb1⟩
    case round =>
      obtain ⟨k, r, hk, rfl, hr, hrl, hown, hbw⟩ := hrel
      have Hrl := Lib.hid hrl
      clear hrl
      by_cases hlt : k < n
      · obtain ⟨b, o, s, rfl, hb, hx, hc, hs⟩ := (hl.below hbw).str_at hlt
        clear hl
        have hmw := hm.below hbw hm.lt
        clear hm
        have hlk := (hmw).lookup_ok (P := Try.prog) (t := 35) (e := 63) Try.underlying35 Try.underlying9 (zero_value _) s
        rw [gvs_get] at hlk
        cases hgt : kvGet kvs s with
        | some v =>
          have Hgt := Lib.hid hgt
          rw [hgt] at hlk
          clear hgt
          simp only [Option.map_some, Option.getD_some, Option.isSome_some] at hlk
          obtain ⟨v2, w2, hrun, hown2, hb2⟩ := run_push (P := Try.prog) (wr.alloc (.cells #[.int .i64 v.k, .int .i64 v.n, .string v.s] 63)) (wr.heap.size + 1) (by simp) (ty := 24) Try.underlying24 gv_info rfl (by omega) (hown.alloc _)
            [.int .i64 v.k, .int .i64 v.n, .string v.s] rfl (by simp [Value.oneCell']) (by simp [maxLen]; omega) (by omega) (by simp; have := hbw.size; omega)
          have HRun := Lib.hid hrun
          clear hrun
          go_wp2_with (at_builtin; refine wpList_append_run rfl _ _ _ rfl _ _ rfl rfl HRun ?_)
          go_roundw
          case rel => exact ⟨k + 1, r ++ [v], by omega, by go_num, by
            rw [List.take_add_one, hx.out]; exact (rowOf_snoc _ _ _ _ hr.out).trans (by rw [Hgt.out]; rfl), by have := Hrl.out; simp; omega, by simpa [GV.cells] using hown2, (hbw.alloc hbw.size _).trans hb2⟩
          case measure => simp [intOf]; omega
        | none =>
          have HR : Hid (rowSpec (kvGet kvs) l = ([], 13)) := by
            unfold rowSpec; rw [if_neg (by have := hlen.out; omega), rowOf_none (List.mem_of_getElem? hx.out) hgt]; rfl
          rw [hgt] at hlk
          clear hgt
          simp only [Option.map_none, Option.getD_none, Option.isSome_none] at hlk
          go_wp2
          go_ret2
          exact ⟨none, 0, 0, by rw [HR.out]; rfl, by rw [HR.out]; exact SliceIs.nil, hbw.alloc hbw.size _⟩
      · have HR : Hid (rowSpec (kvGet kvs) l = (r, 0)) := by
          have h1 : l.take k = l := List.take_of_length_le (by have := hlen.out; omega)
          have h2 := hr.out
          rw [h1] at h2
          unfold rowSpec; rw [if_neg (by have := hlen.out; omega), h2]; rfl
        obtain ⟨A2, c2, rfl⟩ := own_form hown
        go_wp2
        go_ret2
        have hkr := Hrl.out
        subst hkr
        exact ⟨A2, _, c2, by rw [HR.out]; rfl, by
          rw [HR.out]
          exact SliceIs.of_flat GV.cells (fun _ => rfl) hown rfl (by simp [reachN]; omega) (fun x hx => ⟨rfl, by obtain ⟨s, hs⟩ := rowOf_mem hr.out hx; exact hok.out s x hs⟩), hbw⟩

set_option maxRecDepth 100000 in
set_option maxHeartbeats 400000 in
theorem refRow_any (A0 : Option Addr) (n0 c0 : Nat) (l0 : List GTold) (A : Option Addr) (n c : Nat) (l : List ByteArray) (w : World) (hl0 : SliceIs Enc.told w w.heap.size A0 n0 c0 l0) (hl : SliceIs Enc.str w w.heap.size A n c l)
    (hok : ∀ s v, getT l0 s = some v → v.ok) :
    Calls Try.prog 13 #[.slice A0 n0 c0, .slice A n c] w (TupErr (rowSpec (getT l0) l) (fun e => .int .i64 e) w) := by
  have hn := hl.bound
  have hlen := Lib.hid hl.1
  by_cases h6 : 6 < n
  · have HR : Hid (rowSpec (getT l0) l = ([], 6)) := by unfold rowSpec; rw [if_pos (by have := hlen.out; omega)]; rfl
    clear hok
    go_enter Try.func13, Try.ntmps13
    go_wp2_with fail
    go_ret2
    exact ⟨none, 0, 0, by rw [HR.out]; rfl, by rw [HR.out]; exact SliceIs.nil, Below.refl _ _⟩
  · have hok := Lib.hid hok
    go_enter Try.func13, Try.ntmps13
    go_wp2_with fail
    go_loopw [6, 7, 8, 9] (fun v i _ _ wr => ∃ (k : Nat) (r : List GV), k ≤ n ∧ i = .int .i64 k ∧ Hid (rowOf (getT l0) (l.take k) = some r) ∧ r.length = k ∧ wr.ownsRow w.heap.size 63 3 v k (r.flatMap GV.cells) ∧ Below w.heap.size w wr) (fun _ i _ _ _ => n - (intOf i).toNat)
    case atStart => exact ⟨0, [], by omega, rfl, rfl, rfl, World.ownsRow_nil _ _ _ _, Below.refl _ _⟩
    case round =>
      obtain ⟨k, r, hk, rfl, hr, hrl, hown, hbw⟩ := hrel
      have Hrl := Lib.hid hrl
      clear hrl
      by_cases hlt : k < n
      · obtain ⟨b, o, s, rfl, hb, hx, hc, hs⟩ := (hl.below hbw).str_at hlt
        clear hl
        have hget := get_any A0 n0 c0 l0 s wr ((hl0.below hbw).mono hbw.size (fun _ _ => rfl))
        have hget := Lib.hid hget
        cases hgt : getT l0 s with
        | some v =>
          have Hgt := Lib.hid hgt
          clear hgt
          go_wp2_with fail
          refine hget.out.mono ?_
          rintro e w1 ⟨rfl, hb1⟩
          rw [Hgt.out]
          obtain ⟨v2, w2, hrun, hown2, hb2⟩ := run_push (P := Try.prog) (w1.alloc (.cells #[.int .i64 v.k, .int .i64 v.n, .string v.s] 63)) (w1.heap.size + 1) (by simp) (ty := 24) Try.underlying24 gv_info rfl (by omega) ((own_below hown hb1).alloc _)
            [.int .i64 v.k, .int .i64 v.n, .string v.s] rfl (by simp [Value.oneCell']) (by simp [maxLen]; omega) (by omega) (by simp; have := hbw.size; have := hb1.size; omega)
          have HRun := Lib.hid hrun
          clear hrun
          simp only [Option.getD_some, Option.isSome_some]
          go_wp2_with (at_builtin; refine wpList_append_run rfl _ _ _ rfl _ _ rfl rfl HRun ?_)
          go_roundw
          case rel => exact ⟨k + 1, r ++ [v], by omega, by go_num, by
            rw [List.take_add_one, hx.out]; exact (rowOf_snoc _ _ _ _ hr.out).trans (by rw [Hgt.out]; rfl), by have := Hrl.out; simp; omega, by simpa [GV.cells] using hown2, ((hbw.trans (hb1.mono hbw.size)).alloc (Nat.le_trans hbw.size hb1.size) _).trans hb2⟩
          case measure => simp [intOf]; omega
        | none =>
          have HR : Hid (rowSpec (getT l0) l = ([], 13)) := by
            unfold rowSpec; rw [if_neg (by have := hlen.out; omega), rowOf_none (List.mem_of_getElem? hx.out) hgt]; rfl
          have Hgt := Lib.hid hgt
          clear hgt
          go_wp2_with fail
          refine hget.out.mono ?_
          rintro e w1 ⟨rfl, hb1⟩
          rw [Hgt.out]
          simp only [Option.getD_none, Option.isSome_none]
          go_wp2_with fail
          go_ret2
          exact ⟨none, 0, 0, by rw [HR.out]; rfl, by rw [HR.out]; exact SliceIs.nil, (hbw.trans (hb1.mono hbw.size)).alloc (Nat.le_trans hbw.size hb1.size) _⟩
      · have HR : Hid (rowSpec (getT l0) l = (r, 0)) := by
          have h1 : l.take k = l := List.take_of_length_le (by have := hlen.out; omega)
          have h2 := hr.out
          rw [h1] at h2
          unfold rowSpec; rw [if_neg (by have := hlen.out; omega), h2]; rfl
        obtain ⟨A2, c2, rfl⟩ := own_form hown
        go_wp2_with fail
        go_ret2
        have hkr := Hrl.out
        subst hkr
        exact ⟨A2, _, c2, by rw [HR.out]; rfl, by
          rw [HR.out]
          exact SliceIs.of_flat GV.cells (fun _ => rfl) hown rfl (by simp [reachN]; omega) (fun x hx => ⟨rfl, by obtain ⟨s, hs⟩ := rowOf_mem hr.out hx; exact hok.out s x hs⟩), hbw⟩

end Go.Proofs.Ytggbfpjpkfhaeaa
