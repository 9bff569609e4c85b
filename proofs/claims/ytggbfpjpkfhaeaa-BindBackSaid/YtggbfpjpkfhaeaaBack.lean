/- The environment of a row. -/
import Derived.Test.YtggbfpjpkfhaeaaSet
import Derived.Test.YtggbfpjpkfhaeaaRow
namespace Go.Proofs.Ytggbfpjpkfhaeaa
open Go.RowKit

def zipT (vars : List ByteArray) (t : List GV) : List GTold := List.zipWith GTold.mk vars t
theorem zipT_take (vars : List ByteArray) (t : List GV) (k : Nat) : (zipT vars t).take k = zipT (vars.take k) (t.take k) := by simp [zipT, List.take_zipWith]
theorem zipT_get {vars : List ByteArray} {t : List GV} {k : Nat} {s : ByteArray} {v : GV} (h1 : vars[k]? = some s) (h2 : t[k]? = some v) : (zipT vars t)[k]? = some ⟨s, v⟩ := by
  simp [zipT, List.getElem?_zipWith, h1, h2]
theorem getT_zip_mem {vars : List ByteArray} {t : List GV} {s : ByteArray} {v : GV} (h : getT (zipT vars t) s = some v) : s ∈ vars := by
  induction vars generalizing t with
  | nil => simp [zipT, getT] at h
  | cons x vars ih =>
    cases t with
    | nil => simp [zipT, getT] at h
    | cons y t =>
      by_cases e : x = s
      · simp [e]
      · have : getT (zipT vars t) s = some v := by
          simpa only [getT, zipT, List.zipWith_cons_cons, List.find?_cons, beq_eq_false_iff_ne.2 e] using h
        exact List.mem_cons_of_mem _ (ih this)
theorem getT_zip_none {vars : List ByteArray} {t : List GV} {s : ByteArray} (hl : vars.length ≤ t.length) (h : getT (zipT vars t) s = none) : s ∉ vars := by
  induction vars generalizing t with
  | nil => simp
  | cons x vars ih =>
    cases t with
    | nil => simp at hl
    | cons y t =>
      by_cases e : x = s
      · simp [zipT, getT, e] at h
      · have h2 : getT (zipT vars t) s = none := by
          simpa only [getT, zipT, List.zipWith_cons_cons, List.find?_cons, beq_eq_false_iff_ne.2 e] using h
        simp only [List.mem_cons, not_or]
        exact ⟨fun h => e h.symm, ih (by simpa using hl) h2⟩
theorem nodup_snoc {l : List ByteArray} {k : Nat} {s : ByteArray} (hx : l[k]? = some s) (h : (l.take k).Nodup) (hs : s ∉ l.take k) : (l.take (k + 1)).Nodup := by
  rw [List.take_add_one, hx, List.nodup_append]
  refine ⟨h, by simp, ?_⟩
  intro a ha b hb
  simp at hb
  subst hb
  rintro rfl
  exact hs ha
theorem not_nodup {l : List ByteArray} {k : Nat} {s : ByteArray} (hx : l[k]? = some s) (hs : s ∈ l.take k) : ¬ l.Nodup := by
  intro h
  rw [← List.take_append_drop k l, List.nodup_append] at h
  have hd : s ∈ l.drop k := List.mem_of_getElem? (i := 0) (by simpa using hx)
  exact h.2.2 s hs s hd rfl

/-- the row's list and the error's number -/
def backSpec (t : List GV) (vars : List ByteArray) : List GTold × Int :=
  if t.length = vars.length then (if vars.Nodup then (zipT vars t, 0) else ([], 14)) else ([], 6)

/-- a map's value, nil or not -/
def MapV (w : World) (v : Value) (kvs : List (ByteArray × GV)) : Prop := (v = .map none ∧ kvs = []) ∨ ∃ g, v = .map (some g) ∧ MapIs w g (gvs kvs)

def MapErr (p : List GTold × Int) (w : World) (e : Ending) (w' : World) : Prop :=
  ∃ v, e = .returned (.tuple #[v, errV 91 p.2]) ∧ MapV w' v (envOf p.1) ∧ Below w.heap.size w w'

set_option maxRecDepth 100000 in
set_option maxHeartbeats 400000 in
theorem back_any (A0 : Option Addr) (n0 c0 : Nat) (t : List GV) (A : Option Addr) (n c : Nat) (l : List ByteArray) (w : World) (hl0 : SliceIs Enc.val w w.heap.size A0 n0 c0 t) (hl : SliceIs Enc.str w w.heap.size A n c l) :
    Calls Try.prog 14 #[.slice A0 n0 c0, .slice A n c] w (MapErr (backSpec t l) w) := by
  have hn := hl.bound
  have hn0 := hl0.bound
  have hlen := Lib.hid hl.1
  have hlen0 := Lib.hid hl0.1
  have hmm := @run_makeMap Try.prog
  by_cases heq : n0 = n
  · subst heq
    go_enter Try.func14, Try.ntmps14
    go_wp2
    clear hmm
    generalize hg : w.heap.size = g
    have Hg := Lib.hid hg
    clear hg
    go_loopw [7, 8, 9, 10, 20] (fun _ _ _ _ i wr => ∃ k : Nat, k ≤ n0 ∧ i = .int .i64 k ∧ MapIs wr g (gvs (envOf ((zipT l t).take k))) ∧ Hid ((l.take k).Nodup) ∧ Below g w wr) (fun _ _ _ _ i _ => n0 - (intOf i).toNat)
    case atStart => exact ⟨0, by omega, rfl, Hg.out ▸ MapIs.made, by simp [Hid], Hg.out ▸ (Below.refl _ _).alloc (Nat.le_refl _) _⟩
    case round =>
      obtain ⟨k, hk, rfl, hm, hnd, hbw⟩ := hrel
      by_cases hlt : k < n0
      · obtain ⟨b, o, s, rfl, hb, hx, hc, hs⟩ := (hl.below (Hg.out ▸ hbw)).str_at hlt
        obtain ⟨b2, o2, v, rfl, hb2, hx2, hc1, hc2, hc3, _⟩ := (hl0.below (Hg.out ▸ hbw)).val_at hlt
        clear hl hl0
        have HS := Lib.hid (envOf_take (zipT_get hx.out hx2.out))
        have hgl := hm.lt
        have hlk := hm.lookup_ok (P := Try.prog) (t := 35) (e := 63) Try.underlying35 Try.underlying9 (zero_value _) s
        rw [gvs_get] at hlk
        cases hgt : kvGet (envOf ((zipT l t).take k)) s with
        | some v2 =>
          have HR : Hid (backSpec t l = ([], 14)) := by
            have h1 := hgt
            rw [envOf_get, zipT_take] at h1
            unfold backSpec
            rw [if_pos (by have := hlen.out; have := hlen0.out; omega), if_neg (not_nodup hx.out (getT_zip_mem h1))]; rfl
          rw [hgt] at hlk
          clear hgt
          simp only [Option.map_some, Option.getD_some, Option.isSome_some] at hlk
          go_wp2
          go_ret2
          exact ⟨.map none, by rw [HR.out]; rfl, .inl ⟨rfl, by rw [HR.out]; rfl⟩, Hg.out ▸ hbw.alloc (Nat.le_of_lt hgl) _⟩
        | none =>
          have Hgt := Lib.hid hgt
          have hsn : Hid (s ∉ l.take k) := by
            have h1 := hgt
            rw [envOf_get, zipT_take] at h1
            exact getT_zip_none (by have := hlen.out; have := hlen0.out; simp; omega) h1
          rw [hgt] at hlk
          clear hgt
          simp only [Option.map_none, Option.getD_none, Option.isSome_none] at hlk
          obtain ⟨w2, hrun, hm2, hgr, _⟩ := (hm.alloc (.cells #[.int .i64 zeroV.k, .int .i64 zeroV.n, .string zeroV.s] 63)).update
            (P := Try.prog) (t := 35) (e := 63) Try.underlying35 Try.underlying9 s v.v
          have i0 : (0 : Int) ≤ (k : Int) := by omega
          have i1 : (k : Int) < (n0 : Int) := by omega
          have hb2' : b2 < wr.heap.size := World.block_lt_of_cell? wr _ hc1
          go_wp2
          go_roundw
          case rel => exact ⟨k + 1, by omega, by go_num, by rw [HS.out, envAdd, if_neg (by rw [Hgt.out]; simp), ← gvs_set]; exact hm2, nodup_snoc hx.out hnd.out hsn.out, (hbw.alloc (Nat.le_of_lt hgl) _).grown hgr (by simp; omega) (by rintro _ ⟨rfl⟩; exact Nat.le_refl _)⟩
          case measure => simp [intOf]; omega
      · have HR : Hid (backSpec t l = (zipT l t, 0)) := by
          have h1 := hnd.out
          rw [List.take_of_length_le (by have := hlen.out; omega)] at h1
          unfold backSpec
          rw [if_pos (by have := hlen.out; have := hlen0.out; omega), if_pos h1]; rfl
        have hm2 : MapIs wr g (gvs (envOf (zipT l t))) := by
          rw [List.take_of_length_le (by have := hlen.out; simp [zipT]; omega)] at hm; exact hm
        clear hm
        go_wp2
        go_ret2
        exact ⟨.map (some g), by rw [HR.out]; rfl, .inr ⟨g, rfl, by rw [HR.out]; exact hm2⟩, Hg.out ▸ hbw⟩
  · have hne : ((n0 : Int) != (n : Int)) = true := by simp; omega
    have HR : Hid (backSpec t l = ([], 6)) := by
      unfold backSpec; rw [if_neg (by have := hlen.out; have := hlen0.out; omega)]; rfl
    go_enter Try.func14, Try.ntmps14
    go_wp2
    go_ret2
    exact ⟨.map none, by rw [HR.out]; rfl, .inl ⟨rfl, by rw [HR.out]; rfl⟩, Below.refl _ _⟩

theorem told_ok {w : World} {B : Nat} {A : Option Addr} {n c : Nat} {l : List GTold} (h : SliceIs Enc.told w B A n c l) : ∀ t ∈ l, t.x.size ≤ reachN ∧ t.v.ok := by
  intro t ht
  rcases h.2.2.2.2 with h4 | ⟨b, o, _, _, hc⟩
  · subst h4; cases ht
  · obtain ⟨i, hi⟩ := List.mem_iff_getElem?.1 ht
    obtain ⟨cs, hok, _⟩ := hc i t hi
    exact hok.2

/-- the cells of a name and of a value, kept in later worlds -/
structure At14 (W : World) (b o b2 o2 k : Nat) (s : ByteArray) (v : GV) : Prop where
  h : W.cell? ⟨b, o + k, none⟩ = some (.string s) ∧ W.cell? ⟨b2, o2 + k * 3, none⟩ = some (.int .i64 v.k) ∧ W.cell? ⟨b2, o2 + k * 3 + 1, none⟩ = some (.int .i64 v.n) ∧ W.cell? ⟨b2, o2 + k * 3 + 2, none⟩ = some (.string v.s)
theorem At14.below {W W' : World} {b o b2 o2 k : Nat} {s : ByteArray} {v : GV} (h : At14 W b o b2 o2 k s v) (hb : Below W.heap.size W W') : At14 W' b o b2 o2 k s v :=
  ⟨below_cell hb h.h.1, below_cell hb h.h.2.1, below_cell hb h.h.2.2.1, below_cell hb h.h.2.2.2⟩

def ToldErr (p : List GTold × Int) (w : World) (e : Ending) (w' : World) : Prop :=
  ∃ A m c, e = .returned (.tuple #[.slice A m c, .int .i64 p.2]) ∧ SliceIs Enc.told w' w'.heap.size A m c p.1 ∧ Below w.heap.size w w'

set_option maxRecDepth 100000 in
set_option maxHeartbeats 400000 in
theorem refBack_any (A0 : Option Addr) (n0 c0 : Nat) (t : List GV) (A : Option Addr) (n c : Nat) (l : List ByteArray) (w : World) (hl0 : SliceIs Enc.val w w.heap.size A0 n0 c0 t) (hl : SliceIs Enc.str w w.heap.size A n c l) (h31 : n ≤ 1000) :
    Calls Try.prog 15 #[.slice A0 n0 c0, .slice A n c] w (ToldErr (backSpec t l) w) := by
  have hlen := Lib.hid hl.1
  have hlen0 := Lib.hid hl0.1
  by_cases heq : n0 = n
  · subst heq
    go_enter Try.func15, Try.ntmps15
    go_wp2_with fail
    go_loopw [6, 7, 8, 9] (fun v i _ _ wr => ∃ (k : Nat) (A' : Option Addr) (c' : Nat), k ≤ n0 ∧ i = .int .i64 k ∧ v = .slice A' k c' ∧ SliceIs Enc.told wr wr.heap.size A' k c' ((zipT l t).take k) ∧ Hid ((l.take k).Nodup) ∧ Below w.heap.size w wr) (fun _ i _ _ _ => n0 - (intOf i).toNat)
    case atStart => exact ⟨0, none, 0, by omega, rfl, rfl, SliceIs.nil, by simp [Hid], Below.refl _ _⟩
    case round =>
      obtain ⟨k, A', c', hk, rfl, rfl, hm, hnd, hbw⟩ := hrel
      by_cases hlt : k < n0
      · obtain ⟨b, o, s, rfl, hb, hx, hc, hs⟩ := (hl.below hbw).str_at hlt
        obtain ⟨b2, o2, v, rfl, hb2, hx2, hc1, hc2, hc3, hv⟩ := (hl0.below hbw).val_at hlt
        have hat : At14 wr b o b2 o2 k s v := ⟨hc, hc1, hc2, hc3⟩
        clear hl hl0 hc1 hc2 hc3
        have HZ := Lib.hid (zipT_get hx.out hx2.out)
        have Hall := Lib.hid (told_ok hm)
        have hget := Lib.hid (get_any A' k c' ((zipT l t).take k) s wr hm)
        have i0 : (0 : Int) ≤ (k : Int) := by omega
        have i1 : (k : Int) < (n0 : Int) := by omega
        cases hgt : getT ((zipT l t).take k) s with
        | some v2 =>
          have HR : Hid (backSpec t l = ([], 14)) := by
            have h1 := hgt
            rw [zipT_take] at h1
            unfold backSpec
            rw [if_pos (by have := hlen.out; have := hlen0.out; omega), if_neg (not_nodup hx.out (getT_zip_mem h1))]; rfl
          have Hgt := Lib.hid hgt
          clear hgt
          go_wp2_with fail
          refine hget.out.mono ?_
          rintro e w1 ⟨rfl, hb1⟩
          rw [Hgt.out]
          simp only [Option.getD_some, Option.isSome_some]
          go_wp2_with fail
          go_ret2
          exact ⟨none, 0, 0, by rw [HR.out]; rfl, by rw [HR.out]; exact SliceIs.nil, (hbw.trans (hb1.mono hbw.size)).alloc (Nat.le_trans hbw.size hb1.size) _⟩
        | none =>
          have hsn : Hid (s ∉ l.take k) := by
            have h1 := hgt
            rw [zipT_take] at h1
            exact getT_zip_none (by have := hlen.out; have := hlen0.out; simp; omega) h1
          have Hgt := Lib.hid hgt
          clear hgt
          go_wp2_with fail
          refine hget.out.mono ?_
          rintro e w1 ⟨rfl, hb1⟩
          rw [Hgt.out]
          simp only [Option.getD_none, Option.isSome_none]
          go_wp2_with fail
          have hbA := belowA hb1 (.cells #[.int .i64 zeroV.k, .int .i64 zeroV.n, .string zeroV.s] 63)
          generalize w1.alloc (.cells #[.int .i64 zeroV.k, .int .i64 zeroV.n, .string zeroV.s] 63) = wb at hbA ⊢
          have hatb := hat.below hbA
          obtain ⟨x1, x2, x3, x4⟩ := hatb.h
          have hset := Lib.hid (fun W (hW : Below wb.heap.size wb W) => set_any A' k c' ((zipT l t).take k) s v W (((hm.below hbA).mono hbA.size (fun _ _ => rfl)).below hW |>.mono hW.size (fun _ _ => rfl)) (by omega) hs hv Hall.out)
          have Hk := Lib.hid (fun W (hW : Below wb.heap.size wb W) => (hatb.below hW).h)
          clear hc
          go_region_held3 (fun w' => w'.cell? ⟨b, o + k, none⟩ = some (.string s) ∧ w'.cell? ⟨b2, o2 + k * 3, none⟩ = some (.int .i64 v.k) ∧ w'.cell? ⟨b2, o2 + k * 3 + 1, none⟩ = some (.int .i64 v.n) ∧ w'.cell? ⟨b2, o2 + k * 3 + 2, none⟩ = some (.string v.s))
            (first
              | (refine Hk.out _ ?_; first | assumption | (repeat (first | exact Below.refl _ _ | assumption | refine Below.drew ?_ | refine belowA ?_ _)))
              | go_keep)
            ((go_at_call 26
              refine (hset.out _ (Below.refl _ _).drew).mono ?_
              rintro e w2 ⟨A2, c2, rfl, hs2, hb2⟩
              have hb3 : Below wb.heap.size wb w2 := ((Below.refl wb.heap.size wb).drew).trans hb2))
          go_wp2_with fail
          go_roundw
          case rel => exact ⟨k + 1, A2, c2, by omega, by go_num, rfl, by rw [List.take_add_one, HZ.out]; exact hs2, nodup_snoc hx.out hnd.out hsn.out, hbw.trans ((hbA.trans (hb3.mono hbA.size)).mono hbw.size)⟩
          case measure => simp [intOf]; omega
      · have HR : Hid (backSpec t l = (zipT l t, 0)) := by
          have h1 := hnd.out
          rw [List.take_of_length_le (by have := hlen.out; omega)] at h1
          unfold backSpec
          rw [if_pos (by have := hlen.out; have := hlen0.out; omega), if_pos h1]; rfl
        have hzl : (zipT l t).length = n0 := by have := hlen.out; have := hlen0.out; simp [zipT]; omega
        have hkn : k = n0 := by omega
        subst hkn
        rw [List.take_of_length_le (by omega)] at hm
        clear hzl
        go_wp2_with fail
        go_ret2
        exact ⟨A', k, c', by rw [HR.out]; rfl, by rw [HR.out]; exact hm, hbw⟩
  · have hne : ((n0 : Int) != (n : Int)) = true := by simp; omega
    have HR : Hid (backSpec t l = ([], 6)) := by
      unfold backSpec; rw [if_neg (by have := hlen.out; have := hlen0.out; omega)]; rfl
    go_enter Try.func15, Try.ntmps15
    go_wp2_with fail
    go_ret2
    exact ⟨none, 0, 0, by rw [HR.out]; rfl, by rw [HR.out]; exact SliceIs.nil, Below.refl _ _⟩

end Go.Proofs.Ytggbfpjpkfhaeaa
