/- bind.Make and the document's: the tuple that an atom makes. -/
import Derived.Test.YtggbfpjpkfhaeaaTerm
import Derived.Test.YtggbfpjpkfhaeaaMeet
namespace Go.Proofs.Ytggbfpjpkfhaeaa
open Go.RowKit

def makeL (f : ByteArray → Option GV) : List GTold → List GV × Int
  | [] => ([], 0)
  | t :: l => if (termSpec f t).2 = 0 then (if (makeL f l).2 = 0 then ((termSpec f t).1 :: (makeL f l).1, 0) else ([], (makeL f l).2)) else ([], (termSpec f t).2)
theorem makeL_snoc {f : ByteArray → Option GV} {l : List GTold} {t : GTold} {r : List GV} (h : makeL f l = (r, 0)) : makeL f (l ++ [t]) = if (termSpec f t).2 = 0 then (r ++ [(termSpec f t).1], 0) else ([], (termSpec f t).2) := by
  induction l generalizing r with
  | nil => simp [makeL] at h; subst h; simp [makeL]
  | cons x l ih =>
    simp only [List.cons_append, makeL] at h ⊢
    by_cases hx : (termSpec f x).2 = 0
    · rw [if_pos hx] at h
      by_cases hl : (makeL f l).2 = 0
      · rw [if_pos hl] at h
        have := ih (r := (makeL f l).1) (Prod.ext rfl hl)
        rw [this, if_pos hx]
        simp only [Prod.mk.injEq] at h
        rw [← h.1]
        by_cases ht : (termSpec f t).2 = 0
        · simp [ht]
        · simp [ht]
      · rw [if_neg hl] at h
        simp only [Prod.mk.injEq] at h
        exact absurd h.2 hl
    · rw [if_neg hx] at h
      simp only [Prod.mk.injEq] at h
      exact absurd h.2 hx
theorem makeL_err {f : ByteArray → Option GV} {l : List GTold} {k : Nat} {e : Int} (h : makeL f (l.take k) = ([], e)) (he : e ≠ 0) : makeL f l = ([], e) := by
  induction l generalizing k with
  | nil => simp [makeL] at h; exact absurd h.symm he
  | cons x l ih =>
    cases k with
    | zero => simp [makeL] at h; exact absurd h.symm he
    | succ k =>
      simp only [List.take_succ_cons, makeL] at h ⊢
      by_cases hx : (termSpec f x).2 = 0
      · rw [if_pos hx] at h ⊢
        by_cases hl : (makeL f (l.take k)).2 = 0
        · rw [if_pos hl] at h; simp at h
        · rw [if_neg hl] at h
          simp only [Prod.mk.injEq, true_and] at h
          have h1 : makeL f (l.take k) = ([], e) := by
            refine Prod.ext ?_ h
            cases hlk : l.take k with
            | nil => rfl
            | cons y m =>
              rw [hlk] at hl
              simp only [makeL] at hl ⊢
              split at hl
              · split at hl
                · exact absurd rfl hl
                · rename_i h1 h2; rw [if_pos h1, if_neg h2]
              · rename_i h1; rw [if_neg h1]
          have h2 := ih h1
          rw [h2]; simp [he]
      · rw [if_neg hx] at h ⊢
        exact h
theorem termSpec_ok {f : ByteArray → Option GV} {t : GTold} (ht : t.v.ok) (hf : ∀ s v, f s = some v → v.ok) : (termSpec f t).1.ok := by
  have hz : zeroV.ok := by refine ⟨?_, ?_, ?_⟩ <;> first | (show (Lit.int .i64 0).wf = true; decide) | (simp [zeroV, reachN, ByteArray.size])
  unfold termSpec
  split
  · split
    · exact ht
    · exact hz
  · split
    · rename_i v hv
      split
      · exact hf _ _ hv
      · exact hz
    · exact hz
theorem makeL_ok {f : ByteArray → Option GV} {l : List GTold} (ht : ∀ t ∈ l, t.v.ok) (hf : ∀ s v, f s = some v → v.ok) : ∀ x ∈ (makeL f l).1, x.ok := by
  induction l with
  | nil => simp [makeL]
  | cons t l ih =>
    intro x hx
    simp only [makeL] at hx
    split at hx
    · split at hx
      · rcases List.mem_cons.1 hx with rfl | hx
        · exact termSpec_ok (ht _ List.mem_cons_self) hf
        · exact ih (fun t h => ht t (List.mem_cons_of_mem _ h)) x hx
      · simp at hx
    · simp at hx
def makeSpec (f : ByteArray → Option GV) (l : List GTold) : List GV × Int := if 6 < l.length then ([], 6) else makeL f l
theorem errV_ne (T : TypeId) {n : Int} (h : n ≠ 0) : errV T n = .iface T (.int .i64 n) := by simp [errV, h]
theorem errV_zero (T : TypeId) : errV T 0 = .nilIface := by simp [errV]

def TermRet (a b : Value) (w : World) (e : Ending) (w' : World) : Prop := e = .returned (.tuple #[a, b]) ∧ Below w.heap.size w w'

set_option maxRecDepth 100000 in
set_option maxHeartbeats 1000000 in
theorem make_any (rel : ByteArray) (A : Option Addr) (n c : Nat) (l : List GTold) (g : Nat) (kvs : List (ByteArray × GV)) (w : World) (hm : MapIs w g (gvs kvs)) (hl : SliceIs Enc.told w w.heap.size A n c l)
    (hok : ∀ s v, kvGet kvs s = some v → v.ok) :
    Calls Try.prog 23 #[.agg #[.string rel, .slice A n c], .map (some g)] w (TupErr (makeSpec (kvGet kvs) l) (errV 91) w) := by
  have hn := hl.bound
  have hlen := Lib.hid hl.1
  have htv := Lib.hid (fun t h => (told_ok hl t h).2)
  by_cases h6 : 6 < n
  · have HR : Hid (makeSpec (kvGet kvs) l = ([], 6)) := by unfold makeSpec; rw [if_pos (by have := hlen.out; omega)]; rfl
    clear hok
    go_enter Try.func23, Try.ntmps23
    go_wp2_with fail
    go_ret2
    exact ⟨none, 0, 0, by rw [HR.out]; rfl, by rw [HR.out]; exact SliceIs.nil, belowA (Below.refl _ _) _⟩
  · obtain ⟨w1, hmk, hown0, hb1⟩ := run_mk (P := Try.prog) (w.alloc (.cells #[.string rel, .slice A n c] 49)) (base := w.heap.size + 1) Try.underlying24 gv_info n (by omega) (by simp [maxLen]; omega) (by simp)
    have hok := Lib.hid hok
    have hc1 : w1.cell? ⟨w.heap.size, 1, none⟩ = some (.slice A n c) := (hb1.cell (p := ⟨w.heap.size, 1, none⟩) (by simp)).trans (by simp)
    have hbw := (belowA (Below.refl _ w) (.cells #[.string rel, .slice A n c] 49)).trans (hb1.mono (Nat.le_succ _))
    go_enter Try.func23, Try.ntmps23
    go_wp2_with fail
    clear hmk hc1
    go_loopw [6, 8, 9, 10, 23] (fun v _ _ _ i wr => ∃ (k : Nat) (r : List GV), k ≤ n ∧ i = .int .i64 k ∧ Hid (makeL (kvGet kvs) (l.take k) = (r, 0)) ∧ r.length = k ∧ wr.ownsRow (w.heap.size + 1) 63 3 v k (r.flatMap GV.cells) ∧ Below w.heap.size w wr) (fun _ _ _ _ i _ => n - (intOf i).toNat)
    case atStart => exact ⟨0, [], by omega, rfl, rfl, rfl, by simpa using hown0, hbw⟩
    case round =>
      obtain ⟨k, r, hk, rfl, hr, hrl, hown, hbr⟩ := hrel
      have Hrl := Lib.hid hrl
      clear hrl hb1 hbw hown0
      by_cases hlt : k < n
      · obtain ⟨b, o, x, rfl, _, hx, x1, x2, x3, x4, _⟩ := (hl.below hbr).told_at hlt
        clear hl
        have hmr := hm.below hbr hm.lt
        clear hm
        have hS : Hid (makeL (kvGet kvs) (l.take (k + 1)) = if (termSpec (kvGet kvs) x).2 = 0 then (r ++ [(termSpec (kvGet kvs) x).1], 0) else ([], (termSpec (kvGet kvs) x).2)) := by
          rw [List.take_add_one, hx.out]; exact makeL_snoc hr.out
        have HO : Hid ((termSpec (kvGet kvs) x).1.ok) := termSpec_ok (htv.out x (List.mem_of_getElem? hx.out)) hok.out
        have ht := term_any g kvs x (wr.alloc (.cells #[.string x.x, .int .i64 x.v.k, .int .i64 x.v.n, .string x.v.s] 78)) (hmr.alloc _)
        obtain ⟨⟨v, e⟩, hp⟩ : ∃ p, termSpec (kvGet kvs) x = p := ⟨_, rfl⟩
        rw [hp] at hS HO ht
        clear hp
        simp only at hS
        by_cases he : e = 0
        · subst he
          have ht := Lib.hid (ht.mono (R' := TermRet v.v .nilIface _) fun _ _ ⟨h1, h2⟩ => ⟨by rw [h1, errV_zero], h2⟩)
          go_wp2_with fail
          refine ht.out.mono ?_
          rintro e w2 ⟨rfl, hb2⟩
          obtain ⟨v2, w3, hrun, hown2, hb3⟩ := run_push (P := Try.prog) (w2.alloc (.cells #[.int .i64 v.k, .int .i64 v.n, .string v.s] 63)) (w2.heap.size + 1) (by simp) (ty := 24) Try.underlying24 gv_info rfl (by omega) ((own_below (hown.alloc _) hb2).alloc _)
            [.int .i64 v.k, .int .i64 v.n, .string v.s] rfl (by simp [Value.oneCell']) (by simp [maxLen]; omega) (by omega) (by have := hbr.size; have := hb2.size; simp only [World.size_alloc] at *; omega)
          have HRun := Lib.hid hrun
          clear hrun
          go_wp2_with (at_builtin; refine wpList_append_run rfl _ _ _ rfl _ _ rfl rfl HRun ?_)
          go_roundw
          case rel => exact ⟨k + 1, r ++ [v], by omega, by go_num, by rw [hS.out]; rfl, by have := Hrl.out; simp; omega, by simpa [GV.cells] using hown2, (belowA (below_next (belowA hbr _) hb2) _).trans (hb3.mono (by have := hbr.size; have := hb2.size; simp only [World.size_alloc] at *; omega))⟩
          case measure => simp [intOf]; omega
        · have he' : (e == 0) = false := by simp [he]
          have HR : Hid (makeSpec (kvGet kvs) l = ([], e)) := by
            show makeSpec (kvGet kvs) l = ([], e)
            unfold makeSpec; rw [if_neg (by have := hlen.out; omega)]
            exact makeL_err (k := k + 1) (by rw [hS.out, if_neg he]) he
          have ht := Lib.hid (ht.mono (R' := TermRet v.v (.iface 91 (.int .i64 e)) _) fun _ _ ⟨h1, h2⟩ => ⟨by rw [h1, errV_ne _ he], h2⟩)
          have hE := Lib.hid (errV_ne 91 he)
          clear he he' hS HO
          go_wp2_with fail
          refine ht.out.mono ?_
          rintro e w2 ⟨rfl, hb2⟩
          go_wp2_with fail
          go_ret2
          exact ⟨none, 0, 0, by rw [HR.out]; exact congrArg (fun z => Ending.returned (.tuple #[.slice none 0 0, z])) hE.out.symm, by rw [HR.out]; exact SliceIs.nil, belowA (below_next (belowA hbr _) hb2) _⟩
      · have HR : Hid (makeSpec (kvGet kvs) l = (r, 0)) := by
          have h1 : l.take k = l := List.take_of_length_le (by have := hlen.out; omega)
          have h2 := hr.out
          rw [h1] at h2
          unfold makeSpec; rw [if_neg (by have := hlen.out; omega), h2]; rfl
        obtain ⟨A2, c2, rfl⟩ := own_form hown
        have Hro : Hid (∀ x ∈ r, x.ok) := by
          have := makeL_ok (f := kvGet kvs) (l := l.take k) (fun t h => htv.out t (List.mem_of_mem_take h)) hok.out
          rw [hr.out] at this; exact this
        go_wp2_with fail
        go_ret2
        have hkr := Hrl.out
        subst hkr
        exact ⟨A2, _, c2, by rw [HR.out]; rfl, by
          rw [HR.out]
          exact SliceIs.of_flat GV.cells (fun _ => rfl) hown rfl (by simp [reachN]; omega) (fun x hx => ⟨rfl, Hro.out x hx⟩), hbr⟩

set_option maxRecDepth 100000 in
set_option maxHeartbeats 1000000 in
theorem refMake_any (rel : ByteArray) (A : Option Addr) (n c : Nat) (l : List GTold) (A0 : Option Addr) (n0 c0 : Nat) (l0 : List GTold) (w : World) (hl0 : SliceIs Enc.told w w.heap.size A0 n0 c0 l0) (hl : SliceIs Enc.told w w.heap.size A n c l)
    (hok : ∀ s v, getT l0 s = some v → v.ok) :
    Calls Try.prog 24 #[.agg #[.string rel, .slice A n c], .slice A0 n0 c0] w (TupErr (makeSpec (getT l0) l) (fun e => .int .i64 e) w) := by
  have hn := hl.bound
  have hlen := Lib.hid hl.1
  have htv := Lib.hid (fun t h => (told_ok hl t h).2)
  by_cases h6 : 6 < n
  · have HR : Hid (makeSpec (getT l0) l = ([], 6)) := by unfold makeSpec; rw [if_pos (by have := hlen.out; omega)]; rfl
    clear hok
    go_enter Try.func24, Try.ntmps24
    go_wp2_with fail
    go_ret2
    exact ⟨none, 0, 0, by rw [HR.out]; rfl, by rw [HR.out]; exact SliceIs.nil, belowA (Below.refl _ _) _⟩
  · have hok := Lib.hid hok
    have Hl0 := Lib.hid hl0
    clear hl0
    go_enter Try.func24, Try.ntmps24
    go_wp2_with fail
    go_loopw [6, 7, 8, 9] (fun v i _ _ wr => ∃ (k : Nat) (r : List GV), k ≤ n ∧ i = .int .i64 k ∧ Hid (makeL (getT l0) (l.take k) = (r, 0)) ∧ r.length = k ∧ wr.ownsRow (w.heap.size + 1) 63 3 v k (r.flatMap GV.cells) ∧ Below (w.heap.size + 1) (w.alloc (.cells #[.string rel, .slice A n c] 53)) wr) (fun _ i _ _ _ => n - (intOf i).toNat)
    case atStart => exact ⟨0, [], by omega, rfl, rfl, rfl, World.ownsRow_nil _ _ _ _, Below.refl _ _⟩
    case round =>
      obtain ⟨k, r, hk, rfl, hr, hrl, hown, hbr0⟩ := hrel
      have Hrl := Lib.hid hrl
      clear hrl
      have hbr : Below w.heap.size w wr := (belowA (Below.refl _ _) _).trans (hbr0.mono (by simp))
      have hc1 : wr.cell? ⟨w.heap.size, 1, none⟩ = some (.slice A n c) := (hbr0.cell (p := ⟨w.heap.size, 1, none⟩) (by simp)).trans (by simp)
      have hz0 : w.heap.size < wr.heap.size := by have := hbr0.size; simp at this; omega
      have Hbr0 := Lib.hid hbr0
      clear hbr0
      by_cases hlt : k < n
      · obtain ⟨b, o, x, rfl, _, hx, x1, x2, x3, x4, _⟩ := (hl.below hbr).told_at hlt
        clear hl
        have i0 : (0 : Int) ≤ (k : Int) := by omega
        have i1 : (k : Int) < (n : Int) := by omega
        have hS : Hid (makeL (getT l0) (l.take (k + 1)) = if (termSpec (getT l0) x).2 = 0 then (r ++ [(termSpec (getT l0) x).1], 0) else ([], (termSpec (getT l0) x).2)) := by
          rw [List.take_add_one, hx.out]; exact makeL_snoc hr.out
        have ht := refTerm_any x A0 n0 c0 l0 wr (Hl0.out.keep hbr) (htv.out x (List.mem_of_getElem? hx.out)) hok.out
        obtain ⟨⟨v, e⟩, hp⟩ : ∃ p, termSpec (getT l0) x = p := ⟨_, rfl⟩
        rw [hp] at hS ht
        clear hp
        simp only at hS
        have ht := Lib.hid (ht.mono (R' := TermRet v.v (.int .i64 e) _) fun _ _ ⟨h1, h2⟩ => ⟨h1, h2⟩)
        by_cases he : e = 0
        · subst he
          go_wp2_with fail
          refine ht.out.mono ?_
          rintro e w2 ⟨rfl, hb2⟩
          obtain ⟨v2, w3, hrun, hown2, hb3⟩ := run_push (P := Try.prog) (w2.alloc (.cells #[.int .i64 v.k, .int .i64 v.n, .string v.s] 63)) (w2.heap.size + 1) (by simp) (ty := 24) Try.underlying24 gv_info rfl (by omega) ((own_below hown hb2).alloc _)
            [.int .i64 v.k, .int .i64 v.n, .string v.s] rfl (by simp [Value.oneCell']) (by simp [maxLen]; omega) (by omega) (by have := hb2.size; simp only [World.size_alloc] at *; omega)
          have HRun := Lib.hid hrun
          clear hrun
          go_wp2_with (at_builtin; refine wpList_append_run rfl _ _ _ rfl _ _ rfl rfl HRun ?_)
          go_roundw
          case rel => exact ⟨k + 1, r ++ [v], by omega, by go_num, by rw [hS.out]; rfl, by have := Hrl.out; simp; omega, by simpa [GV.cells] using hown2,
            ((Hbr0.out.trans (hb2.mono hz0)).alloc (Nat.le_trans hz0 hb2.size) _).trans (hb3.mono (by have := hb2.size; omega))⟩
          case measure => simp [intOf]; omega
        · have he' : (e == 0) = false := by simp [he]
          have he'' : (e != 0) = true := by simp [he]
          have HR : Hid (makeSpec (getT l0) l = ([], e)) := by
            show makeSpec (getT l0) l = ([], e)
            unfold makeSpec; rw [if_neg (by have := hlen.out; omega)]
            exact makeL_err (k := k + 1) (by rw [hS.out, if_neg he]) he
          clear he hS
          go_wp2_with fail
          refine ht.out.mono ?_
          rintro e w2 ⟨rfl, hb2⟩
          go_wp2_with fail
          go_ret2
          exact ⟨none, 0, 0, by rw [HR.out]; rfl, by rw [HR.out]; exact SliceIs.nil, belowA (below_next hbr hb2) _⟩
      · have HR : Hid (makeSpec (getT l0) l = (r, 0)) := by
          have h1 : l.take k = l := List.take_of_length_le (by have := hlen.out; omega)
          have h2 := hr.out
          rw [h1] at h2
          unfold makeSpec; rw [if_neg (by have := hlen.out; omega), h2]; rfl
        obtain ⟨A2, c2, rfl⟩ := own_form hown
        have Hro : Hid (∀ x ∈ r, x.ok) := by
          have := makeL_ok (f := getT l0) (l := l.take k) (fun t h => htv.out t (List.mem_of_mem_take h)) hok.out
          rw [hr.out] at this; exact this
        have i1 : ¬ (k : Int) < (n : Int) := by omega
        go_wp2_with fail
        go_ret2
        have hkr := Hrl.out
        subst hkr
        exact ⟨A2, _, c2, by rw [HR.out]; rfl, by
          rw [HR.out]
          exact SliceIs.of_flat GV.cells (fun _ => rfl) hown rfl (by simp [reachN]; omega) (fun x hx => ⟨rfl, Hro.out x hx⟩), hbr⟩
end Go.Proofs.Ytggbfpjpkfhaeaa
