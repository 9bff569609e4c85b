/- The law BindRows: the walk. -/
import Derived.Test.YtggbfpjpkfhaeaaAlive14
import Derived.Test.YtggbfpjpkfhaeaaLong
namespace Go.Proofs.Ytggbfpjpkfhaeaa
open Go.RowKit

theorem getT_ok {w : World} {B : Nat} {A : Option Addr} {n c : Nat} {l : List GTold} (h : SliceIs Enc.told w B A n c l) : ∀ s v, getT l s = some v → v.ok := by
  intro s v hv
  simp only [getT, Option.map_eq_some_iff] at hv
  obtain ⟨t, ht, rfl⟩ := hv
  exact (told_ok h t (List.mem_of_find?_eq_some ht)).2

theorem SliceIs.keep {α : Type} {E : Enc α} {w w' : World} {A : Option Addr} {n c : Nat} {l : List α} (h : SliceIs E w w.heap.size A n c l) (hb : Below w.heap.size w w') : SliceIs E w' w'.heap.size A n c l :=
  (h.below hb).mono hb.size (fun _ _ => rfl)
theorem below_next {w W W' : World} (h : Below w.heap.size w W) (h' : Below W.heap.size W W') : Below w.heap.size w W' := h.trans (h'.mono h.size)

theorem tup1 {W : World} {A : Option Addr} {n c : Nat} {t : List GV} (h : SliceIs Enc.val W W.heap.size A n c t) (o : Obj) (ho : o = .cells #[.slice A n c] 24) : SliceIs (Enc.slice Enc.val) (W.alloc o) (W.alloc o).heap.size (some ⟨W.heap.size, 0, none⟩) 1 1 [t] := by
  subst ho
  refine ⟨rfl, Nat.le_refl _, by simp [maxLen], by simp [reachN], .inr ⟨W.heap.size, 0, rfl, by simp, fun i x hx => ?_⟩⟩
  match i, hx with
  | 0, hx =>
    simp at hx
    subst hx
    refine ⟨[.slice A n c], ⟨A, n, c, rfl, h.mono (by simp) (fun b hb => Below.heap_alloc _ _ _ hb)⟩, fun j v hv => ?_⟩
    match j, hv with
    | 0, hv => simp at hv; subst hv; simp [Enc.slice]

set_option maxRecDepth 100000 in
set_option maxHeartbeats 1000000 in
theorem bindRows_walk (A : Option Addr) (n c : Nat) (vars : List ByteArray) (A1 : Option Addr) (n1 c1 : Nat) (t : List GV) (A2 : Option Addr) (n2 c2 : Nat) (l : List GTold) (w : World)
    (hv : SliceIs Enc.str w w.heap.size A n c vars) (ht : SliceIs Enc.val w w.heap.size A1 n1 c1 t) (hl : SliceIs Enc.told w w.heap.size A2 n2 c2 l) :
    Calls Try.prog 3 #[.slice A n c, .slice A1 n1 c1, .slice A2 n2 c2] w (RetBool true w) := by
  have hal := Lib.hid (alive_any w)
  have Hv := Lib.hid hv
  have Ht := Lib.hid ht
  have Hl := Lib.hid hl
  have Hok := Lib.hid (getT_ok hl)
  clear hv ht hl
  go_enter Try.func3, Try.ntmps3
  go_wp2_with fail
  refine hal.out.mono ?_
  rintro e w1 ⟨rfl, b1⟩
  go_wp2_with fail
  refine (texts_any A n c vars w1 ((Hv.out.below b1).mono b1.size (fun _ _ => rfl))).mono ?_
  rintro e w2 ⟨r, rfl, hr, b2⟩
  have b2 := b1.trans (b2.mono b1.size)
  cases r with
  | true =>
    go_wp2_with fail
    go_ret
    exact ⟨rfl, b2⟩
  | false =>
    have hn31 := hr rfl
    clear hr
    go_wp2_with fail
    have hv0 := Lib.hid (tup1 (Ht.out.keep b2) (.cells #[.slice A1 n1 c1] 24) rfl)
    refine (long02_any _ _ _ [t] _ hv0.out).mono ?_
    rintro e w3 ⟨r, rfl, -, b3⟩
    have b3 := below_next (belowA b2 _) b3
    clear hv0
    cases r with
    | true =>
      go_wp2_with fail
      go_ret
      exact ⟨rfl, b3⟩
    | false =>
    go_wp2_with fail
    refine (long13_any A2 n2 c2 l w3 (Hl.out.keep b3)).mono ?_
    rintro e w4 ⟨r, rfl, -, b4⟩
    have b4 := below_next b3 b4
    cases r with
    | true =>
      go_wp2_with fail
      go_ret
      exact ⟨rfl, b4⟩
    | false =>
    go_wp2_with fail
    refine (env_any A2 n2 c2 l w4 (Hl.out.keep b4)).mono ?_
    rintro e w5 ⟨g, rfl, hg, -, b5⟩
    have b5 := below_next b4 b5
    have Hg := Lib.hid hg
    clear hg
    go_wp2_with fail
    refine (row_any g (envOf l) A n c vars w5 Hg.out (Hv.out.keep b5) (fun s v h => Hok.out s v (by rw [← envOf_get]; exact h))).mono ?_
    rw [show kvGet (envOf l) = getT l from funext (envOf_get l)]
    rintro e w6 ⟨AR, mR, cR, rfl, hR, b6⟩
    have b6' := Lib.hid b6
    have b6 := below_next b5 b6
    have HR := Lib.hid hR
    clear hR
    go_wp2_with fail
    refine (refRow_any A2 n2 c2 l A n c vars w6 (Hl.out.keep b6) (Hv.out.keep b6) Hok.out).mono ?_
    rintro e w7 ⟨AW, mW, cW, rfl, hW, b7⟩
    have HR := Lib.hid (HR.out.keep b7)
    have b7 := below_next b6 b7
    have HW := Lib.hid hW
    clear hW
    go_wp2_with fail
    refine (back_any A1 n1 c1 t A n c vars w7 (Ht.out.keep b7) (Hv.out.keep b7)).mono ?_
    rintro e w8 ⟨v, rfl, hM, b8⟩
    have HR := Lib.hid (HR.out.keep b8)
    have HW := Lib.hid (HW.out.keep b8)
    have b8 := below_next b7 b8
    have HM := Lib.hid hM
    clear hM
    go_wp2_with fail
    refine (refBack_any A1 n1 c1 t A n c vars w8 (Ht.out.keep b8) (Hv.out.keep b8) (by omega)).mono ?_
    rintro e w9 ⟨AB, mB, cB, rfl, hB, b9⟩
    have HR := Lib.hid (HR.out.keep b9)
    have HW := Lib.hid (HW.out.keep b9)
    have HM := Lib.hid (HM.out.below b9)
    have b9 := below_next b8 b9
    have HB := Lib.hid hB
    clear hB
    go_wp2_with fail
    refine (num_any _ _).mono ?_
    rintro e w10 ⟨rfl, b10⟩
    have HR := Lib.hid (HR.out.keep b10)
    have HW := Lib.hid (HW.out.keep b10)
    have HM := Lib.hid (HM.out.below b10)
    have HB := Lib.hid (HB.out.keep b10)
    have b10 := below_next b9 b10
    go_wp2_with fail
    refine (tuple_eq AR AW mR mW cR cW _ w10 HR.out HW.out).mono ?_
    rintro e w11 ⟨rfl, b11⟩
    have HM := Lib.hid (HM.out.below b11)
    have HB := Lib.hid (HB.out.keep b11)
    have b11 := below_next b10 b11
    go_wp2_with fail
    refine (num_any _ _).mono ?_
    rintro e w12 ⟨rfl, b12⟩
    have HM := Lib.hid (HM.out.below b12)
    have HB := Lib.hid (HB.out.keep b12)
    have b12 := below_next b11 b12
    go_wp2_with fail
    refine (same_any v (envOf (backSpec t vars).1) AB mB cB (backSpec t vars).1 w12 HM.out (envOf_keys _) HB.out (envOf_get _)).mono ?_
    rintro e w13 ⟨rfl, b13⟩
    have b13 := below_next b12 b13
    go_wp2_with fail
    go_ret
    exact ⟨rfl, b13⟩
end Go.Proofs.Ytggbfpjpkfhaeaa
