/- The law BindMeets: the walk. -/
import Derived.Test.YtggbfpjpkfhaeaaAlive14
import Derived.Test.YtggbfpjpkfhaeaaLaw5
import Derived.Test.YtggbfpjpkfhaeaaMake
import Derived.Test.YtggbfpjpkfhaeaaRefMeet
namespace Go.Proofs.Ytggbfpjpkfhaeaa
open Go.RowKit

set_option maxRecDepth 100000 in
set_option maxHeartbeats 2000000 in
theorem bindMeets_walk (rel : ByteArray) (hrel : rel.size ≤ 140737488351232) (A : Option Addr) (n c : Nat) (a : List GTold) (A1 : Option Addr) (n1 c1 : Nat) (t : List GV) (A2 : Option Addr) (n2 c2 : Nat) (l : List GTold) (w : World)
    (ha : SliceIs Enc.told w w.heap.size A n c a) (ht : SliceIs Enc.val w w.heap.size A1 n1 c1 t) (hl : SliceIs Enc.told w w.heap.size A2 n2 c2 l) :
    Calls Try.prog 4 #[.agg #[.string rel, .slice A n c], .slice A1 n1 c1, .slice A2 n2 c2] w (RetBool true w) := by
  have hal := fun W => alive_any W
  have Ha := Lib.hid ha
  have Ht := Lib.hid ht
  have Hl := Lib.hid hl
  have Hok := Lib.hid (getT_ok hl)
  have Hal := Lib.hid hal
  have Hrel := Lib.hid hrel
  clear ha ht hl hal hrel
  go_enter Try.func4, Try.ntmps4
  go_wp2_with fail
  refine (Hal.out _).mono ?_
  rintro e w1 ⟨rfl, hb⟩
  have b1 := below_next (belowA (Below.refl _ w) _) hb
  have hc1 : w1.cell? ⟨w.heap.size, 0, none⟩ = some (.string rel) := (hb.cell (p := ⟨w.heap.size, 0, none⟩) (by simp)).trans (by simp)
  have hc2 : w1.cell? ⟨w.heap.size, 1, none⟩ = some (.slice A n c) := (hb.cell (p := ⟨w.heap.size, 1, none⟩) (by simp)).trans (by simp)
  clear hb
  go_wp2_with fail
  refine (long_any rel Hrel.out A n c a A1 n1 c1 t A2 n2 c2 l w1 (Ha.out.keep b1) (Ht.out.keep b1) (Hl.out.keep b1)).mono ?_
  rintro e w2 ⟨r, rfl, hr, b2⟩
  have d1 := below_cell b2 hc1
  have d2 := below_cell b2 hc2
  have b2 := below_next b1 b2
  clear hc1 hc2
  cases r with
  | true =>
    go_wp2_with fail
    go_ret
    exact ⟨rfl, b2⟩
  | false =>
    have Hn := Lib.hid (hr rfl)
    clear hr
    go_wp2_with fail
    refine (atom5_any rel A n c a w2 Hn.out.1 (Ha.out.keep b2)).mono ?_
    rintro e w3 ⟨A5, c5, rfl, h5, b3⟩
    have d1 := below_cell b3 d1
    have d2 := below_cell b3 d2
    have hsz3 := b3.size
    have b3 := below_next b2 b3
    have H5 := Lib.hid h5
    clear h5
    go_wp2_with fail
    have m1 : (w3.alloc (.cells #[.string rel, .slice A5 n c5] 53)).cell? ⟨w3.heap.size, 0, none⟩ = some (.string rel) := by simp
    have m2 : (w3.alloc (.cells #[.string rel, .slice A5 n c5] 53)).cell? ⟨w3.heap.size, 1, none⟩ = some (.slice A5 n c5) := by simp
    have d1 := cellA (o := .cells #[.string rel, .slice A5 n c5] 53) d1
    have d2 := cellA (o := .cells #[.string rel, .slice A5 n c5] 53) d2
    have H5 := Lib.hid (H5.out.keep (belowA (Below.refl _ _) (.cells #[.string rel, .slice A5 n c5] 53)))
    have b4 := belowA b3 (.cells #[.string rel, .slice A5 n c5] 53)
    generalize w3.alloc (.cells #[.string rel, .slice A5 n c5] 53) = w4 at m1 m2 d1 d2 H5 b4 ⊢
    refine (env_any A2 n2 c2 l w4 (Hl.out.keep b4)).mono ?_
    rintro e w5 ⟨g, rfl, hg, -, b5⟩
    have d1 := below_cell b5 d1
    have d2 := below_cell b5 d2
    have m1 := below_cell b5 m1
    have m2 := below_cell b5 m2
    have H5 := Lib.hid (H5.out.keep b5)
    have b5 := below_next b4 b5
    have Hg := Lib.hid hg
    clear hg b1 b2 b3 b4
    go_wp2_with fail
    refine (meet_any rel A n c a A1 n1 c1 t (.map (some g)) (getT l) w5 (Ha.out.keep b5) (Ht.out.keep b5) ⟨envOf l, .inr ⟨g, rfl, Hg.out⟩, envOf_keys l, envOf_get l⟩).mono ?_
    rintro e w6 ⟨v, rfl, hv, b6⟩
    have d1 := below_cell b6 d1
    have d2 := below_cell b6 d2
    have m1 := below_cell b6 m1
    have m2 := below_cell b6 m2
    have H5 := Lib.hid (H5.out.keep b6)
    have Hg := Lib.hid (Hg.out.below b6 Hg.out.lt)
    have b6' := Lib.hid b6
    have b6 := below_next b5 b6
    have hM := refMeet_any rel A5 n c5 a A1 n1 c1 t A2 n2 c2 l w6 Hn.out.1 Hn.out.2 H5.out (Ht.out.keep b6) (Hl.out.keep b6)
    generalize meetF a t (getT l) = rm at hv hM ⊢
    have hM := Lib.hid hM
    clear b5 b6'
    cases rm with
    | none =>
      simp only at hv
      subst hv
      have hlen := fun W => mapV_len (w := W) (v := .map none) (kvs := []) (.inl ⟨rfl, rfl⟩)
      simp only [Option.isSome_none]
      go_wp2_with fail
      refine (hM.out).mono ?_
      rintro e w7 ⟨AW, mW, cW, lw, rfl, hW, HWf, b7⟩
      have d1 := below_cell b7 d1
      have d2 := below_cell b7 d2
      have m1 := below_cell b7 m1
      have m2 := below_cell b7 m2
      have H5 := Lib.hid (H5.out.keep b7)
      have Hg := Lib.hid (Hg.out.below b7 Hg.out.lt)
      have b7 := below_next b6 b7
      have HW := Lib.hid hW
      have HWf := Lib.hid HWf
      clear hW hM b6
      go_wp2_with fail
      refine (make_any rel A n c a g (envOf l) w7 Hg.out (Ha.out.keep b7) (fun s v h => Hok.out s v (by rw [← envOf_get]; exact h))).mono ?_
      rw [show kvGet (envOf l) = getT l from funext (envOf_get l)]
      rintro e w8 ⟨AX, mX, cX, rfl, hX, b8⟩
      have m1 := below_cell b8 m1
      have m2 := below_cell b8 m2
      have H5 := Lib.hid (H5.out.keep b8)
      have Hg := Lib.hid (Hg.out.below b8 Hg.out.lt)
      have HW := Lib.hid (HW.out.keep b8)
      have b8 := below_next b7 b8
      have HX := Lib.hid hX
      clear hX d1 d2 b7
      go_wp2_with fail
      refine (refMake_any rel A5 n c5 a A2 n2 c2 l w8 (Hl.out.keep b8) H5.out Hok.out).mono ?_
      rintro e w9 ⟨AY, mY, cY, rfl, hY, b9⟩
      have Hg := Lib.hid (Hg.out.below b9 Hg.out.lt)
      have HW := Lib.hid (HW.out.keep b9)
      have HX := Lib.hid (HX.out.keep b9)
      have b9 := below_next b8 b9
      have HY := Lib.hid hY
      clear hY m1 m2 b8
      go_wp2_with fail
      refine (num_any _ _).mono ?_
      rintro e w10 ⟨rfl, b10⟩
      have Hg := Lib.hid (Hg.out.below b10 Hg.out.lt)
      have HW := Lib.hid (HW.out.keep b10)
      have HX := Lib.hid (HX.out.keep b10)
      have HY := Lib.hid (HY.out.keep b10)
      have b10 := below_next b9 b10
      go_wp2_with fail
      refine (tuple_eq AX AY mX mY cX cY _ w10 HX.out HY.out).mono ?_
      rintro e w11 ⟨rfl, b11⟩
      have Hg := Lib.hid (Hg.out.below b11 Hg.out.lt)
      have HW := Lib.hid (HW.out.keep b11)
      have b11 := below_next b10 b11
      clear HX HY b10 b9
      go_wp2_with fail
      refine (same_any (.map (some g)) (envOf l) A2 n2 c2 l w11 (.inr ⟨g, rfl, Hg.out⟩) (envOf_keys l) (Hl.out.keep b11) (envOf_get l)).mono ?_
      rintro e w12 ⟨rfl, b12⟩
      have HW := Lib.hid (HW.out.keep b12)
      have b12 := below_next b11 b12
      go_wp2_with fail
      go_ret
      exact ⟨rfl, b12⟩
    | some f =>
      have Hv := Lib.hid hv
      clear hv
      simp only [Option.isSome_some]
      go_wp2_with fail
      refine (hM.out).mono ?_
      rintro e w7 ⟨AW, mW, cW, lw, rfl, hW, HWf, b7⟩
      have d1 := below_cell b7 d1
      have d2 := below_cell b7 d2
      have m1 := below_cell b7 m1
      have m2 := below_cell b7 m2
      have H5 := Lib.hid (H5.out.keep b7)
      have Hg := Lib.hid (Hg.out.below b7 Hg.out.lt)
      have Hv := Lib.hid (Hv.out.below b7)
      have b7 := below_next b6 b7
      have HW := Lib.hid hW
      have HWf := Lib.hid HWf
      clear hW hM b6
      go_wp2_with fail
      refine (make_any rel A n c a g (envOf l) w7 Hg.out (Ha.out.keep b7) (fun s v h => Hok.out s v (by rw [← envOf_get]; exact h))).mono ?_
      rw [show kvGet (envOf l) = getT l from funext (envOf_get l)]
      rintro e w8 ⟨AX, mX, cX, rfl, hX, b8⟩
      have m1 := below_cell b8 m1
      have m2 := below_cell b8 m2
      have H5 := Lib.hid (H5.out.keep b8)
      have Hg := Lib.hid (Hg.out.below b8 Hg.out.lt)
      have HW := Lib.hid (HW.out.keep b8)
      have Hv := Lib.hid (Hv.out.below b8)
      have b8 := below_next b7 b8
      have HX := Lib.hid hX
      clear hX d1 d2 b7
      go_wp2_with fail
      refine (refMake_any rel A5 n c5 a A2 n2 c2 l w8 (Hl.out.keep b8) H5.out Hok.out).mono ?_
      rintro e w9 ⟨AY, mY, cY, rfl, hY, b9⟩
      have Hg := Lib.hid (Hg.out.below b9 Hg.out.lt)
      have HW := Lib.hid (HW.out.keep b9)
      have HX := Lib.hid (HX.out.keep b9)
      have Hv := Lib.hid (Hv.out.below b9)
      have b9 := below_next b8 b9
      have HY := Lib.hid hY
      clear hY m1 m2 b8
      go_wp2_with fail
      refine (num_any _ _).mono ?_
      rintro e w10 ⟨rfl, b10⟩
      have Hg := Lib.hid (Hg.out.below b10 Hg.out.lt)
      have HW := Lib.hid (HW.out.keep b10)
      have HX := Lib.hid (HX.out.keep b10)
      have HY := Lib.hid (HY.out.keep b10)
      have Hv := Lib.hid (Hv.out.below b10)
      have b10 := below_next b9 b10
      go_wp2_with fail
      refine (tuple_eq AX AY mX mY cX cY _ w10 HX.out HY.out).mono ?_
      rintro e w11 ⟨rfl, b11⟩
      have Hg := Lib.hid (Hg.out.below b11 Hg.out.lt)
      have HW := Lib.hid (HW.out.keep b11)
      have Hv := Lib.hid (Hv.out.below b11)
      have b11 := below_next b10 b11
      clear HX HY b10 b9
      go_wp2_with fail
      refine (same_any (.map (some g)) (envOf l) A2 n2 c2 l w11 (.inr ⟨g, rfl, Hg.out⟩) (envOf_keys l) (Hl.out.keep b11) (envOf_get l)).mono ?_
      rintro e w12 ⟨rfl, b12⟩
      have HW := Lib.hid (HW.out.keep b12)
      have Hv := Lib.hid (Hv.out.below b12)
      have b12 := below_next b11 b12
      go_wp2_with fail
      obtain ⟨kvs, e1, e2, e3⟩ := Hv.out
      refine (same_any v kvs AW mW cW lw w12 e1 e2 HW.out (fun s => by rw [e3, HWf.out])).mono ?_
      rintro e w13 ⟨rfl, b13⟩
      have b13 := below_next b12 b13
      go_wp2_with fail
      go_ret
      exact ⟨rfl, b13⟩
end Go.Proofs.Ytggbfpjpkfhaeaa
