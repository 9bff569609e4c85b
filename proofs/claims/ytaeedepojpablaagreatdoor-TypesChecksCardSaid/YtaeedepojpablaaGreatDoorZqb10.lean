/- My own texts TRefR, TRefF, as far as this claim needs them. -/
import Derived.Test.YtaeedepojpablaaGreatDoorZq23
import Derived.Test.YtaeedepojpablaaGreatDoorZqb9
set_option linter.unusedVariables false
set_option linter.unusedSimpArgs false
set_option maxRecDepth 1000000
set_option maxHeartbeats 16000000
namespace Go.Proofs.YtaeedepojpablaaGreatDoor
open Go.RowKit
theorem lit5_size (x : GLit) (a p q : Hd) : (Tryz.prog.info? 107).map (·.size) = some (litC x a p q).length := by
 show _ = some 17; kernel_rfl
theorem refRightRule_any (d : Nat) (x : GRule) (a m : Hd) (w : World) (h : RuleAt d w w.heap.size x a m) : Calls Tryz.prog 39 #[.agg (ruleC x a m).toArray] w (RetBool (rightRule x) w) := by
 obtain ⟨P, HP⟩ : ∃ P, Hid (P = RetBool (rightRule x) w) := ⟨_, rfl⟩
 have HBad : Hid (rightRule x = false → ∀ w', Below w.heap.size w w' → P (.returned (.bool false)) w') := fun h w' hb => by rw [HP.out, h]; exact ⟨rfl, hb⟩
 have HGod : Hid (rightRule x = true → ∀ w', Below w.heap.size w w' → P (.returned (.bool true)) w') := fun h w' hb => by rw [HP.out, h]; exact ⟨rfl, hb⟩
 rw [← HP.out]; have hna := h.args.bound; have hn := h.body.bound; have Hla := hZ9 h.args.1; have Hlen := hZ9 h.body.1; have HK := hZ9 h; have HBA : Hid (atomB x.head = false → ∀ w', Below w.heap.size w w' → P (.returned (.bool false)) w') := fun h => HBad.out (by unfold rightRule; rw [h]; rfl)
 have HBL : Hid (x.body.all rightLit = false → ∀ w', Below w.heap.size w w' → P (.returned (.bool false)) w') := fun h => HBad.out (by unfold rightRule; rw [h]; simp)
 obtain ⟨aA, an, ac⟩ := a; obtain ⟨A, n, c⟩ := m; have Hla : Hid (x.head.args.length = an) := Hla.out; have Hlen : Hid (x.body.length = n) := Hlen.out; clear h HP; show Calls Tryz.prog 39 #[.agg #[.string x.head.rel, .slice aA an ac, .int .i64 x.agg, .int .i64 x.col, .slice A n c, .int .i64 x.pos]] w P; have HGood : Hid (x.body.length ≤ 8 → aggB x = true → atomB x.head = true → x.body.all rightLit = true → ∀ w', Below w.heap.size w w' → P (.returned (.bool true)) w') := fun h1 h2 h3 h4 => HGod.out (by unfold rightRule; rw [h2, h3, h4]; simp [h1])
 have HBg : Hid (aggB x = false → ∀ w', Below w.heap.size w w' → P (.returned (.bool false)) w') := fun h => HBad.out (by unfold rightRule; rw [h]; simp)
 by_cases h8 : 8 < n
 ·have h8' : (8 : Int) < (n : Int) := by omega
  have HB := hZ9 (HBad.out (by unfold rightRule; have := Hlen.out; have h9 : ¬ x.body.length ≤ 8 := (by omega); simp [h9]))
  clear HBad HGod HBA HBL HBg; clear HGood; have hrb : (w.alloc (.cells #[.string x.head.rel, .slice aA an ac, .int .i64 x.agg, .int .i64 x.col, .slice A n c, .int .i64 x.pos] 65)).heap[w.heap.size]? = some (.cells #[.string x.head.rel, .slice aA an ac, .int .i64 x.agg, .int .i64 x.col, .slice A n c, .int .i64 x.pos] 65 (0, 0)) := heapNew rfl; have hba : Below w.heap.size w (w.alloc (.cells #[.string x.head.rel, .slice aA an ac, .int .i64 x.agg, .int .i64 x.col, .slice A n c, .int .i64 x.pos] 65)) := belowA (Below.refl _ _) _; obtain ⟨b0, b1, b2, b3, b4, b5⟩ := facts6 hrb; have HC := hZ9 (refRightAtom_any x.head ⟨aA, an, ac⟩ (w.alloc (.cells #[.string x.head.rel, .slice aA an ac, .int .i64 x.agg, .int .i64 x.col, .slice A n c, .int .i64 x.pos] 65)) (HK.out.keep hba).args); go_enter Tryz.func39, Tryz.ntmps39
  go_wp2_with fail
  refine HC.out.mono ?_; rintro r w1 ⟨rfl, hb1⟩; have hr1 := (hb1.block _ (glt hrb)).trans hrb; have Hb1 := hZ9 (below_next hba hb1); clear b0 b1 b2 b3 b4 b5 HC hb1 hba hrb; obtain ⟨b0, b1, b2, b3, b4, b5⟩ := facts6 hr1; cases hq : atomB x.head with
  | false =>
    clear hq; go_wp2_with fail
    first | exact HB.out _ Hb1.out | (go_ret; exact HB.out _ Hb1.out)
  | true =>
    clear hq; go_wp2_with fail
    first | exact HB.out _ Hb1.out | (go_ret; exact HB.out _ Hb1.out)
 have h8' : ¬ (8 : Int) < (n : Int) := by omega
 have HGood := hZ9 (HGood.out (by have := Hlen.out; omega)); clear HBad HGod; by_cases ha0 : x.agg < 0
 ·have HB := hZ9 (HBg.out (by unfold aggB; rw [if_neg (by omega)]; have h9 : ¬ 0 ≤ x.agg := (by omega); simp [h9]))
  clear HBA HBL HBg; clear HGood; have hrb : (w.alloc (.cells #[.string x.head.rel, .slice aA an ac, .int .i64 x.agg, .int .i64 x.col, .slice A n c, .int .i64 x.pos] 65)).heap[w.heap.size]? = some (.cells #[.string x.head.rel, .slice aA an ac, .int .i64 x.agg, .int .i64 x.col, .slice A n c, .int .i64 x.pos] 65 (0, 0)) := heapNew rfl; have hba : Below w.heap.size w (w.alloc (.cells #[.string x.head.rel, .slice aA an ac, .int .i64 x.agg, .int .i64 x.col, .slice A n c, .int .i64 x.pos] 65)) := belowA (Below.refl _ _) _; obtain ⟨b0, b1, b2, b3, b4, b5⟩ := facts6 hrb; have HC := hZ9 (refRightAtom_any x.head ⟨aA, an, ac⟩ (w.alloc (.cells #[.string x.head.rel, .slice aA an ac, .int .i64 x.agg, .int .i64 x.col, .slice A n c, .int .i64 x.pos] 65)) (HK.out.keep hba).args); go_enter Tryz.func39, Tryz.ntmps39
  go_wp2_with fail
  refine HC.out.mono ?_; rintro r w1 ⟨rfl, hb1⟩; have hr1 := (hb1.block _ (glt hrb)).trans hrb; have Hb1 := hZ9 (below_next hba hb1); clear b0 b1 b2 b3 b4 b5 HC hb1 hba hrb; obtain ⟨b0, b1, b2, b3, b4, b5⟩ := facts6 hr1; cases hq : atomB x.head with
  | false =>
    clear hq; go_wp2_with fail
    first | exact HB.out _ Hb1.out | (go_ret; exact HB.out _ Hb1.out)
  | true =>
    clear hq; go_wp2_with fail
    first | exact HB.out _ Hb1.out | (go_ret; exact HB.out _ Hb1.out)
 by_cases ha4 : 4 < x.agg
 ·have HB := hZ9 (HBg.out (by unfold aggB; rw [if_neg (by omega)]; have h9 : ¬ x.agg ≤ 4 := (by omega); simp [h9]))
  clear HBA HBL HBg; clear HGood; have hrb : (w.alloc (.cells #[.string x.head.rel, .slice aA an ac, .int .i64 x.agg, .int .i64 x.col, .slice A n c, .int .i64 x.pos] 65)).heap[w.heap.size]? = some (.cells #[.string x.head.rel, .slice aA an ac, .int .i64 x.agg, .int .i64 x.col, .slice A n c, .int .i64 x.pos] 65 (0, 0)) := heapNew rfl; have hba : Below w.heap.size w (w.alloc (.cells #[.string x.head.rel, .slice aA an ac, .int .i64 x.agg, .int .i64 x.col, .slice A n c, .int .i64 x.pos] 65)) := belowA (Below.refl _ _) _; obtain ⟨b0, b1, b2, b3, b4, b5⟩ := facts6 hrb; have HC := hZ9 (refRightAtom_any x.head ⟨aA, an, ac⟩ (w.alloc (.cells #[.string x.head.rel, .slice aA an ac, .int .i64 x.agg, .int .i64 x.col, .slice A n c, .int .i64 x.pos] 65)) (HK.out.keep hba).args); go_enter Tryz.func39, Tryz.ntmps39
  go_wp2_with fail
  refine HC.out.mono ?_; rintro r w1 ⟨rfl, hb1⟩; have hr1 := (hb1.block _ (glt hrb)).trans hrb; have Hb1 := hZ9 (below_next hba hb1); clear b0 b1 b2 b3 b4 b5 HC hb1 hba hrb; obtain ⟨b0, b1, b2, b3, b4, b5⟩ := facts6 hr1; cases hq : atomB x.head with
  | false =>
    clear hq; go_wp2_with fail
    first | exact HB.out _ Hb1.out | (go_ret; exact HB.out _ Hb1.out)
  | true =>
    clear hq; go_wp2_with fail
    first | exact HB.out _ Hb1.out | (go_ret; exact HB.out _ Hb1.out)
 by_cases hz : x.agg = 0
 ·have z0 : (x.agg == 0) = true := by simp [hz]
  have z1 : ¬ 0 < x.agg := by omega
  by_cases hc : x.col = 0
  ·have c0 : (x.col != 0) = false := by simp [hc]
   have HGood := hZ9 (HGood.out (by unfold aggB; rw [if_pos hz]; simp [hc])); clear HBg hc hz; have hrb : (w.alloc (.cells #[.string x.head.rel, .slice aA an ac, .int .i64 x.agg, .int .i64 x.col, .slice A n c, .int .i64 x.pos] 65)).heap[w.heap.size]? = some (.cells #[.string x.head.rel, .slice aA an ac, .int .i64 x.agg, .int .i64 x.col, .slice A n c, .int .i64 x.pos] 65 (0, 0)) := heapNew rfl; have hba : Below w.heap.size w (w.alloc (.cells #[.string x.head.rel, .slice aA an ac, .int .i64 x.agg, .int .i64 x.col, .slice A n c, .int .i64 x.pos] 65)) := belowA (Below.refl _ _) _; obtain ⟨b0, b1, b2, b3, b4, b5⟩ := facts6 hrb; have HC := hZ9 (refRightAtom_any x.head ⟨aA, an, ac⟩ (w.alloc (.cells #[.string x.head.rel, .slice aA an ac, .int .i64 x.agg, .int .i64 x.col, .slice A n c, .int .i64 x.pos] 65)) (HK.out.keep hba).args); go_enter Tryz.func39, Tryz.ntmps39
   go_wp2_with fail
   refine HC.out.mono ?_; rintro r w1 ⟨rfl, hb1⟩; have hr1 := (hb1.block _ (glt hrb)).trans hrb; have Hb1 := hZ9 (below_next hba hb1); clear b0 b1 b2 b3 b4 b5 HC hb1 hba hrb; obtain ⟨b0, b1, b2, b3, b4, b5⟩ := facts6 hr1; cases hq : atomB x.head with
   | false =>
     have HB2 := hZ9 (HBA.out hq); clear hq HGood HBA HBL; go_wp2_with fail
     first | exact HB2.out _ Hb1.out | (go_ret; exact HB2.out _ Hb1.out)
   | true =>
     have HG2 := hZ9 (HGood.out hq); have HR1 := hZ9 hr1; clear hq HGood HBA hr1; go_wp2_with fail
     clear b0 b1 b2 b3 b4 b5; go_loopw [3] (fun i wr => ∃ k : Nat, k ≤ n ∧ i = .int .i64 k ∧ Hid ((x.body.take k).all rightLit = true) ∧ Hid (wr.heap[w.heap.size]? = some (.cells #[.string x.head.rel, .slice aA an ac, .int .i64 x.agg, .int .i64 x.col, .slice A n c, .int .i64 x.pos] 65 (0, 0))) ∧ Hid (Below w.heap.size w wr)) (fun i _ => n - (intOf i).toNat)
     case atStart => exact ⟨0, by omega, rfl, by show _ = _; simp, HR1, Hb1⟩
     case round =>
      obtain ⟨k, hk, rfl, HA, HR2, HBr⟩ := hrel; clear HR1 Hb1; have i0 : (0 : Int) ≤ (k : Int) := by omega
      obtain ⟨b0, b1, b2, b3, b4, b5⟩ := facts6 HR2.out; by_cases hlt : k < n
      ·have i1 : (k : Int) < (n : Int) := by omega
       obtain ⟨b, o, y, a', p', q', hAA, hbb, hy, hly, hr⟩ := (HK.out.keep HBr.out).body.lit_range hlt; simp only at hAA; subst hAA; have HL := hZ9 (refRightLit_any d y a' p' q' wr hly); have HT1 : Hid (rightLit y = true → (x.body.take (k + 1)).all rightLit = true) := fun h => by rw [all_take hy.out, HA.out, h]; rfl
       have HT2 := hZ9 (fun h => HBL.out (all_false hy.out h)); clear hy hly
       go_wp2_with (first
        | refine wpList_load_mid rfl 107 (.tmp 73) rfl b (o + k * 17) rfl (litC y a' p' q') _ hr.out Tryz.underlying107 rfl (lit5_size y a' p' q') ?_)
       refine HL.out.mono ?_; rintro r w2 ⟨rfl, hb2⟩; have HB2 := hZ9 (below_next HBr.out hb2); have HR3 := hZ9 ((hb2.block _ (glt HR2.out)).trans HR2.out); clear hb2 hr HL b0 b1 b2 b3 b4 b5; cases hq : rightLit y with
       | false =>
         have HB3 := hZ9 (HT2.out hq); clear hq HT1 HT2; go_wp2_with fail
         first | exact HB3.out _ HB2.out | (go_ret; exact HB3.out _ HB2.out)
       | true =>
         have HA2 := hZ9 (HT1.out hq); clear hq HT1 HT2; go_wp2_with fail
         go_roundw
         case rel => exact ⟨k + 1, by omega, by go_num, HA2, HR3, HB2⟩
         case measure => simp [intOf]; omega
      ·have i1 : ¬ (k : Int) < (n : Int) := by omega
       have HG3 := hZ9 (HG2.out (by have := HA.out; rwa [List.take_of_length_le (by have := Hlen.out; omega)] at this)); clear HG2; go_wp2_with fail
       first | exact HG3.out _ HBr.out | (go_ret; exact HG3.out _ HBr.out)
  ·have c0 : (x.col != 0) = true := by simp [hc]
   have HB := hZ9 (HBg.out (by unfold aggB; rw [if_pos hz]; simp [hc])); clear HBA HBL HBg hc hz; clear HGood; have hrb : (w.alloc (.cells #[.string x.head.rel, .slice aA an ac, .int .i64 x.agg, .int .i64 x.col, .slice A n c, .int .i64 x.pos] 65)).heap[w.heap.size]? = some (.cells #[.string x.head.rel, .slice aA an ac, .int .i64 x.agg, .int .i64 x.col, .slice A n c, .int .i64 x.pos] 65 (0, 0)) := heapNew rfl; have hba : Below w.heap.size w (w.alloc (.cells #[.string x.head.rel, .slice aA an ac, .int .i64 x.agg, .int .i64 x.col, .slice A n c, .int .i64 x.pos] 65)) := belowA (Below.refl _ _) _; obtain ⟨b0, b1, b2, b3, b4, b5⟩ := facts6 hrb; have HC := hZ9 (refRightAtom_any x.head ⟨aA, an, ac⟩ (w.alloc (.cells #[.string x.head.rel, .slice aA an ac, .int .i64 x.agg, .int .i64 x.col, .slice A n c, .int .i64 x.pos] 65)) (HK.out.keep hba).args); go_enter Tryz.func39, Tryz.ntmps39
   go_wp2_with fail
   refine HC.out.mono ?_; rintro r w1 ⟨rfl, hb1⟩; have hr1 := (hb1.block _ (glt hrb)).trans hrb; have Hb1 := hZ9 (below_next hba hb1); clear b0 b1 b2 b3 b4 b5 HC hb1 hba hrb; obtain ⟨b0, b1, b2, b3, b4, b5⟩ := facts6 hr1; cases hq : atomB x.head with
   | false =>
     clear hq; go_wp2_with fail
     first | exact HB.out _ Hb1.out | (go_ret; exact HB.out _ Hb1.out)
   | true =>
     clear hq; go_wp2_with fail
     first | exact HB.out _ Hb1.out | (go_ret; exact HB.out _ Hb1.out)
 have z0 : (x.agg == 0) = false := by simp [hz]
 have z1 : 0 < x.agg := by omega
 by_cases hc0 : x.col < 0
 ·have HB := hZ9 (HBg.out (by unfold aggB; rw [if_neg hz]; have h9 : ¬ 0 ≤ x.col := (by omega); simp [h9]))
  clear HBA HBL HBg hz; clear HGood; have hrb : (w.alloc (.cells #[.string x.head.rel, .slice aA an ac, .int .i64 x.agg, .int .i64 x.col, .slice A n c, .int .i64 x.pos] 65)).heap[w.heap.size]? = some (.cells #[.string x.head.rel, .slice aA an ac, .int .i64 x.agg, .int .i64 x.col, .slice A n c, .int .i64 x.pos] 65 (0, 0)) := heapNew rfl; have hba : Below w.heap.size w (w.alloc (.cells #[.string x.head.rel, .slice aA an ac, .int .i64 x.agg, .int .i64 x.col, .slice A n c, .int .i64 x.pos] 65)) := belowA (Below.refl _ _) _; obtain ⟨b0, b1, b2, b3, b4, b5⟩ := facts6 hrb; have HC := hZ9 (refRightAtom_any x.head ⟨aA, an, ac⟩ (w.alloc (.cells #[.string x.head.rel, .slice aA an ac, .int .i64 x.agg, .int .i64 x.col, .slice A n c, .int .i64 x.pos] 65)) (HK.out.keep hba).args); go_enter Tryz.func39, Tryz.ntmps39
  go_wp2_with fail
  refine HC.out.mono ?_; rintro r w1 ⟨rfl, hb1⟩; have hr1 := (hb1.block _ (glt hrb)).trans hrb; have Hb1 := hZ9 (below_next hba hb1); clear b0 b1 b2 b3 b4 b5 HC hb1 hba hrb; obtain ⟨b0, b1, b2, b3, b4, b5⟩ := facts6 hr1; cases hq : atomB x.head with
  | false =>
    clear hq; go_wp2_with fail
    first | exact HB.out _ Hb1.out | (go_ret; exact HB.out _ Hb1.out)
  | true =>
    clear hq; go_wp2_with fail
    first | exact HB.out _ Hb1.out | (go_ret; exact HB.out _ Hb1.out)
 obtain ⟨k0, hk0⟩ : ∃ k0 : Nat, x.col = (k0 : Int) := ⟨x.col.toNat, by omega⟩
 have Hk0 := hZ9 hk0; have k00 : (0 : Int) ≤ (k0 : Int) := by omega
 have k01 : ¬ (k0 : Int) < 0 := by omega
 simp only [hk0]; clear hc0; by_cases hca : (an : Int) ≤ (k0 : Int)
 ·have HB := hZ9 (HBg.out (by
   unfold aggB varAt; rw [if_neg hz, Hk0.out, Int.toNat_natCast, List.getElem?_eq_none (by have := Hla.out; omega)]
   simp))
  clear HBA HBL HBg hz hk0; clear HGood; have hrb : (w.alloc (.cells #[.string x.head.rel, .slice aA an ac, .int .i64 x.agg, .int .i64 (k0 : Int), .slice A n c, .int .i64 x.pos] 65)).heap[w.heap.size]? = some (.cells #[.string x.head.rel, .slice aA an ac, .int .i64 x.agg, .int .i64 (k0 : Int), .slice A n c, .int .i64 x.pos] 65 (0, 0)) := heapNew rfl; have hba : Below w.heap.size w (w.alloc (.cells #[.string x.head.rel, .slice aA an ac, .int .i64 x.agg, .int .i64 (k0 : Int), .slice A n c, .int .i64 x.pos] 65)) := belowA (Below.refl _ _) _; obtain ⟨b0, b1, b2, b3, b4, b5⟩ := facts6 hrb; have HC := hZ9 (refRightAtom_any x.head ⟨aA, an, ac⟩ (w.alloc (.cells #[.string x.head.rel, .slice aA an ac, .int .i64 x.agg, .int .i64 (k0 : Int), .slice A n c, .int .i64 x.pos] 65)) (HK.out.keep hba).args); go_enter Tryz.func39, Tryz.ntmps39
  go_wp2_with fail
  refine HC.out.mono ?_; rintro r w1 ⟨rfl, hb1⟩; have hr1 := (hb1.block _ (glt hrb)).trans hrb; have Hb1 := hZ9 (below_next hba hb1); clear b0 b1 b2 b3 b4 b5 HC hb1 hba hrb; obtain ⟨b0, b1, b2, b3, b4, b5⟩ := facts6 hr1; cases hq : atomB x.head with
  | false =>
    clear hq; go_wp2_with fail
    first | exact HB.out _ Hb1.out | (go_ret; exact HB.out _ Hb1.out)
  | true =>
    clear hq; go_wp2_with fail
    first | exact HB.out _ Hb1.out | (go_ret; exact HB.out _ Hb1.out)
 have hca' : (k0 : Int) < (an : Int) := by omega
 have hca3 : decide (an ≤ k0) = false := by simp; omega
 have hca4 : ¬ an ≤ k0 := by omega
 obtain ⟨ba, oa, t, hA', hbA, ht, x0, x1, x2, x3, f1, f2⟩ := HK.out.args.told_at (i := k0) (by show k0 < an; omega); try simp only at hA'
 subst hA'; have Ht := hZ9 (fun (W : World) (hb : Below w.heap.size w W) => below_cell hb x0); by_cases hts : t.x.size = 0
 ·have t0 : ((t.x.size : Int) == 0) = true := by simp [hts]
  have HB := hZ9 (HBg.out (by
   unfold aggB varAt; rw [if_neg hz, Hk0.out, Int.toNat_natCast, ht.out]
   simp [hts]))
  clear HBA HBL HBg hz hk0 ht x0 x1 x2 x3; clear HGood; have hrb : (w.alloc (.cells #[.string x.head.rel, .slice (some ⟨ba, oa, none⟩) an ac, .int .i64 x.agg, .int .i64 (k0 : Int), .slice A n c, .int .i64 x.pos] 65)).heap[w.heap.size]? = some (.cells #[.string x.head.rel, .slice (some ⟨ba, oa, none⟩) an ac, .int .i64 x.agg, .int .i64 (k0 : Int), .slice A n c, .int .i64 x.pos] 65 (0, 0)) := heapNew rfl; have hba : Below w.heap.size w (w.alloc (.cells #[.string x.head.rel, .slice (some ⟨ba, oa, none⟩) an ac, .int .i64 x.agg, .int .i64 (k0 : Int), .slice A n c, .int .i64 x.pos] 65)) := belowA (Below.refl _ _) _; obtain ⟨b0, b1, b2, b3, b4, b5⟩ := facts6 hrb; have HC := hZ9 (refRightAtom_any x.head ⟨(some ⟨ba, oa, none⟩), an, ac⟩ (w.alloc (.cells #[.string x.head.rel, .slice (some ⟨ba, oa, none⟩) an ac, .int .i64 x.agg, .int .i64 (k0 : Int), .slice A n c, .int .i64 x.pos] 65)) (HK.out.keep hba).args); go_enter Tryz.func39, Tryz.ntmps39
  go_wp2_with fail
  refine HC.out.mono ?_; rintro r w1 ⟨rfl, hb1⟩; have hr1 := (hb1.block _ (glt hrb)).trans hrb; have Hb1 := hZ9 (below_next hba hb1); clear b0 b1 b2 b3 b4 b5 HC hb1 hba hrb; obtain ⟨b0, b1, b2, b3, b4, b5⟩ := facts6 hr1; have x0 := Ht.out w1 Hb1.out; cases hq : atomB x.head with
  | false =>
    clear hq; go_wp2_with fail
    first | exact HB.out _ Hb1.out | (go_ret; exact HB.out _ Hb1.out)
  | true =>
    clear hq; go_wp2_with fail
    first | exact HB.out _ Hb1.out | (go_ret; exact HB.out _ Hb1.out)
 ·have t0 : ((t.x.size : Int) == 0) = false := by rw [beq_eq_false_iff_ne]; omega
  have HGood := hZ9 (HGood.out (by
   unfold aggB varAt; rw [if_neg hz, Hk0.out, Int.toNat_natCast, ht.out]; have h1 : 0 ≤ x.agg := by omega
   have h2 : x.agg ≤ 4 := by omega
   simp [hts, h1, h2]))
  clear HBg hz hk0 ht x0 x1 x2 x3; have hrb : (w.alloc (.cells #[.string x.head.rel, .slice (some ⟨ba, oa, none⟩) an ac, .int .i64 x.agg, .int .i64 (k0 : Int), .slice A n c, .int .i64 x.pos] 65)).heap[w.heap.size]? = some (.cells #[.string x.head.rel, .slice (some ⟨ba, oa, none⟩) an ac, .int .i64 x.agg, .int .i64 (k0 : Int), .slice A n c, .int .i64 x.pos] 65 (0, 0)) := heapNew rfl; have hba : Below w.heap.size w (w.alloc (.cells #[.string x.head.rel, .slice (some ⟨ba, oa, none⟩) an ac, .int .i64 x.agg, .int .i64 (k0 : Int), .slice A n c, .int .i64 x.pos] 65)) := belowA (Below.refl _ _) _; obtain ⟨b0, b1, b2, b3, b4, b5⟩ := facts6 hrb; have HC := hZ9 (refRightAtom_any x.head ⟨(some ⟨ba, oa, none⟩), an, ac⟩ (w.alloc (.cells #[.string x.head.rel, .slice (some ⟨ba, oa, none⟩) an ac, .int .i64 x.agg, .int .i64 (k0 : Int), .slice A n c, .int .i64 x.pos] 65)) (HK.out.keep hba).args); go_enter Tryz.func39, Tryz.ntmps39
  go_wp2_with fail
  refine HC.out.mono ?_; rintro r w1 ⟨rfl, hb1⟩; have hr1 := (hb1.block _ (glt hrb)).trans hrb; have Hb1 := hZ9 (below_next hba hb1); clear b0 b1 b2 b3 b4 b5 HC hb1 hba hrb; obtain ⟨b0, b1, b2, b3, b4, b5⟩ := facts6 hr1; have x0 := Ht.out w1 Hb1.out; cases hq : atomB x.head with
  | false =>
    have HB2 := hZ9 (HBA.out hq); clear hq HGood HBA HBL; go_wp2_with fail
    first | exact HB2.out _ Hb1.out | (go_ret; exact HB2.out _ Hb1.out)
  | true =>
    have HG2 := hZ9 (HGood.out hq); have HR1 := hZ9 hr1; clear hq HGood HBA hr1; go_wp2_with fail
    clear b0 b1 b2 b3 b4 b5; go_loopw [3] (fun i wr => ∃ k : Nat, k ≤ n ∧ i = .int .i64 k ∧ Hid ((x.body.take k).all rightLit = true) ∧ Hid (wr.heap[w.heap.size]? = some (.cells #[.string x.head.rel, .slice (some ⟨ba, oa, none⟩) an ac, .int .i64 x.agg, .int .i64 (k0 : Int), .slice A n c, .int .i64 x.pos] 65 (0, 0))) ∧ Hid (Below w.heap.size w wr)) (fun i _ => n - (intOf i).toNat)
    case atStart => exact ⟨0, by omega, rfl, by show _ = _; simp, HR1, Hb1⟩
    case round =>
     obtain ⟨k, hk, rfl, HA, HR2, HBr⟩ := hrel; clear HR1 Hb1; have i0 : (0 : Int) ≤ (k : Int) := by omega
     obtain ⟨b0, b1, b2, b3, b4, b5⟩ := facts6 HR2.out; by_cases hlt : k < n
     ·have i1 : (k : Int) < (n : Int) := by omega
      obtain ⟨b, o, y, a', p', q', hAA, hbb, hy, hly, hr⟩ := (HK.out.keep HBr.out).body.lit_range hlt; simp only at hAA; subst hAA; have HL := hZ9 (refRightLit_any d y a' p' q' wr hly); have HT1 : Hid (rightLit y = true → (x.body.take (k + 1)).all rightLit = true) := fun h => by rw [all_take hy.out, HA.out, h]; rfl
      have HT2 := hZ9 (fun h => HBL.out (all_false hy.out h)); clear hy hly
      go_wp2_with (first
       | refine wpList_load_mid rfl 107 (.tmp 73) rfl b (o + k * 17) rfl (litC y a' p' q') _ hr.out Tryz.underlying107 rfl (lit5_size y a' p' q') ?_)
      refine HL.out.mono ?_; rintro r w2 ⟨rfl, hb2⟩; have HB2 := hZ9 (below_next HBr.out hb2); have HR3 := hZ9 ((hb2.block _ (glt HR2.out)).trans HR2.out); clear hb2 hr HL b0 b1 b2 b3 b4 b5; cases hq : rightLit y with
      | false =>
        have HB3 := hZ9 (HT2.out hq); clear hq HT1 HT2; go_wp2_with fail
        first | exact HB3.out _ HB2.out | (go_ret; exact HB3.out _ HB2.out)
      | true =>
        have HA2 := hZ9 (HT1.out hq); clear hq HT1 HT2; go_wp2_with fail
        go_roundw
        case rel => exact ⟨k + 1, by omega, by go_num, HA2, HR3, HB2⟩
        case measure => simp [intOf]; omega
     ·have i1 : ¬ (k : Int) < (n : Int) := by omega
      have HG3 := hZ9 (HG2.out (by have := HA.out; rwa [List.take_of_length_le (by have := Hlen.out; omega)] at this)); clear HG2; go_wp2_with fail
      first | exact HG3.out _ HBr.out | (go_ret; exact HG3.out _ HBr.out)
end Go.Proofs.YtaeedepojpablaaGreatDoor

namespace Go.Proofs.YtaeedepojpablaaGreatDoor
open Go.RowKit
theorem refFormed_any (d : Nat) (x : GProg) (a b : Hd) (w : World) (h : ProgAt d w w.heap.size x a b) : Calls Tryz.prog 17 #[.agg #[a.v, b.v]] w (RetBool (formedB x) w) := by
 obtain ⟨P, HP⟩ : ∃ P, Hid (P = RetBool (formedB x) w) := ⟨_, rfl⟩
 have HBad : Hid (formedB x = false → ∀ w', Below w.heap.size w w' → P (.returned (.bool false)) w') := fun h w' hb => by rw [HP.out, h]; exact ⟨rfl, hb⟩
 have HGood : Hid (formedB x = true → ∀ w', Below w.heap.size w w' → P (.returned (.bool true)) w') := fun h w' hb => by rw [HP.out, h]; exact ⟨rfl, hb⟩
 rw [← HP.out]; have hn := h.decls.bound; have hm := h.rules.bound; obtain ⟨A, n, c⟩ := a; obtain ⟨B, m, e⟩ := b; have Hlen : Hid (x.decls.length = n) := h.decls.1; have Hlen2 : Hid (x.rules.length = m) := h.rules.1; have HK := hZ9 h; have HBD : Hid (x.decls.all declB = false → ∀ w', Below w.heap.size w w' → P (.returned (.bool false)) w') := fun h => HBad.out (by unfold formedB; rw [h]; simp)
 have HBR : Hid (x.rules.all rightRule = false → ∀ w', Below w.heap.size w w' → P (.returned (.bool false)) w') := fun h => HBad.out (by unfold formedB; rw [h]; simp)
 have hrb : (w.alloc (.cells #[.slice A n c, .slice B m e] 34)).heap[w.heap.size]? = some (.cells #[.slice A n c, .slice B m e] 34 (0, 0)) := heapNew rfl; have hba : Below w.heap.size w (w.alloc (.cells #[.slice A n c, .slice B m e] 34)) := belowA (Below.refl _ _) _; obtain ⟨b0, b1⟩ := facts2 hrb; clear h HP; show Calls Tryz.prog 17 #[.agg #[.slice A n c, .slice B m e]] w P; by_cases h32 : 32 < n
 ·have h32' : (32 : Int) < (n : Int) := by omega
  have HG := hZ9 (HBad.out (by unfold formedB; have := Hlen.out; have h9 : ¬ x.decls.length ≤ 32 := (by omega); simp [h9]))
  clear HBad HGood HBD HBR; go_enter Tryz.func17, Tryz.ntmps17
  go_wp2_with fail
  first | exact HG.out _ hba | (go_ret; exact HG.out _ hba)
 have h32' : ¬ (32 : Int) < (n : Int) := by omega
 by_cases h64 : 64 < m
 ·have h64' : (64 : Int) < (m : Int) := by omega
  have HG := hZ9 (HBad.out (by unfold formedB; have := Hlen2.out; have h9 : ¬ x.rules.length ≤ 64 := (by omega); simp [h9]))
  clear HBad HGood HBD HBR; go_enter Tryz.func17, Tryz.ntmps17
  go_wp2_with fail
  first | exact HG.out _ hba | (go_ret; exact HG.out _ hba)
 have h64' : ¬ (64 : Int) < (m : Int) := by omega
 have HG0 : Hid (x.decls.all declB = true → x.rules.all rightRule = true → ∀ w', Below w.heap.size w w' → P (.returned (.bool true)) w') := fun h1 h2 => HGood.out (by
  unfold formedB; have h8 : x.decls.length ≤ 32 := by have := Hlen.out; omega
  have h9 : x.rules.length ≤ 64 := by have := Hlen2.out; omega
  rw [h1, h2]; simp [h8, h9])
 have HR0 := hZ9 hrb; have HB0 := hZ9 hba; clear HBad HGood; go_enter Tryz.func17, Tryz.ntmps17
 go_wp2_with fail
 clear b0 b1 hrb hba; go_loopw [3] (fun i wr => ∃ k : Nat, k ≤ n ∧ i = .int .i64 k ∧ Hid ((x.decls.take k).all declB = true) ∧ Hid (wr.heap[w.heap.size]? = some (.cells #[.slice A n c, .slice B m e] 34 (0, 0))) ∧ Hid (Below w.heap.size w wr)) (fun i _ => n - (intOf i).toNat)
 case atStart => exact ⟨0, by omega, rfl, by show _ = _; simp, HR0, HB0⟩
 case round =>
  clear HR0 HB0; obtain ⟨k, hk, rfl, HA, HR, HBr⟩ := hrel; have i0 : (0 : Int) ≤ (k : Int) := by omega
  obtain ⟨b0, b1⟩ := facts2 HR.out; by_cases hlt : k < n
  ·have i1 : (k : Int) < (n : Int) := by omega
   obtain ⟨bb, o, y, aa, hAA, hbb, hy, hat, y0, y1, y2⟩ := (HK.out.keep HBr.out).decls.decl_at hlt; try simp only at hAA
   subst hAA; obtain ⟨aA, an, ac⟩ := aa; dsimp only [Hd.v] at y1; have hna := hat.kinds.bound; have Hky : Hid (y.kinds.length = an) := hat.kinds.1; have HT1 : Hid (declB y = true → (x.decls.take (k + 1)).all declB = true) := fun h => by rw [all_take hy.out, HA.out, h]; rfl
   have HT2 := hZ9 (fun h => HBD.out (all_false hy.out h)); have HN := hZ9 (refNamed_any y.rel (wr.alloc (.cells #[.string y.rel, .slice aA an ac, .int .i64 y.pos] 46))); have hba : Below wr.heap.size wr (wr.alloc (.cells #[.string y.rel, .slice aA an ac, .int .i64 y.pos] 46)) := belowA (Below.refl _ _) _; have HRa := hZ9 (heapOld (o := .cells #[.string y.rel, .slice aA an ac, .int .i64 y.pos] 46) HR.out); have hX : (wr.alloc (.cells #[.string y.rel, .slice aA an ac, .int .i64 y.pos] 46)).heap[wr.heap.size]? = some (.cells #[.string y.rel, .slice aA an ac, .int .i64 y.pos] 46 (0, 0)) := heapNew rfl; obtain ⟨z0, z1, z2⟩ := facts3 hX; have HXa := hZ9 hX; have HBa := hZ9 (below_next HBr.out hba); have HKy := hZ9 (hat.kinds.mono' hba.size (Kept.of hba.block)); clear hy hat hba hX; go_wp2_with fail
   refine HN.out.mono ?_; rintro r w1 ⟨rfl, hb1⟩; have HRb := hZ9 ((hb1.block _ (glt HRa.out)).trans HRa.out); have HXb := hZ9 ((hb1.block _ (glt HXa.out)).trans HXa.out); have HBb := hZ9 (below_next HBa.out hb1); have HKz := hZ9 (HKy.out.mono' hb1.size (Kept.of hb1.block)); clear b0 b1 z0 z1 z2 y0 y1 y2 HRa HXa HBa HKy hb1 HN; obtain ⟨b0, b1⟩ := facts2 HRb.out; obtain ⟨z0, z1, z2⟩ := facts3 HXb.out; cases hq : singleB 2 y.rel with
   | false =>
     have HG := hZ9 (HT2.out (by unfold declB; rw [hq]; rfl)); clear hq HT1 HT2 HG0 HBD HBR; go_wp2_with fail
     first | exact HG.out _ HBb.out | (go_ret; exact HG.out _ HBb.out)
   | true =>
     by_cases h6 : 6 < an
     ·have h6' : (6 : Int) < (an : Int) := by omega
      have HG := hZ9 (HT2.out (by unfold declB; have := Hky.out; have h9 : ¬ y.kinds.length ≤ 6 := (by omega); simp [h9]))
      clear hq HT1 HT2 HG0 HBD HBR; go_wp2_with fail
      first | exact HG.out _ HBb.out | (go_ret; exact HG.out _ HBb.out)
     have h6' : ¬ (6 : Int) < (an : Int) := by omega
     have HT3 : Hid (y.kinds.all kindB = true → (x.decls.take (k + 1)).all declB = true) := fun h => HT1.out (by unfold declB; rw [hq, h]; simp; have := Hky.out; omega)
     have HT4 : Hid (y.kinds.all kindB = false → ∀ w', Below w.heap.size w w' → P (.returned (.bool false)) w') := fun h => HT2.out (by unfold declB; rw [h]; simp)
     obtain ⟨gx, Hgx⟩ : ∃ gx, Hid (wr.heap.size = gx) := ⟨_, rfl⟩
     rw [Hgx.out] at z0 z1 z2 HXb ⊢; clear hq HT1 HT2; go_wp2_with fail
     clear z0 z1 z2 b0 b1; go_loopw [5] (fun i W => ∃ q : Nat, q ≤ an ∧ i = .int .i64 q ∧ Hid ((y.kinds.take q).all kindB = true) ∧ Hid (W = w1)) (fun i _ => an - (intOf i).toNat)
     case atStart => exact ⟨0, by omega, rfl, by show _ = _; simp, rfl⟩
     case round =>
      obtain ⟨q, hqn, rfl, HQ, HW⟩ := hrel; have hw := HW.out; subst hw; clear HW; have q0 : (0 : Int) ≤ (q : Int) := by omega
      obtain ⟨z0, z1, z2⟩ := facts3 HXb.out; by_cases hlq : q < an
      ·have q1 : (q : Int) < (an : Int) := by omega
       obtain ⟨b5, o5, kd, rfl, hb5, hkd, r0, rf⟩ := HKz.out.int_at hlq; by_cases hk1 : kd = 1
       ·have e1 : (kd != 1) = false := by simp [hk1]
        have HQ2 : Hid ((y.kinds.take (q + 1)).all kindB = true) := by show _ = _; rw [all_take hkd.out, HQ.out]; simp [kindB, hk1]
        clear hkd hk1; go_wp2_with fail
        go_roundw
        case rel => exact ⟨q + 1, by omega, by go_num, HQ2, by first | exact (rfl : _ = _) | exact (trivial : True)⟩
        case measure => simp [intOf]; omega
       ·have e1 : (kd != 1) = true := by simp [hk1]
        by_cases hk2 : kd = 2
        ·have e2 : (kd != 2) = false := by simp [hk2]
         have HQ2 : Hid ((y.kinds.take (q + 1)).all kindB = true) := by show _ = _; rw [all_take hkd.out, HQ.out]; simp [kindB, hk2]
         clear hkd hk1 hk2; go_wp2_with fail
         go_roundw
         case rel => exact ⟨q + 1, by omega, by go_num, HQ2, by first | exact (rfl : _ = _) | exact (trivial : True)⟩
         case measure => simp [intOf]; omega
        ·have e2 : (kd != 2) = true := by simp [hk2]
         have HG := hZ9 (HT4.out (all_false hkd.out (by simp [kindB, hk1, hk2]))); clear hkd hk1 hk2 HT3 HT4 HG0 HBD HBR; go_wp2_with fail
         first | exact HG.out _ HBb.out | (go_ret; exact HG.out _ HBb.out)
      ·have q1 : ¬ (q : Int) < (an : Int) := by omega
       have HA2 := hZ9 (HT3.out (by have := HQ.out; rwa [List.take_of_length_le (by have := Hky.out; omega)] at this)); clear HT3 HT4; go_wp2_with fail
       go_roundw
       case rel => exact ⟨k + 1, by omega, by go_num, HA2, HRb, HBb⟩
       case measure => simp [intOf]; omega
  ·have i1 : ¬ (k : Int) < (n : Int) := by omega
   have HG1 := hZ9 (HG0.out (by have := HA.out; rwa [List.take_of_length_le (by have := Hlen.out; omega)] at this)); clear HG0 HBD HA; go_wp2_with fail
   clear b0 b1; go_loopw [6] (fun i wr => ∃ k : Nat, k ≤ m ∧ i = .int .i64 k ∧ Hid ((x.rules.take k).all rightRule = true) ∧ Hid (wr.heap[w.heap.size]? = some (.cells #[.slice A n c, .slice B m e] 34 (0, 0))) ∧ Hid (Below w.heap.size w wr)) (fun i _ => m - (intOf i).toNat)
   case atStart => exact ⟨0, by omega, rfl, by show _ = _; simp, HR, HBr⟩
   case round =>
    clear HR HBr; obtain ⟨k2, hk2, rfl, HA, HR, HBr⟩ := hrel; have j0 : (0 : Int) ≤ (k2 : Int) := by omega
    obtain ⟨b0, b1⟩ := facts2 HR.out; by_cases hlt2 : k2 < m
    ·have j1 : (k2 : Int) < (m : Int) := by omega
     obtain ⟨bb, o, y, ak, mk, hAA, hbb, hy, hat, y0, y1, y2, y3, y4, y5⟩ := (HK.out.keep HBr.out).rules.rule_at hlt2; try simp only at hAA
     subst hAA; have HL := hZ9 (refRightRule_any d y ak mk wr hat); have HT1 : Hid (rightRule y = true → (x.rules.take (k2 + 1)).all rightRule = true) := fun h => by rw [all_take hy.out, HA.out, h]; rfl
     have HT2 := hZ9 (fun h => HBR.out (all_false hy.out h)); clear hy hat; go_wp2_with fail
     refine HL.out.mono ?_; rintro r w2 ⟨rfl, hb2⟩; have HB2 := hZ9 (below_next HBr.out hb2); have HR3 := hZ9 ((hb2.block _ (glt HR.out)).trans HR.out); clear hb2 HL b0 b1 y0 y1 y2 y3 y4 y5; cases hq : rightRule y with
     | false =>
       have HB3 := hZ9 (HT2.out hq); clear hq HT1 HT2 HG1 HBR; go_wp2_with fail
       first | exact HB3.out _ HB2.out | (go_ret; exact HB3.out _ HB2.out)
     | true =>
       have HA2 := hZ9 (HT1.out hq); clear hq HT1 HT2; go_wp2_with fail
       go_roundw
       case rel => exact ⟨k2 + 1, by omega, by go_num, HA2, HR3, HB2⟩
       case measure => simp [intOf]; omega
    ·have j1 : ¬ (k2 : Int) < (m : Int) := by omega
     have HG3 := hZ9 (HG1.out (by have := HA.out; rwa [List.take_of_length_le (by have := Hlen2.out; omega)] at this)); clear HG1 HBR; go_wp2_with fail
     first | exact HG3.out _ HBr.out | (go_ret; exact HG3.out _ HBr.out)
end Go.Proofs.YtaeedepojpablaaGreatDoor
