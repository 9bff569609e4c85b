/- My own texts PaT, PushC, as far as this claim needs them. -/
import Derived.Test.YtaeedepojpablaaGreatDoorZq11
set_option linter.unusedVariables false
set_option linter.unusedSimpArgs false
set_option maxRecDepth 1000000
set_option maxHeartbeats 16000000
namespace Go.Proofs.YtaeedepojpablaaGreatDoor
open Go.RowKit
theorem num_tok {t : List UInt8} (h : TextOf wordK 4 t) : ∃ n : Nat, n ≤ 2147483647 ∧ Lib.atoiAll t = .ok (n : Int) ∧ numT t = (n : Int) := by
 obtain ⟨-, ⟨hw, -, hins, -⟩ | ⟨h5, -⟩⟩ := h
 ·have hr : (refNum t).isSome = true := by
   unfold wordK at hw; split at hw
   ·cases hw
   ·split at hw
    ·cases hw
    ·split at hw
     ·cases hw
     ·split at hw
      ·assumption
      ·cases hw
  obtain ⟨n, hn⟩ := Option.isSome_iff_exists.1 hr; obtain ⟨e, h1, h2⟩ := refNum_some hn
  have h0 : 0 ≤ n := by
   by_cases h0 : 0 ≤ n
   ·exact h0
   ·exfalso
    have : (45 : UInt8) ∈ t := by
     rw [e]; unfold Lib.itoa; rw [if_pos (by omega)]; simp
    have := hins 45 this; revert this; decide
  have ha := (refNum_itoa h1 h2).2; rw [← e] at ha; obtain ⟨m, rfl⟩ : ∃ m : Nat, n = (m : Int) := ⟨n.toNat, by omega⟩
  exact ⟨m, by omega, ha, by unfold numT; rw [ha]⟩
 ·cases h5
section
variable {B g : Nat} {A : Option Addr} {c : Nat} {T : List GTok} {E : Nat} {s : PS} {w : World}
theorem tok_len (h : Rd B g A c T E s w) {q : GTok} (hq : q ∈ T) : q.t.length ≤ reachN := by
 obtain ⟨i, hi⟩ := List.mem_iff_getElem?.1 hq; obtain ⟨_, _, x, _, _, hx, _, _, _, _, _, hl⟩ := h.tok_at (List.getElem?_eq_some_iff.1 hi).1; have := hx.out; rw [hi] at this; injection this with this
 rw [this]; exact hl
theorem atoi_tok {t : List UInt8} {n : Nat} (ha : Lib.atoiAll t = .ok (n : Int)) (hl : t.length ≤ reachN) (w : World) : Calls Tryz.prog 167 #[.string (bytes t)] w (RetV (.tuple #[.int .i64 n, .nilIface]) w) := by
 refine (Tryz.strconv_Atoi_ok (bytes t) (by show t.length ≤ _; have : t.length ≤ 140737488351232 := hl; omega) n (by exact ha) w).mono ?_; rintro e w' ⟨rfl, hw⟩; refine ⟨rfl, ?_⟩; rcases hw with rfl | ⟨t, rfl⟩
 ·exact Below.refl _ _
 ·exact Lib.bytesWorld_below _ _ _
theorem set4_out (W : World) (b : Nat) (v0 v1 v2 v3 : Value) : Out [b] W ((((W.setCell ⟨b, 0, none⟩ v0).setCell ⟨b, 1, none⟩ v1).setCell ⟨b, 2, none⟩ v2).setCell ⟨b, 3, none⟩ v3) :=
 out_next (out_next (out_next (set_out _ _ _ _) (set_out _ _ _ _)) (set_out _ _ _ _)) (set_out _ _ _ _)
theorem froz4 {W : World} {b : Nat} {cs : Array Value} {t : TypeId} (h : W.heap[b]? = some (.cells cs t (0, 0))) : ∀ i, W.frozen? ⟨b, i, none⟩ = false := fun _ => frozen_of_row _ _ _ _ _ h
theorem rterm_any (h : Rd B g A c T E s w) : Calls Tryz.prog 133 #[.pointer (some ⟨g, 0, none⟩)] w (RdPost B g A c T E (termP T E s).1 (toldV (termP T E s).2) w) := by
 obtain ⟨P, HP⟩ : ∃ P : Ending → World → Prop, Hid (P = RdPost B g A c T E (termP T E s).1 (toldV (termP T E s).2) w) := ⟨_, rfl⟩
 rw [← HP.out]; obtain ⟨s1, Hs1⟩ : ∃ s1, Hid (s1 = mayP T E s [45]) := ⟨_, rfl⟩
 obtain ⟨q, Hq⟩ : ∃ q, Hid (q = peekP T E s1 0) := ⟨_, rfl⟩
 obtain ⟨m, Hm⟩ : ∃ m : Int, Hid (m = if isP T E s [45] = true then -1 else 1) := ⟨_, rfl⟩
 have hX4 : q.k = 4 → ∀ w', Rd B g A c T E s1.up w' → Out [g] w w' → P (.returned (.agg #[.string ⟨#[]⟩, .int .i64 1, .int .i64 (m * numT q.t), .string ⟨#[]⟩])) w' := fun hk w' hr ho => by
  have h4 : (peekP T E (mayP T E s [45]) 0).k = 4 := by rw [← Hs1.out, ← Hq.out]; exact hk
  rw [HP.out]; unfold termP; dsimp only; rw [if_pos h4, ← Hs1.out, ← Hq.out, ← Hm.out]; exact ⟨rfl, hr, ho⟩
 have hXf : q.k ≠ 4 → (isP T E s [45] = true ∨ (q.k ≠ 3 ∧ q.k ≠ 2)) → ∀ w', Rd B g A c T E (failP T s1 q.a 2) w' → Out [g] w w' → P (.returned (.agg #[.string ⟨#[]⟩, .int .i64 0, .int .i64 0, .string ⟨#[]⟩])) w' := fun hk hs w' hr ho => by
  rw [HP.out]; unfold termP; dsimp only; rw [← Hs1.out, ← Hq.out, if_neg hk]; rcases hs with hs | ⟨h3, h2⟩
  ·rw [if_pos hs]; exact ⟨rfl, hr, ho⟩
  ·by_cases hs : isP T E s [45] = true
   ·rw [if_pos hs]; exact ⟨rfl, hr, ho⟩
   ·rw [if_neg hs, if_neg h3, if_neg h2]; exact ⟨rfl, hr, ho⟩
 have hX3 : ¬ isP T E s [45] = true → q.k = 3 → ∀ w', Rd B g A c T E s1.up w' → Out [g] w w' → P (.returned (.agg #[.string (bytes q.t), .int .i64 0, .int .i64 0, .string ⟨#[]⟩])) w' := fun hs hk w' hr ho => by
  rw [HP.out]; unfold termP; dsimp only; rw [← Hs1.out, ← Hq.out, if_neg (by omega), if_neg hs, if_pos hk]; exact ⟨rfl, hr, ho⟩
 have hX2 : ¬ isP T E s [45] = true → q.k = 2 → ∀ w', Rd B g A c T E s1.up w' → Out [g] w w' → P (.returned (.agg #[.string ⟨#[]⟩, .int .i64 2, .int .i64 0, .string (bytes q.t)])) w' := fun hs hk w' hr ho => by
  rw [HP.out]; unfold termP; dsimp only; rw [← Hs1.out, ← Hq.out, if_neg (by omega), if_neg hs, if_neg (by omega), if_pos hk]; exact ⟨rfl, hr, ho⟩
 have X4 := hZ9 hX4; have Xf := hZ9 hXf; have X3 := hZ9 hX3; have X2 := hZ9 hX2; clear hX4 hXf hX3 hX2 HP; have t45 : (⟨#[45]⟩ : ByteArray).toList = [45] := toList_mk [45]; have HI := hZ9 (fun (W : World) (hR : Rd B g A c T E s W) => ris_any hR ⟨#[45]⟩); rw [t45] at HI; have HWt := hZ9 (fun (W : World) (hR : Rd B g A c T E s W) => rwant_any hR ⟨#[45]⟩); rw [t45] at HWt; have HF0 := hZ9 ((Fr.start h).alloc (.cells #[.string ⟨#[]⟩, .int .i64 0, .int .i64 0, .string ⟨#[]⟩] 75)); have hB := h.size; have hgl := h.glt; have HPk := hZ9 (fun (W : World) (hR : Rd B g A c T E s1 W) => rpeek_any hR 0 (by omega)); have HTk := hZ9 (fun (k : Nat) (hk : k ≠ 0) (W : World) (hR : Rd B g A c T E s1 W) => rtake_any hR k hk); have HFl := hZ9 (fun (W : World) (hR : Rd B g A c T E s1 W) => rfail_any hR (peekP T E s1 0).a (peek_le hR.within s1 0) 2 (by omega))
 have HNum : Hid (q.k = 4 → ∃ n : Nat, n ≤ 2147483647 ∧ numT q.t = (n : Int) ∧ ∀ w : World, Calls Tryz.prog 167 #[.string (bytes q.t)] w (RetV (.tuple #[.int .i64 n, .nilIface]) w)) := fun hk => by
  have hm : q ∈ T := by
   have hk0 : q.k ≠ 0 := by omega
   rw [Hq.out] at hk0 ⊢; exact List.mem_of_getElem? (peek_at (peek_some hk0))
  have ht := h.texts q hm; rw [hk] at ht; obtain ⟨n, h1, h2, h3⟩ := num_tok ht; exact ⟨n, h1, h3, fun w => atoi_tok h2 (tok_len h hm) w⟩
 have HTt : Hid (∀ k : Nat, q.k = k → takeP T E s1 k = s1.up ∧ takeT T E s1 k = q.t) := fun k hk => by
  have h1 : (peekP T E s1 0).k = k := by rw [← Hq.out]; exact hk
  unfold takeP takeT; rw [if_pos h1, if_pos h1, ← Hq.out]; exact ⟨rfl, rfl⟩
 rw [← Hq.out] at HFl HPk; simp only [tokC_eq] at HPk; obtain ⟨qk, qt, qa⟩ := q; dsimp only at HFl HPk HNum HTt X4 Xf X3 X2; clear h t45 Hq; cases hD : isP T E s [45] with
 | true =>
   rw [hD] at HI Hm; have hs1 : wantP T E s [45] = s1 := by rw [Hs1.out]; unfold wantP mayP; rw [if_pos hD, if_pos hD]
   rw [hs1] at HWt; have Xf2 := hZ9 (fun hk => Xf.out hk (.inl hD)); have hm : m = -1 := by rw [Hm.out]; simp
   subst hm; clear hs1 hD Hs1 Hm X3 X2 Xf; go_enter Tryz.func133, Tryz.ntmps133
   go_wp2_with fail
   refine (HI.out _ HF0.out.rd).mono ?_; rintro e w1 ⟨rfl, hb1⟩; have HF1 := hZ9 (HF0.out.on hb1); clear hb1 HI HF0; go_wp2_with fail
   refine (HWt.out _ HF1.out.rd).mono ?_; rintro e w2 ⟨rfl, hr2, ho2⟩; have HF2 := hZ9 (HF1.out.go hr2 ho2); clear hr2 ho2 HWt HF1; go_wp2_with fail
   refine (HPk.out _ HF2.out.rd).mono ?_; rintro e w3 ⟨rfl, hb3⟩; have HF3 := hZ9 ((HF2.out.on hb3).alloc (.cells #[.int .i64 qk, .string (bytes qt), .int .i64 qa] 178)); have HF4 := hZ9 (HF2.out.on hb3); clear hb3 HPk HF2; by_cases k4 : qk = 4
   ·subst k4; obtain ⟨n, hn, hnum, hat⟩ := HNum.out rfl; obtain ⟨htp, htt⟩ := HTt.out 4 rfl; have HX := hZ9 (X4.out rfl); rw [hnum, show (-1 : Int) * (n : Int) = -(n : Int) by omega] at HX; have HT := hZ9 (fun (W : World) (hR : Rd B g A c T E s1 W) => HTk.out 4 (by decide) W hR); rw [htp, htt] at HT; have HA := hZ9 hat; clear hat htp htt hnum X4 HTt HNum HTk HFl Xf2; go_wp2_with fail
    refine (HT.out _ HF3.out.rd).mono ?_; rintro e w4 ⟨rfl, hr4, ho4⟩; have HF5 := hZ9 (HF3.out.go hr4 ho4); clear hr4 ho4 HF3 HF4 HT; go_wp2_with fail
    refine (HA.out _).mono ?_; rintro e w5 ⟨rfl, hb5⟩; have HF6 := hZ9 (HF5.out.on hb5); obtain ⟨b0, b1, b2, b3⟩ := facts4 (HF6.out.row (by simp : (w.heap.size, Obj.cells #[.string ⟨#[]⟩, .int .i64 0, .int .i64 0, .string ⟨#[]⟩] 75) ∈ _)); have r0 := froz4 (HF6.out.row (by simp : (w.heap.size, Obj.cells #[.string ⟨#[]⟩, .int .i64 0, .int .i64 0, .string ⟨#[]⟩] 75) ∈ _)); clear hb5 HF5 HA; go_wp2_with fail
    have hfin := HF6.out.fin (Nat.le_refl _) (set4_out _ w.heap.size (.string ⟨#[]⟩) (.int .i64 1) (.int .i64 (-(n : Int))) (.string ⟨#[]⟩)) hB; refine bodyPost_ret (v := .agg #[.string ⟨#[]⟩, .int .i64 1, .int .i64 (-(n : Int)), .string ⟨#[]⟩]) (by simp [results, Tryz.results133, go_sem, b0, b1, b2, b3]) rfl (HX.out _ hfin.1 hfin.2)
   ·have e4 : (qk == 4) = false := by simp [k4]
    have HX := hZ9 (Xf2.out k4); clear k4 Xf2 X4 HTt HNum HTk; go_wp2_with fail
    refine (HFl.out _ HF3.out.rd).mono ?_; rintro e w4 ⟨rfl, hr4, ho4⟩; have HF5 := hZ9 (HF3.out.go hr4 ho4); obtain ⟨b0, b1, b2, b3⟩ := facts4 (HF5.out.row (by simp : (w.heap.size, Obj.cells #[.string ⟨#[]⟩, .int .i64 0, .int .i64 0, .string ⟨#[]⟩] 75) ∈ _)); have r0 := froz4 (HF5.out.row (by simp : (w.heap.size, Obj.cells #[.string ⟨#[]⟩, .int .i64 0, .int .i64 0, .string ⟨#[]⟩] 75) ∈ _)); clear hr4 ho4 HFl HF3; go_wp2_with fail
    have hfin := HF5.out.fin (Nat.le_refl _) (set4_out _ w.heap.size (.string ⟨#[]⟩) (.int .i64 0) (.int .i64 0) (.string ⟨#[]⟩)) hB; refine bodyPost_ret (v := .agg #[.string ⟨#[]⟩, .int .i64 0, .int .i64 0, .string ⟨#[]⟩]) (by simp [results, Tryz.results133, go_sem, b0, b1, b2, b3]) rfl (HX.out _ hfin.1 hfin.2)
 | false =>
   rw [hD] at HI Hm; have hs1 : s = s1 := by rw [Hs1.out]; unfold mayP; rw [if_neg (by rw [hD]; decide)]
   subst hs1; have Xf2 := hZ9 (fun hk h3 h2 => Xf.out hk (.inr ⟨h3, h2⟩)); have X32 := hZ9 (X3.out (by rw [hD]; decide)); have X22 := hZ9 (X2.out (by rw [hD]; decide)); have hm : m = 1 := by rw [Hm.out]; simp
   subst hm; clear hD Hs1 Hm X3 X2 Xf HWt; go_enter Tryz.func133, Tryz.ntmps133
   go_wp2_with fail
   refine (HI.out _ HF0.out.rd).mono ?_; rintro e w1 ⟨rfl, hb1⟩; have HF2 := hZ9 (HF0.out.on hb1); clear hb1 HI HF0; go_wp2_with fail
   refine (HPk.out _ HF2.out.rd).mono ?_; rintro e w3 ⟨rfl, hb3⟩; have HF3 := hZ9 ((HF2.out.on hb3).alloc (.cells #[.int .i64 qk, .string (bytes qt), .int .i64 qa] 178)); have HF4 := hZ9 (HF2.out.on hb3); clear hb3 HPk HF2; by_cases k4 : qk = 4
   ·subst k4; obtain ⟨n, hn, hnum, hat⟩ := HNum.out rfl; obtain ⟨htp, htt⟩ := HTt.out 4 rfl; have HX := hZ9 (X4.out rfl); rw [hnum, show (1 : Int) * (n : Int) = (n : Int) by omega] at HX; have HT := hZ9 (fun (W : World) (hR : Rd B g A c T E s W) => HTk.out 4 (by decide) W hR); rw [htp, htt] at HT; have HA := hZ9 hat; clear hat htp htt hnum X4 HTt HNum HTk HFl Xf2 X32 X22; go_wp2_with fail
    refine (HT.out _ HF3.out.rd).mono ?_; rintro e w4 ⟨rfl, hr4, ho4⟩; have HF5 := hZ9 (HF3.out.go hr4 ho4); clear hr4 ho4 HF3 HF4 HT; go_wp2_with fail
    refine (HA.out _).mono ?_; rintro e w5 ⟨rfl, hb5⟩; have HF6 := hZ9 (HF5.out.on hb5); obtain ⟨b0, b1, b2, b3⟩ := facts4 (HF6.out.row (by simp : (w.heap.size, Obj.cells #[.string ⟨#[]⟩, .int .i64 0, .int .i64 0, .string ⟨#[]⟩] 75) ∈ _)); have r0 := froz4 (HF6.out.row (by simp : (w.heap.size, Obj.cells #[.string ⟨#[]⟩, .int .i64 0, .int .i64 0, .string ⟨#[]⟩] 75) ∈ _)); clear hb5 HF5 HA; go_wp2_with fail
    have hfin := HF6.out.fin (Nat.le_refl _) (set4_out _ w.heap.size (.string ⟨#[]⟩) (.int .i64 1) (.int .i64 n) (.string ⟨#[]⟩)) hB; refine bodyPost_ret (v := .agg #[.string ⟨#[]⟩, .int .i64 1, .int .i64 n, .string ⟨#[]⟩]) (by simp [results, Tryz.results133, go_sem, b0, b1, b2, b3]) rfl (HX.out _ hfin.1 hfin.2)
   have e4 : (qk == 4) = false := by simp [k4]
   by_cases k3 : qk = 3
   ·subst k3; clear k4; obtain ⟨htp, htt⟩ := HTt.out 3 rfl; have HX := hZ9 (X32.out rfl); have HT := hZ9 (fun (W : World) (hR : Rd B g A c T E s W) => HTk.out 3 (by decide) W hR); rw [htp, htt] at HT; clear htp htt X4 Xf2 HTt HNum HTk HFl X32 X22; go_wp2_with fail
    refine (HT.out _ HF3.out.rd).mono ?_; rintro e w4 ⟨rfl, hr4, ho4⟩; have HF5 := hZ9 (HF3.out.go hr4 ho4); obtain ⟨b0, b1, b2, b3⟩ := facts4 (HF5.out.row (by simp : (w.heap.size, Obj.cells #[.string ⟨#[]⟩, .int .i64 0, .int .i64 0, .string ⟨#[]⟩] 75) ∈ _)); have r0 := froz4 (HF5.out.row (by simp : (w.heap.size, Obj.cells #[.string ⟨#[]⟩, .int .i64 0, .int .i64 0, .string ⟨#[]⟩] 75) ∈ _)); clear hr4 ho4 HF3 HF4 HT; go_wp2_with fail
    have hfin := HF5.out.fin (Nat.le_refl _) (set4_out _ w.heap.size (.string (bytes qt)) (.int .i64 0) (.int .i64 0) (.string ⟨#[]⟩)) hB; refine bodyPost_ret (v := .agg #[.string (bytes qt), .int .i64 0, .int .i64 0, .string ⟨#[]⟩]) (by simp [results, Tryz.results133, go_sem, b0, b1, b2, b3]) rfl (HX.out _ hfin.1 hfin.2)
   have e3 : (qk == 3) = false := by simp [k3]
   by_cases k2 : qk = 2
   ·subst k2; clear k3 k4; obtain ⟨htp, htt⟩ := HTt.out 2 rfl; have HX := hZ9 (X22.out rfl); have HT := hZ9 (fun (W : World) (hR : Rd B g A c T E s W) => HTk.out 2 (by decide) W hR); rw [htp, htt] at HT; clear htp htt X4 Xf2 HTt HNum HTk HFl X32 X22; go_wp2_with fail
    refine (HT.out _ HF3.out.rd).mono ?_; rintro e w4 ⟨rfl, hr4, ho4⟩; have HF5 := hZ9 (HF3.out.go hr4 ho4); obtain ⟨b0, b1, b2, b3⟩ := facts4 (HF5.out.row (by simp : (w.heap.size, Obj.cells #[.string ⟨#[]⟩, .int .i64 0, .int .i64 0, .string ⟨#[]⟩] 75) ∈ _)); have r0 := froz4 (HF5.out.row (by simp : (w.heap.size, Obj.cells #[.string ⟨#[]⟩, .int .i64 0, .int .i64 0, .string ⟨#[]⟩] 75) ∈ _)); clear hr4 ho4 HF3 HF4 HT; go_wp2_with fail
    have hfin := HF5.out.fin (Nat.le_refl _) (set4_out _ w.heap.size (.string ⟨#[]⟩) (.int .i64 2) (.int .i64 0) (.string (bytes qt))) hB; refine bodyPost_ret (v := .agg #[.string ⟨#[]⟩, .int .i64 2, .int .i64 0, .string (bytes qt)]) (by simp [results, Tryz.results133, go_sem, b0, b1, b2, b3]) rfl (HX.out _ hfin.1 hfin.2)
   have e2 : (qk == 2) = false := by simp [k2]
   have HX := hZ9 (Xf2.out k4 k3 k2); clear k4 k3 k2 Xf2 X4 HTt HNum HTk X32 X22; go_wp2_with fail
   refine (HFl.out _ HF3.out.rd).mono ?_; rintro e w4 ⟨rfl, hr4, ho4⟩; have HF5 := hZ9 (HF3.out.go hr4 ho4); obtain ⟨b0, b1, b2, b3⟩ := facts4 (HF5.out.row (by simp : (w.heap.size, Obj.cells #[.string ⟨#[]⟩, .int .i64 0, .int .i64 0, .string ⟨#[]⟩] 75) ∈ _)); have r0 := froz4 (HF5.out.row (by simp : (w.heap.size, Obj.cells #[.string ⟨#[]⟩, .int .i64 0, .int .i64 0, .string ⟨#[]⟩] 75) ∈ _)); clear hr4 ho4 HFl HF3; go_wp2_with fail
   have hfin := HF5.out.fin (Nat.le_refl _) (set4_out _ w.heap.size (.string ⟨#[]⟩) (.int .i64 0) (.int .i64 0) (.string ⟨#[]⟩)) hB; refine bodyPost_ret (v := .agg #[.string ⟨#[]⟩, .int .i64 0, .int .i64 0, .string ⟨#[]⟩]) (by simp [results, Tryz.results133, go_sem, b0, b1, b2, b3]) rfl (HX.out _ hfin.1 hfin.2)
end
end Go.Proofs.YtaeedepojpablaaGreatDoor

namespace Go.Proofs.YtaeedepojpablaaGreatDoor
open Go.RowKit
section
variable {P : Program}
abbrev pcOps (T sT f tb : Nat) (x2 : Op) (aT : TypeId) (fld d0 d1 d2 d3 d4 d5 d6 : Nat) (y0 y1 y2 y3 y4 y5 y6 y7 : TypeId) (p : String) : Array Oper := #[
 { dst := some d0, op := .fieldAddr T (.tmp tb) fld, type := y0, pos := p, after := #[], guard := none },
 { dst := some d1, op := .load sT (.tmp d0), type := y1, pos := p, after := #[⟨0, .data⟩], guard := none },
 { dst := some d2, op := x2, type := y2, pos := p, after := #[], guard := none },
 { dst := some d3, op := .call { callee := .value (.func f), args := #[.tmp d2], argTypes := #[aT] }, type := y3, pos := p, after := #[⟨2, .data⟩], guard := none },
 { dst := some d4, op := .buildSlice sT 1 #[(0, .tmp d3)], type := y4, pos := p, after := #[⟨3, .data⟩], guard := none },
 { dst := some d5, op := .call { callee := .builtin .append, args := #[.tmp d1, .tmp d4], argTypes := #[sT, sT] }, type := y5, pos := p, after := #[⟨1, .data⟩, ⟨4, .data⟩, ⟨3, .chain⟩], guard := none },
 { dst := some d6, op := .fieldAddr T (.tmp tb) fld, type := y6, pos := p, after := #[⟨0, .phase⟩, ⟨1, .phase⟩, ⟨2, .phase⟩, ⟨3, .phase⟩, ⟨4, .phase⟩, ⟨5, .phase⟩], guard := none },
 { dst := none, op := .store sT (.tmp d6) (.tmp d5), type := y7, pos := p, after := #[⟨6, .data⟩, ⟨5, .data⟩, ⟨5, .chain⟩, ⟨0, .phase⟩, ⟨1, .phase⟩, ⟨2, .phase⟩, ⟨3, .phase⟩, ⟨4, .phase⟩, ⟨5, .phase⟩], guard := none }]
def pcF (base eT size k g q : Nat) (S : List Nat) (A : Option Addr) (c : Nat) (xs : List Value) (rv : Value) (Res : List Value → World → Prop) (Res2 : List Nat → List Value → World → Prop) (w0 : World) (i : Nat) (v : Value) (W : World) : Prop := match i with
 | 0 => v = .pointer (some ⟨g, q, none⟩)
 | 1 => v = .slice A k c
 | 2 => v = rv
 | 3 => ∃ vcs : List Value, v = .agg vcs.toArray ∧ vcs.length = size ∧ (∀ u ∈ vcs, u.oneCell' = true) ∧ Res vcs W ∧ w0.heap.size ≤ W.heap.size
 | 4 => ∃ (vcs : List Value) (b : Nat), v = .slice (some ⟨b, 0, none⟩) 1 1 ∧ vcs.length = size ∧ (∀ u ∈ vcs, u.oneCell' = true) ∧ Res vcs W ∧ W.heap[b]? = some (.cells vcs.toArray eT (0, 0)) ∧ w0.heap.size ≤ b
 | 5 => ∃ (vcs : List Value) (A' : Option Addr) (c' : Nat), v = .slice A' (k + 1) c' ∧ vcs.length = size ∧ Res2 (Value.slice A' (k + 1) c').ownBlock.toList vcs W ∧ W.ownsRow base eT size (.slice A' (k + 1) c') (k + 1) (xs ++ vcs) ∧ (∀ b, (Value.slice A' (k + 1) c').ownBlock = some b → b ∈ S ∨ w0.heap.size ≤ b) ∧ w0.heap.size < W.heap.size
 | 6 => v = .pointer (some ⟨g, q, none⟩)
 | _ => True
structure PcG (T g gr : Nat) (S : List Nat) (cs : Array Value) (w0 W : World) : Prop where
 g : W.heap[g]? = some (.cells cs T (0, 0))
 out : Out (gr :: S) w0 W
theorem PcG.keep {T g gr : Nat} {S : List Nat} {cs : Array Value} {w0 W W' : World} (h : PcG T g gr S cs w0 W) (hb : Below W.heap.size W W') : PcG T g gr S cs w0 W' :=
 ⟨(hb.block _ (glt h.g)).trans h.g, h.out.trans (Out.of_below hb []) (fun _ h _ => by cases h)⟩
theorem pushC_region {id : Nat} {a : Act} {w : World} {Q : Exit → Act → World → Prop} {T sT f tb fld d0 d1 d2 d3 d4 d5 d6 : Nat} {x2 : Op} {aT y0 y1 y2 y3 y4 y5 y6 y7 : TypeId} {p : String} (n tx : Nat) (hm : P.follows .mixedOrders = true)
 (hn : a.tmps.size = n) (hd : a.defers = []) (hok : drawnOk (pcOps T sT f tb x2 aT fld d0 d1 d2 d3 d4 d5 d6 y0 y1 y2 y3 y4 y5 y6 y7 p) 7 n = true)
 (htb : ((pcOps T sT f tb x2 aT fld d0 d1 d2 d3 d4 d5 d6 y0 y1 y2 y3 y4 y5 y6 y7 p).toList.take 7).all (fun o => !decide (o.dst = some tb)) = true)
 (htx : ((pcOps T sT f tb x2 aT fld d0 d1 d2 d3 d4 d5 d6 y0 y1 y2 y3 y4 y5 y6 y7 p).toList.take 7).all (fun o => !decide (o.dst = some tx)) = true)
 (g gr q base eT size bytes k : Nat) (z : Value) (A : Option Addr) (c : Nat) (xs : List Value) (cs : Array Value) (rv vx : Value) (Res : List Value → World → Prop) (Res2 : List Nat → List Value → World → Prop)
 (hb : a.tmps[tb]? = some (.pointer (some ⟨g, 0, none⟩))) (hx : a.tmps[tx]? = some vx) (hg0 : w.heap[g]? = some (.cells cs T (0, 0))) (hgg : g ≠ gr)
 (h2 : ∀ (a' : Act) (W : World), a'.tmps[tx]? = some vx → Below w.heap.size w W → (execOp a'.eval { dst := some d2, op := x2, type := y2, pos := p, after := #[], guard := none }).run P W = .ok (.value rv) W)
 (hcq : cs[q]? = some (.slice A k c)) (hfld : ∀ w : World, (Instr.fieldAt T (.pointer (some ⟨g, 0, none⟩)) fld).run P w = .ok (.pointer (some ⟨g, q, none⟩)) w)
 (huS : P.underlying sT = some (.slice eT)) (hiS : (P.info? sT).map (·.size) = some 1)
 (hi : (P.info? eT).map (fun i => (i.zero, i.size, i.bytes)) = some (some z, size, bytes)) (hzs : z.cells.size = size) (hsz : 0 < size) (hs24 : size ≤ 2 ^ 24)
 (hown : w.ownsRow base eT size (.slice A k c) k xs) (hT : g ∉ (Value.slice A k c).ownBlock.toList) (hR : gr ∉ (Value.slice A k c).ownBlock.toList) (h63 : k + 1 ≤ maxLen) (hbytes : (k + 1) * bytes ≤ 140737488355328) (hbase : base ≤ w.heap.size)
 (fn : Func) (hfn : P.funcs[f]? = some fn) (hbd : fn.body.isSome = true) (hng : (fn.name == "runtime.NumGoroutine") = false)
 (hRes : ∀ vcs W W', Res vcs W → Below W.heap.size W W' → Res vcs W') (hResB : ∀ S vcs W W', Res2 S vcs W → Below W.heap.size W W' → Res2 S vcs W')
 (hRes3 : ∀ S vcs W W', Res vcs W → w.heap.size ≤ W.heap.size → Out (Value.slice A k c).ownBlock.toList W W' → (∀ b ∈ S, b ∈ (Value.slice A k c).ownBlock.toList ∨ W.heap.size ≤ b) → Res2 S vcs W')
 (hRes2 : ∀ vcs W W', Res vcs W → w.heap.size ≤ W.heap.size → Out (Value.slice A k c).ownBlock.toList W W' → Res vcs W')
 (hcall : ∀ W, Below w.heap.size w W → W.heap.size = w.heap.size → Calls P f #[rv] W (fun r w' => ∃ vcs : List Value, r = .returned (.agg vcs.toArray) ∧ vcs.length = size ∧ (∀ u ∈ vcs, u.oneCell' = true) ∧ Res vcs w' ∧ Out [gr] W w'))
 (hQ : ∀ (u : Nat → Value) (W : World) (vcs : List Value) (A' : Option Addr) (c' : Nat),
  vcs.length = size → Res2 (Value.slice A' (k + 1) c').ownBlock.toList vcs W → W.ownsRow base eT size (.slice A' (k + 1) c') (k + 1) (xs ++ vcs) → (∀ b, (Value.slice A' (k + 1) c').ownBlock = some b → b ∈ (Value.slice A k c).ownBlock.toList ∨ w.heap.size ≤ b) → Out (gr :: (Value.slice A k c).ownBlock.toList) w W →
  W.heap[g]? = some (.cells cs T (0, 0)) → Q .normal ([d0, d1, d2, d3, d4, d5, d6].foldl (fun x d => x.put (some d) (u d)) a) (W.setCell ⟨g, q, none⟩ (.slice A' (k + 1) c'))) :
 (Code.region id (pcOps T sT f tb x2 aT fld d0 d1 d2 d3 d4 d5 d6 y0 y1 y2 y3 y4 y5 y6 y7 p) true).wp P Q a w := by
 have hw0 : Below w.heap.size w w.drew := below_drewN w 1 _; have hown0 : w.drew.ownsRow base eT size (.slice A k c) k xs := own_below hown hw0; have hG0 : PcG T g gr (Value.slice A k c).ownBlock.toList cs w w.drew := ⟨hg0, Out.of_below hw0 _⟩
 have hblk : ∀ b, w.heap.size ≤ b → b ∉ (Value.slice A k c).ownBlock.toList := fun b hb hmem => by
  have := (own_blk hown (b := b) (by simpa using hmem)).2; omega
 refine drawn hm 7 n (fun j W => PcG T g gr (Value.slice A k c).ownBlock.toList cs w W ∧ (j = 5 → W.ownsRow base eT size (.slice A k c) k xs) ∧ (j = 2 ∨ j = 3 → Below w.heap.size w W ∧ W.heap.size = w.heap.size)) (pcF base eT size k g q (Value.slice A k c).ownBlock.toList A c xs rv Res Res2 w)
  (fun j W W' => if j = 5 then Out (Value.slice A k c).ownBlock.toList W W' else if j = 4 then Below W.heap.size W W' else if j = 3 then Out [gr] W W' ∧ W.heap.size = w.heap.size else W' = W) hn hok hd (fun j _ => ⟨hG0, fun _ => hown0, fun _ => ⟨hw0, rfl⟩⟩) ?_ ?_ ?_ ?_
 ·intro i j v W W' hij hil hj hF hRr; by_cases h5 : j = 5
  ·subst h5; simp only [if_true] at hRr; match i, hF with
   | 0, h => exact h
   | 1, h => exact h
   | 2, h => exact h
   | 3, ⟨vcs, h1, h2, h3, h4, h5⟩ => exact ⟨vcs, h1, h2, h3, hRes2 _ _ _ h4 h5 hRr, Nat.le_trans h5 hRr.size⟩
   | 4, ⟨vcs, b, h1, h2, h3, h4, h5, h6⟩ =>
     have hbl := (glt h5)
     exact ⟨vcs, b, h1, h2, h3, hRes2 _ _ _ h4 (by omega) hRr, (hRr.block _ hbl (hblk b h6)).trans h5, h6⟩
   | 5, _ => exact absurd rfl hij
   | 6, h => exact h
   | _ + 7, _ => exact trivial
  rw [if_neg h5] at hRr; by_cases h4 : j = 4
  ·subst h4; simp only [if_true] at hRr; match i, hF with
   | 0, h => exact h
   | 1, h => exact h
   | 2, h => exact h
   | 3, ⟨vcs, h1, h2, h3, h4, h5⟩ => exact ⟨vcs, h1, h2, h3, hRes _ _ _ h4 hRr, Nat.le_trans h5 hRr.size⟩
   | 4, _ => exact absurd rfl hij
   | 5, ⟨vcs, A', c', h1, h2, h3, h4, h5, h6⟩ => exact ⟨vcs, A', c', h1, h2, hResB _ _ _ _ h3 hRr, own_below h4 hRr, h5, Nat.lt_of_lt_of_le h6 hRr.size⟩
   | 6, h => exact h
   | _ + 7, _ => exact trivial
  rw [if_neg h4] at hRr; by_cases h3 : j = 3
  ·subst h3; simp only [if_true] at hRr; obtain ⟨-, hsz0⟩ := hRr; match i, hF with
   | 0, h => exact h
   | 1, h => exact h
   | 2, h => exact h
   | 3, _ => exact absurd rfl hij
   | 4, ⟨vcs, b, h1, h2, h3, h4, h5, h6⟩ =>
     have hbl := (glt h5)
     omega
   | 5, ⟨vcs, A', c', h1, h2, h3, h4, h5, h6⟩ => omega
   | 6, h => exact h
   | _ + 7, _ => exact trivial
  rw [if_neg h3] at hRr; subst hRr; exact hF
 ·intro i j W W' hij hil hj hanc hG hRr; by_cases h5 : i = 5
  ·subst h5; simp only [if_true] at hRr; refine ⟨⟨(hRr.block _ (glt hG.1.g) hT).trans hG.1.g, hG.1.out.trans hRr (fun _ h _ => List.mem_cons_of_mem _ h)⟩, fun e => absurd e (Ne.symm hij), fun e => absurd (by rcases e with rfl | rfl <;> simp [ancs, Region.binds]) hanc⟩
  rw [if_neg h5] at hRr; by_cases h4 : i = 4
  ·subst h4; simp only [if_true] at hRr; exact ⟨hG.1.keep hRr, fun e => own_below (hG.2.1 e) hRr, fun e => absurd (by rcases e with rfl | rfl <;> simp [ancs, Region.binds]) hanc⟩
  rw [if_neg h4] at hRr; by_cases h3 : i = 3
  ·subst h3; simp only [if_true] at hRr; obtain ⟨ho, hs0⟩ := hRr
   have hlast : j = 2 ∨ j = 3 → Below w.heap.size w W' ∧ W'.heap.size = w.heap.size := fun e => by
    rcases e with rfl | rfl
    ·exact absurd (by simp [ancs, Region.binds]) hanc
    ·exact absurd rfl hij
   refine ⟨⟨(ho.block _ (glt hG.1.g) (by simpa using hgg)).trans hG.1.g, hG.1.out.trans ho (fun b h _ => by simp at h; simp [h])⟩, fun e => own_out' (hG.2.1 e) ho (fun b hb hb' => hR (by simp at hb'; rw [← hb']; simpa using hb)), fun e => hlast e⟩
  rw [if_neg h3] at hRr; subst hRr; exact hG
 ·intro i o a' W hil ho hd' hold hGi hGL hw; have hr1 := (hold tb htb).trans hb; have hr2 := (hold tx htx).trans hx; match i, hil, ho with
  | 0, _, ho =>
    injection ho with ho; subst ho
    exact op_val _ (by simp [execOp, Act.eval, hr1, hfld]) ⟨_, rfl, by simp, rfl⟩
  | 1, _, ho =>
    injection ho with ho; subst ho
    obtain ⟨v0, h0, e0⟩ := hw 0 d0 rfl; obtain rfl : v0 = _ := e0; exact op_val _ (by simp [execOp, Act.eval, h0, run_load1 huS ((cell_of_row _ _ _ _ _ _ hGi.1.g).trans hcq)]) ⟨_, rfl, by simp, rfl⟩
  | 2, _, ho =>
    injection ho with ho; subst ho
    exact op_val _ (h2 a' W hr2 (hGi.2.2 (.inl rfl)).1) ⟨_, rfl, by simp, rfl⟩
  | 3, _, ho =>
    injection ho with ho; subst ho
    obtain ⟨v0, h0, e0⟩ := hw 2 d2 rfl; obtain rfl : v0 = _ := e0; obtain ⟨hbw, hzw⟩ := hGi.2.2 (.inr rfl); refine op_call f _ rfl rfl #[v0] (by simp [Act.eval, h0]) fn hfn hbd hng ((hcall W hbw hzw).mono ?_); rintro r w' ⟨vcs, rfl, e1, e2, e3, e4⟩; exact ⟨_, rfl, _, rfl, by simp [e4, hzw], vcs, rfl, e1, e2, e3, Nat.le_trans hGi.1.out.size e4.size⟩
  | 4, _, ho =>
    injection ho with ho; subst ho
    obtain ⟨v0, h0, vcs, e0, e1, e2, e3, -⟩ := hw 3 d3 rfl; obtain rfl : v0 = _ := e0; refine op_bslice sT eT 1 _ rfl size [.agg vcs.toArray] huS (by obtain ⟨i, hi1, hi2⟩ := Option.map_eq_some_iff.1 hi; rw [hi1]; simp at hi2 ⊢; simp [hi2]) hsz rfl (by decide) (by omega) (by simp [Act.eval, h0]) (by simp [Value.cells, e1]) ?_; simp only [List.flatMap_cons, List.flatMap_nil, List.append_nil, Value.cells]; exact ⟨_, rfl, by simpa using belowA (Below.refl W.heap.size W) (.cells vcs.toArray eT), vcs, _, rfl, e1, e2, hRes _ _ _ e3 (belowA (Below.refl _ _) _), heapNew rfl, hGi.1.out.size⟩
  | 5, _, ho =>
    injection ho with ho; subst ho
    obtain ⟨v0, h0, e0⟩ := hw 1 d1 rfl; obtain rfl : v0 = _ := e0; obtain ⟨v1, h1, vcs, b, e1, e2, e3, e4, e5, e6⟩ := hw 4 d4 rfl; obtain rfl : v1 = _ := e1; obtain ⟨A', c', w', k1, k2, k3, k4⟩ := push_more (P := P) (ty := y5) W huS hi hzs hsz (hGi.2.1 rfl) b vcs e2 e5 e3 h63 hbytes (Nat.le_trans hbase hGi.1.out.size); have hbl := (glt e5)
    refine op_append _ _ _ rfl _ _ (eval_tmp h0) (eval_tmp h1) k1 ⟨_, rfl, ?_, vcs, A', c', rfl, e2, hRes3 _ _ _ _ e4 hGi.1.out.size k3 (fun b hb => (k4 b (by simpa using hb)).imp (fun h => by simp [h]) (fun h => h)), k2, fun b hb => ?_, Nat.lt_of_lt_of_le (by omega) k3.size⟩
    ·simp only [if_true]; exact k3
    ·rcases k4 b hb with h | h
     ·exact .inl (by simp [h])
     ·exact .inr (Nat.le_trans hGi.1.out.size h)
  | 6, _, ho =>
    injection ho with ho; subst ho
    exact op_val _ (by simp [execOp, Act.eval, hr1, hfld]) ⟨_, rfl, by simp, rfl⟩
  | n + 7, hil, _ => omega
 ·intro o a' W ho hd' hs hold hGL hw; obtain ⟨v0, h0, e0⟩ := hw 6 d6 (by decide) rfl; obtain ⟨v1, h1, vcs, A', c', e1, e2, e3, e4, e5, -⟩ := hw 5 d5 (by decide) rfl; obtain rfl : v0 = _ := e0; obtain rfl : v1 = _ := e1; injection ho with ho; subst ho
  have hqs : q < cs.size := (glt hcq)
  have hrun : (execOp a'.eval { dst := none, op := .store sT (.tmp d6) (.tmp d5), type := y7, pos := p, after := #[⟨6, .data⟩, ⟨5, .data⟩, ⟨5, .chain⟩, ⟨0, .phase⟩, ⟨1, .phase⟩, ⟨2, .phase⟩, ⟨3, .phase⟩, ⟨4, .phase⟩, ⟨5, .phase⟩], guard := none }).run P W = .ok .skip (W.setCell ⟨g, q, none⟩ (.slice A' (k + 1) c')) := by
   simp [execOp, Act.eval, h0, h1, run_store1 (A := A') (n := k + 1) (c := c') hiS hGL.1.g hqs]
  obtain ⟨u, hu, -⟩ := frame_of (a := a) (a' := a') [d0, d1, d2, d3, d4, d5, d6] (by rw [hs, hn]) (by rw [hd', hd]) (fun t ht => hold t (by simp at ht; simp [Ne.symm ht.1, Ne.symm ht.2.1, Ne.symm ht.2.2.1, Ne.symm ht.2.2.2.1, Ne.symm ht.2.2.2.2.1, Ne.symm ht.2.2.2.2.2.1, Ne.symm ht.2.2.2.2.2.2])); refine op_skip hrun ?_; have hq := hQ u W vcs A' c' e2 e3 e4 e5 hGL.1.out hGL.1.g; rw [← hu] at hq; exact hq
end
end Go.Proofs.YtaeedepojpablaaGreatDoor
