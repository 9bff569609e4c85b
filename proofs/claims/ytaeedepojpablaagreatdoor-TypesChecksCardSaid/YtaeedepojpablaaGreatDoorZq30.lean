/- My own texts TyBe, TyFt, as far as this claim needs them. -/
import Derived.Test.YtaeedepojpablaaGreatDoorZq29
set_option linter.unusedVariables false
set_option linter.unusedSimpArgs false
set_option maxRecDepth 1000000
set_option maxHeartbeats 16000000
namespace Go.Proofs.YtaeedepojpablaaGreatDoor
open Go.RowKit
structure ScpM (w0 w : World) (g km : Nat) (cs : List Value) (mo : Bool) (l : Kinds) : Prop where
 b0 : Below w0.heap.size w0 w
 at_ : ScopeAt w g km cs mo
 map : MapIs w km (kvsOf l)
 ok : KOk l
 gl : w0.heap.size ≤ g
 kl : w0.heap.size ≤ km
theorem Scp.m {w0 w : World} {g km : Nat} {cs : List Value} {l0 l : Kinds} (h : Scp w0 w g km cs l0 l) : ScpM w0 w g km cs (decide (l0.length < l.length)) l := ⟨h.b0, h.at_, h.map, h.ok, h.gl, h.kl⟩
theorem ScpM.s {w0 w : World} {g km : Nat} {cs : List Value} {l : Kinds} (h : ScpM w0 w g km cs false l) : Scp w0 w g km cs l l := ⟨h.b0, by rw [decide_eq_false (Nat.lt_irrefl _)]; exact h.at_, h.map, h.ok, Nat.le_refl _, h.gl, h.kl⟩
theorem ScpM.ne {w0 w : World} {g km : Nat} {cs : List Value} {mo : Bool} {l : Kinds} (h : ScpM w0 w g km cs mo l) : g ≠ km := by
 rintro rfl; obtain ⟨es, cl, hb, -⟩ := h.map.ex; rw [h.at_.2] at hb; cases hb
theorem ScpM.set {w0 w : World} {g km : Nat} {cs : List Value} {mo : Bool} {l : Kinds} (h : ScpM w0 w g km cs mo l) (mo' : Bool) : ScpM w0 (w.setCell ⟨g, 9, none⟩ (.bool mo')) g km cs mo' l := by
 have hr := h.at_.2; refine ⟨h.b0.setCell h.gl _, ⟨h.at_.1, ?_⟩, h.map.same (World.heap_setCells_other' (Ne.symm h.ne)), h.ok, h.gl, h.kl⟩; have h8 := h.at_.1; match cs, h8 with
 | [a0, a1, a2, a3, a4, a5, a6, a7], _ => simp [World.setCell, Array.getElem?_modify, hr]
theorem rounds_go {x : GRule} {l : Kinds} {f : Nat} {Z : Kinds} (hZ : kindsF leavesE x.body (f + 1) l = Z) (hf : (varsR x).length + 1 ≤ f + 1 + l.length) (ht : Told (varsR x) [] l) :
 (l.length < (roundK leavesE x.body l).length → 1 ≤ f ∧ kindsF leavesE x.body f (roundK leavesE x.body l) = Z ∧ (varsR x).length + 1 ≤ f + (roundK leavesE x.body l).length) ∧ (¬ l.length < (roundK leavesE x.body l).length → roundK leavesE x.body l = Z) := by
 have hg := round_grows leavesE x.body l; have hm := (ht.trans (Told.round x.body l varsR_body)).most; constructor
 ·intro h; rw [kindsF_go (by omega)] at hZ; exact ⟨by omega, hZ, by omega⟩
 ·intro h; rcases hg with h1 | h1
  ·rw [kindsF_stop (by rw [h1])] at hZ; rw [h1]; exact hZ
  ·exact absurd h1 h
theorem roundK_take {b : List GLit} {l : Kinds} {j : Nat} {z : GLit} (hz : b[j]? = some z) : roundK leavesE (b.take (j + 1)) l = if z.k = 3 then cmpK leavesE (roundK leavesE (b.take j) l) z else roundK leavesE (b.take j) l := by
 unfold roundK; rw [List.take_add_one, hz, Option.toList_some, List.foldl_append]; rfl
theorem bodyS_take {ds : List GDecl} {b : List GLit} {l : Kinds} {j : Nat} {z : GLit} (hz : b[j]? = some z) : (b.take (j + 1)).foldl (fun l y => atomK ds l y.atom (-1)) l = argsK (kindsD ds z.atom.rel) (-1) ((b.take j).foldl (fun l y => atomK ds l y.atom (-1)) l) z.atom.args 0 := by
 rw [List.take_add_one, hz, Option.toList_some, List.foldl_append]; rfl
def BeginPost (ds : List GDecl) (y : GRule) (cs : List Value) (w : World) (e : Ending) (w' : World) : Prop :=
 ∃ g km l0, e = .returned (.pointer (some ⟨g, 0, none⟩)) ∧ Scp w w' g km cs l0 (kindsR ds y)
theorem begin_any (d : Nat) (aA : Option Addr) (an ac : Nat) (bA : Option Addr) (bn bc : Nat) (ds : List GDecl) (y : GRule) (a b : Hd) (w : World) (hD : SliceIs Enc.decl w w.heap.size aA an ac ds) (hk : ∀ d ∈ ds, d.kinds.length ≤ 10000) (hy : RuleAt d w w.heap.size y a b) :
 Calls Tryz.prog 29 #[.agg #[.slice aA an ac, .slice bA bn bc], .agg (ruleC y a b).toArray] w (BeginPost ds y (.slice aA an ac :: .slice bA bn bc :: ruleC y a b) w) := by
 obtain ⟨hA, hn, hc⟩ := a; obtain ⟨mA, mn, mc⟩ := b; obtain ⟨V, hV⟩ : ∃ V, V = (w.alloc (.cells #[.slice aA an ac, .slice bA bn bc] 26)).alloc (.cells (ruleC y ⟨hA, hn, hc⟩ ⟨mA, mn, mc⟩).toArray 56) := ⟨_, rfl⟩
 have HVe := hZ9 hV.symm; have hb : Below w.heap.size w V := by rw [hV]; exact belowA (belowA (Below.refl _ _) _) _
 have hr0 : V.heap[w.heap.size]? = some (.cells #[.slice aA an ac, .slice bA bn bc] 26 (0, 0)) := by rw [hV]; exact heapOld (heapNew rfl)
 have hr1 : V.heap[w.heap.size + 1]? = some (.cells (ruleC y ⟨hA, hn, hc⟩ ⟨mA, mn, mc⟩).toArray 56 (0, 0)) := by rw [hV]; exact heapNew (by simp)
 have hgl1 := (glt hr1)
 obtain ⟨c0, c1⟩ := facts2 hr0; obtain ⟨r0, r1, r2, r3, r4, r5⟩ := facts6 hr1; dsimp only [Hd.v] at r1 r4; obtain ⟨cs, hcs⟩ : ∃ cs, Hid ((Value.slice aA an ac :: Value.slice bA bn bc :: ruleC y ⟨hA, hn, hc⟩ ⟨mA, mn, mc⟩) = cs) := ⟨_, rfl⟩
 obtain ⟨km, Hkm⟩ : ∃ km, Hid (km = V.heap.size) := ⟨_, rfl⟩
 obtain ⟨g, Hg⟩ : ∃ g, Hid (g = km + 1) := ⟨_, rfl⟩
 obtain ⟨V2, hV2⟩ : ∃ V2, V2 = (V.alloc (.map #[] 0)).alloc (.cells #[.slice aA an ac, .slice bA bn bc, .string y.head.rel, .slice hA hn hc, .int .i64 y.agg, .int .i64 y.col, .slice mA mn mc, .int .i64 y.pos, .map (some km), .bool false] 124) := ⟨_, rfl⟩
 have HV2 := hZ9 hV2.symm; have hb2 : Below V.heap.size V V2 := by rw [hV2]; exact belowA (belowA (Below.refl _ _) _) _
 have hsm : ScpM w V2 g km cs false [] := by
  rw [← hcs.out]; refine ⟨hb.trans (hb2.mono hb.size), ⟨rfl, ?_⟩, ?_, KOk.nil, by have := hb.size; have := Hkm.out; have := Hg.out; omega, by have := hb.size; have := Hkm.out; omega⟩
  ·rw [hV2]; exact heapNew (by rw [World.size_alloc, Hg.out, Hkm.out])
  ·rw [hV2]; exact MapIs.alloc (by rw [Hkm.out]; exact MapIs.made) _
 have HS2 : Hid (Scp w V2 g km cs [] []) := hsm.s; have HB2 := hZ9 hb2; have HB := hZ9 hb
 have HRow : Hid (∀ W, Out [g, km] V2 W → W.cell? ⟨w.heap.size + 1, 0, none⟩ = some (.string y.head.rel) ∧ W.cell? ⟨w.heap.size + 1, 1, none⟩ = some (.slice hA hn hc) ∧ W.cell? ⟨w.heap.size + 1, 2, none⟩ = some (.int .i64 y.agg) ∧ W.cell? ⟨w.heap.size + 1, 3, none⟩ = some (.int .i64 y.col) ∧ W.cell? ⟨w.heap.size + 1, 4, none⟩ = some (.slice mA mn mc) ∧ W.cell? ⟨w.heap.size + 1, 5, none⟩ = some (.int .i64 y.pos)) := fun W hW =>
  facts6 ((hW.block _ (Nat.lt_of_lt_of_le hgl1 hb2.size) (by rw [Hg.out, Hkm.out]; simp; omega)).trans ((hb2.block _ hgl1).trans hr1))
 have HCol := hZ9 (fun (W : World) (l0 l : Kinds) (a : GAtom) (A : Option Addr) (n c : Nat) (ha : SliceIs Enc.told w w.heap.size A n c a.args) (but : Int) (h : Scp w W g km cs l0 l) => by
  have := columns_any w g km aA an ac (.slice bA bn bc) (ruleC y ⟨hA, hn, hc⟩ ⟨mA, mn, mc⟩) l0 l ds hD hk a.rel A n c a.args ha but W (by rw [hcs.out]; exact h); rw [hcs.out] at this
  exact this)
 have Hy := hZ9 hy; have hmn := hy.body.bound; have Hml : Hid (y.body.length = mn) := hy.body.1; obtain ⟨P, HP⟩ : ∃ P : Ending → World → Prop, Hid (P = BeginPost ds y cs w) := ⟨_, rfl⟩
 rw [hcs.out, ← HP.out]; obtain ⟨but, Hbut⟩ : ∃ but, Hid (colK y = but) := ⟨_, rfl⟩
 have HC1 := hZ9 (HCol.out V2 [] [] y.head hA hn hc hy.args but HS2.out); obtain ⟨s0, s1, s2, s3, s4, s5⟩ := HRow.out V2 (Out.refl _ _); have hq : (if 0 < y.agg then y.col else -1) = but := Hbut.out; clear hV hV2 hsm hb2 hb hr0 hr1 hD hk hy
 have hcase : (0 < y.agg ∧ but = y.col) ∨ (¬ 0 < y.agg ∧ but = -1) := by
  by_cases h : 0 < y.agg
  ·exact .inl ⟨h, by rw [← hq, if_pos h]⟩
  ·exact .inr ⟨h, by rw [← hq, if_neg h]⟩
 clear hq
 have HZ0 : Hid (startK ds y = y.body.foldl (fun l y => atomK ds l y.atom (-1)) (argsK (kindsD ds y.head.rel) but [] y.head.args 0)) := by
  show _ = _; unfold startK; rw [Hbut.out]; rfl
 generalize hlh : argsK (kindsD ds y.head.rel) but [] y.head.args 0 = lh at HC1 HZ0; clear hlh; have hmm := @run_makeMap Tryz.prog; have HTs : Hid (Told (varsR y) [] (startK ds y)) := Told.start; obtain ⟨Z, HZ⟩ : ∃ Z, Hid (kindsR ds y = Z) := ⟨_, rfl⟩
 have HZ1 : Hid (kindsF leavesE y.body ((varsR y).length + 1) (startK ds y) = Z) := HZ.out; obtain ⟨sk, Hsk⟩ : ∃ sk, Hid (startK ds y = sk) := ⟨_, rfl⟩
 rw [Hsk.out] at HTs HZ1 HZ0; go_enter Tryz.func29, Tryz.ntmps29
 rcases hcase with ⟨hagg, hbe⟩ | ⟨hagg, hbe⟩
 all_goals
  subst hbe; go_wp2_with (first | rw [HVe.out] | rw [HV2.out] | rw [← Hkm.out] | rw [← Hg.out])
  clear hmm; refine HC1.out.mono ?_; rintro e w1 ⟨rfl, hs1, ho1⟩; have HS1 : Hid (Scp w w1 g km cs [] ((y.body.take 0).foldl (fun l y => atomK ds l y.atom (-1)) lh)) := hs1; have HO1 := hZ9 ho1; have d4 := (HRow.out w1 ho1).2.2.2.2.1; clear hs1 ho1 HC1 c0 c1 r0 r1 r2 r3 r4 r5 s0 s1 s2 s3 s4 s5 HS2 hagg; go_wp2_with fail
  clear d4; go_loopw [8, 29] (fun _ i wr => ∃ k : Nat, k ≤ mn ∧ i = .int .i64 (k : Int) ∧ Hid (Scp w wr g km cs [] ((y.body.take k).foldl (fun l y => atomK ds l y.atom (-1)) lh)) ∧ Hid (Out [g, km] V2 wr)) (fun _ i _ => mn - (intOf i).toNat)
  case atStart => exact ⟨0, by omega, rfl, HS1, HO1⟩
  case round =>
   clear HS1 HO1; obtain ⟨k, hk, rfl, HSk, HOk⟩ := hrel; have i0 : (0 : Int) ≤ (k : Int) := by omega
   by_cases hlt : k < mn
   ·have i1 : (k : Int) < (mn : Int) := by omega
    obtain ⟨bb, o, z, a', p', q', rfl, hbb, hz, hlz, Hr⟩ := Hy.out.body.lit_range hlt; obtain ⟨zA, zn, zc⟩ := a'; have hb0 := HSk.out.b0; have Hrw : Hid (wr.rangeAt bb (o + k * 17) (litC z ⟨zA, zn, zc⟩ p' q')) := fun j v hv => (hb0.cell (p := ⟨bb, _, none⟩) hbb).trans (Hr.out j v hv)
    obtain ⟨Q, hQ⟩ : ∃ Q, Q = wr.alloc (.cells (litC z ⟨zA, zn, zc⟩ p' q').toArray 80) := ⟨_, rfl⟩
    have HQe := hZ9 hQ.symm; have hbQ : Below wr.heap.size wr Q := by rw [hQ]; exact belowA (Below.refl _ _) _
    have hrQ : Q.heap[wr.heap.size]? = some (.cells (litC z ⟨zA, zn, zc⟩ p' q').toArray 80 (0, 0)) := by rw [hQ]; exact heapNew rfl
    have u1 : Q.cell? ⟨wr.heap.size, 1, none⟩ = some (.string z.atom.rel) := (facts17 hrQ).2.1; have u2 : Q.cell? ⟨wr.heap.size, 2, none⟩ = some (.slice zA zn zc) := (facts17 hrQ).2.2.1; have HSQ := hZ9 (HSk.out.on hbQ); have HOQ : Hid (Out [g, km] V2 Q) := HOk.out.trans (Out.of_below hbQ []) (by simp); have HC := hZ9 (HCol.out Q [] _ z.atom zA zn zc hlz.args (-1) HSQ.out); rw [← bodyS_take hz.out] at HC; clear hQ hbQ hrQ hb0 hlz hz Hr
    go_wp2_with (first
     | rw [HQe.out]
     | refine wpList_load_mid rfl 80 (.tmp 31) rfl bb (o + k * 17) rfl (litC z ⟨zA, zn, zc⟩ p' q') _ Hrw.out Tryz.underlying80 rfl (lit_size z ⟨zA, zn, zc⟩ p' q') ?_
     | refine wpList_new rfl rfl 80 8 (.tmp 32) rfl rfl rfl rfl _ (litC z ⟨zA, zn, zc⟩ p' q').toArray lit_info rfl (lit_one z ⟨zA, zn, zc⟩ p' q') rfl rfl ?_)
    refine HC.out.mono ?_; rintro e w3 ⟨rfl, hs3, ho3⟩; have HS3 := hZ9 hs3; have HO3 : Hid (Out [g, km] V2 w3) := HOQ.out.trans ho3 (fun b hb _ => hb); clear hs3 ho3 HC HSQ HOQ u1 u2 HSk HOk; go_wp2_with fail
    go_roundw
    case rel => exact ⟨k + 1, by omega, by go_num, HS3, HO3⟩
    case measure => simp [intOf]; omega
   ·have i1 : ¬ (k : Int) < (mn : Int) := by omega
    have hsk2 := HSk.out; rw [List.take_of_length_le (by have := Hml.out; omega), ← HZ0.out] at hsk2; have HM : Hid (ScpM w (wr.setCell ⟨g, 9, none⟩ (.bool true)) g km cs true sk) := hsk2.m.set true; have HOM : Hid (Out [g, km] V2 (wr.setCell ⟨g, 9, none⟩ (.bool true))) := HOk.out.trans ((set_out wr g 9 _).mono (fun b hb _ => by simp at hb; simp [hb])) (fun b hb _ => hb); have c9 := hsk2.at_.more; have z9 : wr.frozen? ⟨g, 9, none⟩ = false := frozen_of_row _ _ _ _ _ hsk2.at_.2; clear hsk2 HSk HOk; go_wp2_with fail
    clear c9 z9; obtain ⟨X, HX⟩ : ∃ X, Hid (wr.setCell ⟨g, 9, none⟩ (.bool true) = X) := ⟨_, rfl⟩
    rw [HX.out] at HM HOM ⊢; clear HX; go_loopg [10, 51] ((varsR y).length + 1) (fun gk _ _ wr => ∃ (lk : Kinds) (mo : Bool), Hid (ScpM w wr g km cs mo lk) ∧ Hid (Out [g, km] V2 wr) ∧ Hid (Told (varsR y) [] lk) ∧ Hid ((mo = true → 1 ≤ gk ∧ kindsF leavesE y.body gk lk = Z ∧ (varsR y).length + 1 ≤ gk + lk.length) ∧ (mo = false → lk = Z)))
    case atStart => exact ⟨sk, true, HM, HOM, HTs, ⟨fun _ => ⟨by omega, HZ1.out, by omega⟩, fun h => by cases h⟩⟩
    case round =>
     clear HM HOM HTs; obtain ⟨lk, mo, HM, HOM, HTk, HF⟩ := hrel; have c9 := HM.out.at_.more; cases mo with
     | false =>
       have HE : Hid (P (.returned (.pointer (some ⟨g, 0, none⟩))) wr) := by
        show P _ _; rw [HP.out]; unfold BeginPost; rw [HZ.out, ← HF.out.2 rfl]; exact ⟨g, km, lk, rfl, HM.out.s⟩
       clear HM HOM HTk HF; go_wp2_with fail
       first | exact HE.out | (go_ret2; exact HE.out)
     | true =>
       obtain ⟨hg1, hkz, hlen⟩ := HF.out.1 rfl; obtain ⟨f, rfl⟩ : ∃ f, gk = f + 1 := ⟨gk - 1, by omega⟩
       have HGo := hZ9 (rounds_go hkz hlen HTk.out); have z9 : wr.frozen? ⟨g, 9, none⟩ = false := frozen_of_row _ _ _ _ _ HM.out.at_.2; have HS1 : Hid (Scp w (wr.setCell ⟨g, 9, none⟩ (.bool false)) g km cs lk (roundK leavesE (y.body.take 0) lk)) := (HM.out.set false).s; have ho1 : Out [g, km] V2 (wr.setCell ⟨g, 9, none⟩ (.bool false)) := HOM.out.trans ((set_out wr g 9 _).mono (fun b hb _ => by simp at hb; simp [hb])) (fun b hb _ => hb); have HO1 := hZ9 ho1; have d4 := (HRow.out _ ho1).2.2.2.2.1; have HT2 : Hid (Told (varsR y) [] (roundK leavesE y.body lk)) := HTk.out.trans (Told.round y.body lk varsR_body); clear hg1 hkz hlen ho1 HF HM HOM; go_wp2_with fail
       clear d4 c9 z9; obtain ⟨X, HX⟩ : ∃ X, Hid (wr.setCell ⟨g, 9, none⟩ (.bool false) = X) := ⟨_, rfl⟩
       rw [HX.out] at HS1 HO1 ⊢; clear HX; go_loopw [10, 51] (fun _ i wr => ∃ j : Nat, j ≤ mn ∧ i = .int .i64 (j : Int) ∧ Hid (Scp w wr g km cs lk (roundK leavesE (y.body.take j) lk)) ∧ Hid (Out [g, km] V2 wr)) (fun _ i _ => mn - (intOf i).toNat)
       case atStart => exact ⟨0, by omega, rfl, HS1, HO1⟩
       case round =>
        clear HS1 HO1; obtain ⟨j, hj, rfl, HSk, HOk⟩ := hrel; have i0 : (0 : Int) ≤ (j : Int) := by omega
        by_cases hlt : j < mn
        ·have i1 : (j : Int) < (mn : Int) := by omega
         obtain ⟨bb, o, z, a', p', q', rfl, hbb, hz, hlz, Hr⟩ := Hy.out.body.lit_range hlt; have hb0 := HSk.out.b0; have Hrw : Hid (wr.rangeAt bb (o + j * 17) (litC z a' p' q')) := fun j v hv => (hb0.cell (p := ⟨bb, _, none⟩) hbb).trans (Hr.out j v hv)
         obtain ⟨Q, hQ⟩ : ∃ Q, Q = wr.alloc (.cells (litC z a' p' q').toArray 80) := ⟨_, rfl⟩
         have HQe := hZ9 hQ.symm; have hbQ : Below wr.heap.size wr Q := by rw [hQ]; exact belowA (Below.refl _ _) _
         have hrQ : Q.heap[wr.heap.size]? = some (.cells (litC z a' p' q').toArray 80 (0, 0)) := by rw [hQ]; exact heapNew rfl
         have HRn := hZ9 (range_row hrQ); have u0 : Q.cell? ⟨wr.heap.size, 0, none⟩ = some (.int .i64 z.k) := (facts17 hrQ).1; have HSQ := hZ9 (HSk.out.on hbQ); have HOQ : Hid (Out [g, km] V2 Q) := HOk.out.trans (Out.of_below hbQ []) (by simp); have HCm := hZ9 (compared_any w g km cs lk (roundK leavesE (y.body.take j) lk) d z a' p' q' Q HSQ.out hlz); have HRt := hZ9 (roundK_take (l := lk) hz.out); clear hQ hbQ hrQ hb0 hlz hz Hr HSk HOk; by_cases hk3 : z.k = 3
         ·have e1 : (z.k == 3) = true := by simpa using hk3
          rw [← HRt.out.trans (if_pos hk3)] at HCm; clear hk3 HRt
          go_wp2_with (first
           | rw [HQe.out]
           | refine wpList_load_mid rfl 80 (.tmp 53) rfl bb (o + j * 17) rfl (litC z a' p' q') _ Hrw.out Tryz.underlying80 rfl (lit_size z a' p' q') ?_
           | refine wpList_new rfl rfl 80 10 (.tmp 54) rfl rfl rfl rfl _ (litC z a' p' q').toArray lit_info rfl (lit_one z a' p' q') rfl rfl ?_
           | refine wpList_load_mid rfl 80 (.tmp 10) rfl wr.heap.size 0 rfl (litC z a' p' q') _ HRn.out Tryz.underlying80 rfl (lit_size z a' p' q') ?_)
          refine HCm.out.mono ?_; rintro e w3 ⟨rfl, hs3, ho3⟩; have HS3 := hZ9 hs3; have HO3 : Hid (Out [g, km] V2 w3) := HOQ.out.trans ho3 (fun b hb _ => hb); clear hs3 ho3 HCm HSQ HOQ u0; go_wp2_with fail
          go_roundw
          case rel => exact ⟨j + 1, by omega, by go_num, HS3, HO3⟩
          case measure => simp [intOf]; omega
         ·have e1 : (z.k == 3) = false := by simpa using hk3
          have HS3 : Hid (Scp w Q g km cs lk (roundK leavesE (y.body.take (j + 1)) lk)) := by show Scp _ _ _ _ _ _ _; rw [HRt.out, if_neg hk3]; exact HSQ.out
          clear hk3 HRt HCm HSQ
          go_wp2_with (first
           | rw [HQe.out]
           | refine wpList_load_mid rfl 80 (.tmp 53) rfl bb (o + j * 17) rfl (litC z a' p' q') _ Hrw.out Tryz.underlying80 rfl (lit_size z a' p' q') ?_
           | refine wpList_new rfl rfl 80 10 (.tmp 54) rfl rfl rfl rfl _ (litC z a' p' q').toArray lit_info rfl (lit_one z a' p' q') rfl rfl ?_)
          go_roundw
          case rel => exact ⟨j + 1, by omega, by go_num, HS3, HOQ⟩
          case measure => simp [intOf]; omega
        ·have i1 : ¬ (j : Int) < (mn : Int) := by omega
         have hs2 := HSk.out; rw [List.take_of_length_le (by have := Hml.out; omega)] at hs2; have HM : Hid (ScpM w wr g km cs (decide (lk.length < (roundK leavesE y.body lk).length)) (roundK leavesE y.body lk)) := hs2.m
         have HF : Hid ((decide (lk.length < (roundK leavesE y.body lk).length) = true → 1 ≤ f ∧ kindsF leavesE y.body f (roundK leavesE y.body lk) = Z ∧ (varsR y).length + 1 ≤ f + (roundK leavesE y.body lk).length) ∧ (decide (lk.length < (roundK leavesE y.body lk).length) = false → roundK leavesE y.body lk = Z)) :=
          ⟨fun h => HGo.out.1 (by simpa using h), fun h => HGo.out.2 (by simpa using h)⟩
         clear hs2 HSk HGo; go_wp2_with fail
         go_roundg f
         case rel => exact ⟨_, _, HM, HOk, HT2, HF⟩
         case measure => omega
end Go.Proofs.YtaeedepojpablaaGreatDoor

namespace Go.Proofs.YtaeedepojpablaaGreatDoor
open Go.RowKit
theorem okArgs_free {l : Kinds} {agg : Int} {ks : List Int} : ∀ (r : List GTold) (i : Nat), okArgs l agg (-1) ks r i = okArgs l 0 (-1) ks r i
 | [], _ => rfl
 | t :: r, i => by
   have h : ¬ (i : Int) = -1 := by omega
   rw [okArgs, okArgs, okArgs_free r (i + 1), okArg_eq, okArg_eq, if_neg h, if_neg h]
theorem atomErr_free (ds : List GDecl) (l : Kinds) (a : GAtom) (agg : Int) : atomErr ds l a agg (-1) = atomErr ds l a 0 (-1) := by
 unfold atomErr; rw [okArgs_free]
def ruleErrL (ds : List GDecl) (l : Kinds) (x : GRule) : Int × Int := if atomErr ds l x.head x.agg (colK x) ≠ 0 then (x.pos, atomErr ds l x.head x.agg (colK x)) else bodyErr ds l x.body
theorem ruleErrL_eq (ds : List GDecl) (x : GRule) : ruleErr ds x = ruleErrL ds (kindsR ds x) x := rfl
def AtPost (r : Int × Int) (w : World) (e : Ending) (w' : World) : Prop := e = .returned (.tuple #[.int .i64 r.1, .int .i64 r.2]) ∧ Below w.heap.size w w'
theorem bodyErr_at {ds : List GDecl} {l : Kinds} {b : List GLit} {k : Nat} {z : GLit} (hz : b[k]? = some z) : bodyErr ds l (b.drop k) = if litErr ds l z ≠ 0 then (z.pos, litErr ds l z) else bodyErr ds l (b.drop (k + 1)) := by
 obtain ⟨hk, he⟩ := List.getElem?_eq_some_iff.1 hz; rw [List.drop_eq_getElem_cons hk, he, bodyErr]
theorem fault1_any (w0 : World) (sb g km : Nat) (aA : Option Addr) (an ac : Nat) (bv : Value) (rest : List Value) (agg : Int) (hag : (Value.slice aA an ac :: bv :: rest)[4]? = some (.int .i64 agg)) (l0 l : Kinds) (ds : List GDecl) (hD : SliceIs Enc.decl w0 w0.heap.size aA an ac ds) (hk : ∀ d ∈ ds, d.kinds.length ≤ 10000)
 (lb d : Nat) (z : GLit) (a p q : Hd) (w : World) (h : Scp w0 w g km (.slice aA an ac :: bv :: rest) l0 l) (hz : LitAt d w0 w0.heap.size z a p q) (hs : w.cell? ⟨sb, 0, none⟩ = some (.pointer (some ⟨g, 0, none⟩))) (hl : w.heap[lb]? = some (.cells (litC z a p q).toArray 80 (0, 0))) :
 Calls Tryz.prog 63 #[.pointer (some ⟨sb, 0, none⟩), .pointer (some ⟨lb, 0, none⟩)] w (IntPost (atomErr ds l z.atom agg (-1)) w) := by
 obtain ⟨zA, zn, zc⟩ := a; have c1 : w.cell? ⟨lb, 1, none⟩ = some (.string z.atom.rel) := (facts17 hl).2.1; have c2 : w.cell? ⟨lb, 2, none⟩ = some (.slice zA zn zc) := (facts17 hl).2.2.1; have HA := hZ9 (atom_any w0 g km aA an ac bv rest agg hag l0 l ds hD hk z.atom.rel zA zn zc z.atom.args hz.args (-1) w h); obtain ⟨E, hE⟩ : ∃ E, Hid (atomErr ds l z.atom agg (-1) = E) := ⟨_, rfl⟩
 have hE' : atomErr ds l ⟨z.atom.rel, z.atom.args⟩ agg (-1) = E := hE.out; rw [hE'] at HA; rw [hE.out]; clear hE' hE h hD hk hz hl hag; go_enter Tryz.func63, Tryz.ntmps63
 go_wp2_with fail
 refine HA.out.mono ?_; rintro e w1 ⟨rfl, hb1⟩; have HB := hZ9 hb1; clear hb1; go_wp2_with fail
 go_ret; exact ⟨rfl, HB.out⟩
theorem fault2_any (w0 : World) (sb g km : Nat) (cs : List Value) (l0 l : Kinds) (lb d : Nat) (z : GLit) (a p q : Hd) (w : World) (h : Scp w0 w g km cs l0 l) (hz : LitAt d w0 w0.heap.size z a p q) (hs : w.cell? ⟨sb, 0, none⟩ = some (.pointer (some ⟨g, 0, none⟩))) (hl : w.heap[lb]? = some (.cells (litC z a p q).toArray 80 (0, 0))) :
 Calls Tryz.prog 64 #[.pointer (some ⟨sb, 0, none⟩), .pointer (some ⟨lb, 0, none⟩)] w (IntPost (cmpErr l z) w) := by
 have HA := hZ9 (cmp_any w0 g km cs l0 l d z a p q w h hz); have HRn := hZ9 (range_row hl); obtain ⟨E, hE⟩ : ∃ E, Hid (cmpErr l z = E) := ⟨_, rfl⟩
 rw [hE.out] at HA ⊢; clear hE h hz hl; go_enter Tryz.func64, Tryz.ntmps64
 go_wp2_with (refine wpList_load_mid rfl 80 (.tmp 1) rfl lb 0 rfl (litC z a p q) _ HRn.out Tryz.underlying80 rfl (lit_size z a p q) ?_)
 refine HA.out.mono ?_; rintro e w1 ⟨rfl, hb1⟩; have HB := hZ9 hb1; clear hb1; go_wp2_with fail
 go_ret; exact ⟨rfl, HB.out⟩
theorem fault_any (w0 : World) (g km : Nat) (aA : Option Addr) (an ac : Nat) (bv : Value) (l0 l : Kinds) (ds : List GDecl) (hD : SliceIs Enc.decl w0 w0.heap.size aA an ac ds) (hk : ∀ d ∈ ds, d.kinds.length ≤ 10000)
 (d : Nat) (y : GRule) (a b : Hd) (hy : RuleAt d w0 w0.heap.size y a b) (w : World) (h : Scp w0 w g km (.slice aA an ac :: bv :: ruleC y a b) l0 l) :
 Calls Tryz.prog 30 #[.pointer (some ⟨g, 0, none⟩)] w (AtPost (ruleErrL ds l y) w) := by
 have mixed : Tryz.prog.follows .mixedOrders = true := by kernel_rfl
 obtain ⟨hA, hn, hc⟩ := a; obtain ⟨mA, mn, mc⟩ := b; obtain ⟨V, hV⟩ : ∃ V, V = w.alloc (.cells #[.pointer (some ⟨g, 0, none⟩)] 97) := ⟨_, rfl⟩
 have HVe := hZ9 hV.symm; have hb : Below w.heap.size w V := by rw [hV]; exact belowA (Below.refl _ _) _
 have hr0 : V.heap[w.heap.size]? = some (.cells #[.pointer (some ⟨g, 0, none⟩)] 97 (0, 0)) := by rw [hV]; exact heapNew rfl
 have hgl := (glt hr0)
 have HS := hZ9 (h.on hb); have HB := hZ9 hb
 have HC : Hid (∀ W, Below V.heap.size V W → W.cell? ⟨w.heap.size, 0, none⟩ = some (.pointer (some ⟨g, 0, none⟩)) ∧ W.cell? ⟨g, 2, none⟩ = some (.string y.head.rel) ∧ W.cell? ⟨g, 3, none⟩ = some (.slice hA hn hc) ∧ W.cell? ⟨g, 4, none⟩ = some (.int .i64 y.agg) ∧ W.cell? ⟨g, 5, none⟩ = some (.int .i64 y.col) ∧ W.cell? ⟨g, 6, none⟩ = some (.slice mA mn mc) ∧ W.cell? ⟨g, 7, none⟩ = some (.int .i64 y.pos)) := fun W hW => by
  have hs := HS.out.on hW; exact ⟨(cell_of_row _ _ 0 _ _ _ ((hW.block _ hgl).trans hr0)).trans rfl, hs.cell (i := 2) rfl, hs.cell (i := 3) rfl, hs.cell (i := 4) rfl, hs.cell (i := 5) rfl, hs.cell (i := 6) rfl, hs.cell (i := 7) rfl⟩
 have HAt := hZ9 (fun (W : World) (hW : Below V.heap.size V W) (col : Int) => atom_any w0 g km aA an ac bv (ruleC y ⟨hA, hn, hc⟩ ⟨mA, mn, mc⟩) y.agg rfl l0 l ds hD hk y.head.rel hA hn hc y.head.args hy.args col W (HS.out.on hW))
 have HF1 := hZ9 (fun (W : World) (hW : Below V.heap.size V W) (lb : Nat) (z : GLit) (a p q : Hd) (hz : LitAt d w0 w0.heap.size z a p q) (hl : W.heap[lb]? = some (.cells (litC z a p q).toArray 80 (0, 0))) =>
  fault1_any w0 w.heap.size g km aA an ac bv (ruleC y ⟨hA, hn, hc⟩ ⟨mA, mn, mc⟩) y.agg rfl l0 l ds hD hk lb d z a p q W (HS.out.on hW) hz (HC.out W hW).1 hl)
 have HF2 := hZ9 (fun (W : World) (hW : Below V.heap.size V W) (lb : Nat) (z : GLit) (a p q : Hd) (hz : LitAt d w0 w0.heap.size z a p q) (hl : W.heap[lb]? = some (.cells (litC z a p q).toArray 80 (0, 0))) =>
  fault2_any w0 w.heap.size g km _ l0 l lb d z a p q W (HS.out.on hW) hz (HC.out W hW).1 hl)
 have Hy := hZ9 hy; have Hml : Hid (y.body.length = mn) := hy.body.1; have hmn := hy.body.bound; obtain ⟨P, HP⟩ : ∃ P : Ending → World → Prop, Hid (P = AtPost (ruleErrL ds l y) w) := ⟨_, rfl⟩
 rw [← HP.out]; obtain ⟨but, Hbut⟩ : ∃ but, Hid (colK y = but) := ⟨_, rfl⟩
 have hq : (if 0 < y.agg then y.col else -1) = but := Hbut.out
 have hcase : (0 < y.agg ∧ but = y.col) ∨ (¬ 0 < y.agg ∧ but = -1) := by
  by_cases h : 0 < y.agg
  ·exact .inl ⟨h, by rw [← hq, if_pos h]⟩
  ·exact .inr ⟨h, by rw [← hq, if_neg h]⟩
 obtain ⟨he, Hhe⟩ : ∃ he, Hid (atomErr ds l y.head y.agg but = he) := ⟨_, rfl⟩
 have HAh : Hid (∀ W, Below V.heap.size V W → Calls Tryz.prog 62 #[.pointer (some ⟨g, 0, none⟩), .agg #[.string y.head.rel, .slice hA hn hc], .int .i64 but] W (IntPost he W)) := fun W hW => by
  rw [← Hhe.out]; exact HAt.out W hW but
 have HEnd : Hid (∀ W r, ruleErrL ds l y = r → Below V.heap.size V W → P (.returned (.tuple #[.int .i64 r.1, .int .i64 r.2])) W) := fun W r h1 h2 => by
  rw [HP.out]; exact ⟨by rw [h1], HB.out.trans (h2.mono HB.out.size)⟩
 have HRl : Hid (ruleErrL ds l y = if he ≠ 0 then (y.pos, he) else bodyErr ds l (y.body.drop 0)) := by
  show _ = _; unfold ruleErrL; rw [Hbut.out, Hhe.out, List.drop_zero]
 obtain ⟨c0, c1, c2, c3, c4, c5, c6⟩ := HC.out V (Below.refl _ _); clear h hV hb hr0 hD hk hy hq HAt; go_enter Tryz.func30, Tryz.ntmps30
 rcases hcase with ⟨hagg, hbe⟩ | ⟨hagg, hbe⟩
 all_goals
  subst hbe; go_wp2_with (rw [HVe.out])
  clear c0 c1 c2 c3 c4 c5 c6; refine drawnS mixed _ (Below V.heap.size V) rfl (by kernel_rfl) rfl (Below.drew (Below.refl _ _)) ?_
  iterate 7
   apply seqS_op
   ·intro W hW; obtain ⟨k0, k1, k2, k3, k4, k5, k6⟩ := HC.out W hW; go_wp2_with fail
    exact ⟨rfl, rfl, fun d hd => by cases hd; simp only [List.getElem?_toArray, List.getElem?_cons_succ, List.getElem?_cons_zero]; rfl, hW⟩
   simp only [Act.put, List.setIfInBounds_toArray, List.set_cons_succ, List.set_cons_zero]
  apply seqS_op
  ·intro W hW; go_wp2_with fail
   refine (HAh.out W hW).mono ?_; rintro e w1 ⟨rfl, hb1⟩; go_wp2_with fail
   exact ⟨rfl, rfl, fun d hd => by cases hd; simp only [List.getElem?_toArray, List.getElem?_cons_succ, List.getElem?_cons_zero]; rfl, hW.trans (hb1.mono hW.size)⟩
  simp only [Act.put, List.setIfInBounds_toArray, List.set_cons_succ, List.set_cons_zero]
  iterate 1
   apply seqS_op
   ·intro W hW; go_wp2_with fail
    exact ⟨rfl, rfl, fun d hd => by cases hd; simp only [List.getElem?_toArray, List.getElem?_cons_succ, List.getElem?_cons_zero]; rfl, hW⟩
   simp only [Act.put, List.setIfInBounds_toArray, List.set_cons_succ, List.set_cons_zero]
  apply seqS_end; intro W hW; have HW := hZ9 hW; obtain ⟨c0, c1, c2, c3, c4, c5, c6⟩ := HC.out W hW; clear hW hagg c1 c2 c3 c4; by_cases h0 : he = 0
  rotate_left
  ·have e1 : (he != 0) = true := by simpa using h0
   have HE := hZ9 (HEnd.out W (y.pos, he) (HRl.out.trans (if_pos h0)) HW.out); clear h0 HEnd HRl; go_wp2_with fail
   first | exact HE.out | (go_ret2; exact HE.out)
  have e1 : (he != 0) = false := by simpa using h0
  have HRb : Hid (ruleErrL ds l y = bodyErr ds l (y.body.drop 0)) := HRl.out.trans (if_neg (fun q => q h0)); clear h0 HRl; go_wp2_with fail
  clear c0 c5 c6; go_loopw [7, 8, 43] (fun _ _ i wr => ∃ k : Nat, k ≤ mn ∧ i = .int .i64 (k : Int) ∧ Hid (ruleErrL ds l y = bodyErr ds l (y.body.drop k)) ∧ Hid (Below V.heap.size V wr)) (fun _ _ i _ => mn - (intOf i).toNat)
  case atStart => exact ⟨0, by omega, rfl, HRb, HW⟩
  case round =>
   clear HRb HW; obtain ⟨k, hk, rfl, HRb, HBk⟩ := hrel; have i0 : (0 : Int) ≤ (k : Int) := by omega
   by_cases hlt : k < mn
   ·have i1 : (k : Int) < (mn : Int) := by omega
    obtain ⟨bb, o, z, a', p', q', rfl, hbb, hz, hlz, Hr⟩ := Hy.out.body.lit_range hlt; have hb0 := (HS.out.on HBk.out).b0; have Hrw : Hid (wr.rangeAt bb (o + k * 17) (litC z a' p' q')) := fun j v hv => (hb0.cell (p := ⟨bb, _, none⟩) hbb).trans (Hr.out j v hv)
    obtain ⟨Q, hQ⟩ : ∃ Q, Q = wr.alloc (.cells (litC z a' p' q').toArray 80) := ⟨_, rfl⟩
    have HQe := hZ9 hQ.symm; have hbQ : Below wr.heap.size wr Q := by rw [hQ]; exact belowA (Below.refl _ _) _
    have hrQ : Q.heap[wr.heap.size]? = some (.cells (litC z a' p' q').toArray 80 (0, 0)) := by rw [hQ]; exact heapNew rfl
    have hgQ := (glt hrQ)
    have u0 : Q.cell? ⟨wr.heap.size, 0, none⟩ = some (.int .i64 z.k) := (facts17 hrQ).1; have hBQ : Below V.heap.size V Q := HBk.out.trans (hbQ.mono HBk.out.size); have HBQ := hZ9 hBQ; have HU : Hid (∀ W, Below Q.heap.size Q W → W.cell? ⟨wr.heap.size, 16, none⟩ = some (.int .i64 z.pos)) := fun W hW => (facts17 ((hW.block _ hgQ).trans hrQ)).2.2.2.2.2.2.2.2.2.2.2.2.2.2.2.2
    have HC1 := hZ9 (HF1.out Q hBQ wr.heap.size z a' p' q' hlz hrQ); have HC2 := hZ9 (HF2.out Q hBQ wr.heap.size z a' p' q' hlz hrQ); rw [atomErr_free] at HC1; have HSt := hZ9 (bodyErr_at (ds := ds) (l := l) hz.out); obtain ⟨le, Hle⟩ : ∃ le, Hid (litErr ds l z = le) := ⟨_, rfl⟩
    rw [Hle.out] at HSt; have HNx : Hid (le = 0 → ruleErrL ds l y = bodyErr ds l (y.body.drop (k + 1))) := fun h => HRb.out.trans (HSt.out.trans (if_neg (fun q => q h)))
    have HEr : Hid (∀ W, le ≠ 0 → Below Q.heap.size Q W → P (.returned (.tuple #[.int .i64 z.pos, .int .i64 le])) W) := fun W h hW => HEnd.out W (z.pos, le) (HRb.out.trans (HSt.out.trans (if_pos h))) (HBQ.out.trans (hW.mono HBQ.out.size))
    have hle : (if z.k = 3 then cmpErr l z else atomErr ds l z.atom 0 (-1)) = le := Hle.out; clear hQ hbQ hrQ hb0 hlz hz Hr hBQ HRb HSt; by_cases hk3 : z.k = 3
    ·have e3 : (z.k == 3) = true := by simpa using hk3
     rw [if_pos hk3] at hle; rw [hle] at HC2; clear hk3 HC1 hle Hle
     go_wp2_with (first
      | rw [HQe.out]
      | refine wpList_load_mid rfl 80 (.tmp 45) rfl bb (o + k * 17) rfl (litC z a' p' q') _ Hrw.out Tryz.underlying80 rfl (lit_size z a' p' q') ?_
      | refine wpList_new rfl rfl 80 7 (.tmp 46) rfl rfl rfl rfl _ (litC z a' p' q').toArray lit_info rfl (lit_one z a' p' q') rfl rfl ?_)
     refine HC2.out.mono ?_; rintro e w3 ⟨rfl, hb3⟩; have HB3 := hZ9 hb3; have HB3v : Hid (Below V.heap.size V w3) := HBQ.out.trans (hb3.mono HBQ.out.size); have u16 := HU.out w3 hb3; clear hb3 HC2 u0; by_cases h0 : le = 0
     ·have e4 : (le != 0) = false := by simpa using h0
      have HN := hZ9 (HNx.out h0); clear h0 HNx HEr; go_wp2_with fail
      go_roundw
      case rel => exact ⟨k + 1, by omega, by go_num, HN, HB3v⟩
      case measure => simp [intOf]; omega
     ·have e4 : (le != 0) = true := by simpa using h0
      have HE := hZ9 (HEr.out w3 h0 HB3.out); clear h0 HNx HEr; go_wp2_with fail
      first | exact HE.out | (go_ret2; exact HE.out)
    ·have e3 : (z.k == 3) = false := by simpa using hk3
     rw [if_neg hk3] at hle; rw [hle] at HC1; clear hk3 HC2 hle Hle
     go_wp2_with (first
      | rw [HQe.out]
      | refine wpList_load_mid rfl 80 (.tmp 45) rfl bb (o + k * 17) rfl (litC z a' p' q') _ Hrw.out Tryz.underlying80 rfl (lit_size z a' p' q') ?_
      | refine wpList_new rfl rfl 80 7 (.tmp 46) rfl rfl rfl rfl _ (litC z a' p' q').toArray lit_info rfl (lit_one z a' p' q') rfl rfl ?_)
     refine HC1.out.mono ?_; rintro e w3 ⟨rfl, hb3⟩; have HB3 := hZ9 hb3; have HB3v : Hid (Below V.heap.size V w3) := HBQ.out.trans (hb3.mono HBQ.out.size); have u16 := HU.out w3 hb3; clear hb3 HC1 u0; by_cases h0 : le = 0
     ·have e4 : (le != 0) = false := by simpa using h0
      have HN := hZ9 (HNx.out h0); clear h0 HNx HEr; go_wp2_with fail
      go_roundw
      case rel => exact ⟨k + 1, by omega, by go_num, HN, HB3v⟩
      case measure => simp [intOf]; omega
     ·have e4 : (le != 0) = true := by simpa using h0
      have HE := hZ9 (HEr.out w3 h0 HB3.out); clear h0 HNx HEr; go_wp2_with fail
      first | exact HE.out | (go_ret2; exact HE.out)
   ·have i1 : ¬ (k : Int) < (mn : Int) := by omega
    have HE := hZ9 (HEnd.out wr (0, 0) (by rw [HRb.out, List.drop_of_length_le (by have := Hml.out; omega)]; rfl) HBk.out); clear HRb HBk HEnd; go_wp2_with fail
    first | exact HE.out | (go_ret2; exact HE.out)
end Go.Proofs.YtaeedepojpablaaGreatDoor
