/- My own texts TyWt, LiftTypesTexts, FactsTypesTexts, as far as this claim needs them. -/
import Derived.Test.YtaeedepojpablaaGreatDoorZqb11
import Derived.Test.YtaeedepojpablaaGreatDoorZqb12
import Derived.Test.YtaeedepojpablaaGreatDoorZqe1
set_option linter.unusedVariables false
set_option linter.unusedSimpArgs false
set_option maxRecDepth 1000000
set_option maxHeartbeats 16000000
namespace Go.Proofs.YtaeedepojpablaaGreatDoor
open Go.RowKit
theorem typesTexts_walk (s rel : ByteArray) (hs : s.size ≤ 140737488351232) (w : World) (hW : ParW w) :
 Calls Tryz.prog 3 #[.string s, .string rel] w (RetBool true w) := by
 have mixed : Tryz.prog.follows .mixedOrders = true := by kernel_rfl
 have HAl := hZ9 (alive8_any w hW); have HC := hZ9 (fun (V : World) (hV : ParW V) => parse_any s hs V hV); have HW := hZ9 hW; clear hW; go_enter Tryz.func3, Tryz.ntmps3
 go_wp2_with fail
 refine HAl.out.mono ?_; rintro e w1 ⟨rfl, hb1⟩; have Hb1 := hZ9 hb1; clear hb1 HAl; by_cases h4 : 4000 < s.size
 ·have i0 : (4000 : Int) < (s.size : Int) := by omega
  clear HC; go_wp2_with fail
  go_ret; exact ⟨rfl, Hb1.out⟩
 have i0 : ¬ (4000 : Int) < (s.size : Int) := by omega
 by_cases h5 : 100 < rel.size
 ·have i5 : (100 : Int) < (rel.size : Int) := by omega
  clear HC; go_wp2_with fail
  go_ret; exact ⟨rfl, Hb1.out⟩
 have i5 : ¬ (100 : Int) < (rel.size : Int) := by omega
 have HC1 := hZ9 (HC.out w1 (HW.out.on Hb1.out)); clear HC; go_wp2_with fail
 refine HC1.out.mono ?_; rintro e w2 ⟨hb, d, ⟨A1, k1, c1⟩, ⟨A2, k2, c2⟩, rfl, ha, hr⟩; dsimp only [Hd.v] at *; have hq : ProgAt d w2 w2.heap.size (parseP s.toList).1 ⟨A1, k1, c1⟩ ⟨A2, k2, c2⟩ := ⟨ha.is, hr.is⟩
 have hg : (parseP s.toList).2.2 = 0 → _ := fun h => (parse_good (l := s.toList) h).1
 have hb2 : Below w.heap.size w w2 := Hb1.out.trans (hb.mono Hb1.out.size); generalize parseP s.toList = pp at *; obtain ⟨x, at_, er⟩ := pp; dsimp only at hq hg; have Hb2 := hZ9 hb2; have HP2 := hZ9 (HW.out.on hb2); clear ha hr hb hb2 HC1 Hb1 HW; by_cases he : er = 0
 rotate_left
 ·have hpe : parErr er = .iface 89 (.int .i64 er) := by unfold parErr; rw [if_neg he]
  clear hg hq; go_wp2_with fail
  go_ret; exact ⟨rfl, Hb2.out.alloc Hb2.out.size _⟩
 subst he; have hfo := hg rfl; have hpe : parErr 0 = .nilIface := rfl; have Hfo := hZ9 hfo; obtain ⟨V, hV⟩ : ∃ V, V = w2.alloc (.cells #[.slice A1 k1 c1, .slice A2 k2 c2] 26) := ⟨_, rfl⟩
 have HVe := hZ9 hV.symm; have hbV : Below w2.heap.size w2 V := by rw [hV]; exact belowA (Below.refl _ _) _
 have hgV : V.heap[w2.heap.size]? = some (.cells #[.slice A1 k1 c1, .slice A2 k2 c2] 26 (0, 0)) := by rw [hV]; exact heapNew rfl
 have hgl := (glt hgV)
 have HCl : Hid (∀ W, Below V.heap.size V W → W.cell? ⟨w2.heap.size, 0, none⟩ = some (.slice A1 k1 c1) ∧ W.cell? ⟨w2.heap.size, 1, none⟩ = some (.slice A2 k2 c2)) := fun W hW => facts2 ((hW.block _ hgl).trans hgV)
 have HX : Hid (∀ W, Below V.heap.size V W → ProgAt d W W.heap.size x ⟨A1, k1, c1⟩ ⟨A2, k2, c2⟩) := fun W hW => (hq.keep hbV).keep hW
 have HBw : Hid (∀ W, Below V.heap.size V W → Below w.heap.size w W) := fun W hW => Hb2.out.trans ((hbV.trans (hW.mono hbV.size)).mono Hb2.out.size)
 have HLx : Hid (∀ W, Below V.heap.size V W → LexW W) := fun W hW => ((HP2.out.on hbV).on hW).lex
 have HDo := hZ9 (copyProg_any d x ⟨A1, k1, c1⟩ ⟨A2, k2, c2⟩ V (HX.out V (Below.refl _ _)) (formed_nar hfo)); obtain ⟨c0', c1'⟩ := HCl.out V (Below.refl _ _); clear hV hbV hgV hq hg hfo HP2 Hb2; go_wp2_with (rw [HVe.out])
 refine HDo.out.mono ?_; rintro e w4 ⟨⟨a2, n2, l2⟩, ⟨b2, m2, q2⟩, rfl, hp4, hb4⟩; obtain ⟨M, hM⟩ : ∃ M, M = w4.alloc (.cells #[.slice a2 n2 l2, .slice b2 m2 q2] 34) := ⟨_, rfl⟩
 have HMe := hZ9 hM.symm; have hbM : Below w4.heap.size w4 M := by rw [hM]; exact belowA (Below.refl _ _) _
 have hgM : M.heap[w4.heap.size]? = some (.cells #[.slice a2 n2 l2, .slice b2 m2 q2] 34 (0, 0)) := by rw [hM]; exact heapNew rfl
 have hglM := (glt hgM)
 have hBM : Below V.heap.size V M := hb4.trans (hbM.mono hb4.size); have HBM := hZ9 hBM; have HD : Hid (∀ W, Below M.heap.size M W → W.cell? ⟨w4.heap.size, 0, none⟩ = some (.slice a2 n2 l2) ∧ W.cell? ⟨w4.heap.size, 1, none⟩ = some (.slice b2 m2 q2)) := fun W hW => facts2 ((hW.block _ hglM).trans hgM)
 have HX2 : Hid (∀ W, Below M.heap.size M W → ProgAt d W W.heap.size x ⟨a2, n2, l2⟩ ⟨b2, m2, q2⟩) := fun W hW => (hp4.keep hbM).keep hW
 have HCk := hZ9 (tyCheck_any d x A1 k1 c1 A2 k2 c2 M (HX.out M hBM) (HLx.out M hBM)); obtain ⟨d0, d1⟩ := HCl.out M hBM; obtain ⟨r, Hr⟩ : ∃ r, Hid (tyErr x = r) := ⟨_, rfl⟩
 rw [Hr.out] at HCk; obtain ⟨r1, r2⟩ := r; unfold TyPost at HCk; dsimp only at HCk; obtain ⟨ev, Hev⟩ : ∃ ev, Hid (errV 89 r2 = ev) := ⟨_, rfl⟩
 rw [Hev.out] at HCk; clear hb4 hp4 hM hbM hgM hBM HDo c0' c1'; go_wp2_with (rw [HMe.out])
 refine HCk.out.mono ?_; rintro e w5 ⟨rfl, hb5⟩; have HB5 := hZ9 hb5; have HRc := hZ9 (refTyCheck_any d x a2 n2 l2 b2 m2 q2 w5 (HX2.out w5 hb5)); rw [Hr.out] at HRc; unfold AtPost at HRc; dsimp only at HRc; obtain ⟨e0, e1⟩ := HD.out w5 hb5; clear hb5 HCk d0 d1; go_wp2_with fail
 refine HRc.out.mono ?_; rintro e w6 ⟨rfl, hb6⟩; have hB6 : Below M.heap.size M w6 := HB5.out.trans (hb6.mono HB5.out.size); have HB6 := hZ9 hB6; have hBV6 : Below V.heap.size V w6 := HBM.out.trans (hB6.mono HBM.out.size); have HOf := hZ9 (ofK_any A1 k1 c1 (.slice A2 k2 c2) x.decls rel w6 ((HX.out w6 hBV6).decls) (formed_kinds Hfo.out)); obtain ⟨d0, d1⟩ := HCl.out w6 hBV6; obtain ⟨ks, Hks⟩ : ∃ ks, Hid (kindsD x.decls rel = ks) := ⟨_, rfl⟩
 obtain ⟨nk, Hnk⟩ : ∃ nk, Hid (ks.length = nk) := ⟨_, rfl⟩
 obtain ⟨bo, Hbo⟩ : ∃ bo, Hid ((idxD x.decls rel).isSome = bo) := ⟨_, rfl⟩
 unfold OfPost at HOf; rw [Hks.out, Hnk.out, Hbo.out] at HOf; clear hb6 HRc e0 e1 hB6 hBV6; go_wp2_with fail
 refine HOf.out.mono ?_; rintro e w7 ⟨A7, c7, rfl, hs7, hb7⟩; have HK7 := hZ9 hs7.is; have hB7 : Below M.heap.size M w7 := HB6.out.trans (hb7.mono HB6.out.size); have HB7 := hZ9 hB7; have HI := hZ9 (tyRefIndex_any a2 n2 l2 (.slice b2 m2 q2) x.decls rel w7 ((HX2.out w7 hB7).decls)); obtain ⟨fr, Hfr⟩ : ∃ fr, Hid (idxI (idxD x.decls rel) = fr) := ⟨_, rfl⟩
 unfold IdxRet at HI; rw [Hfr.out] at HI; obtain ⟨e0, e1⟩ := HD.out w7 hB7; clear hs7 hb7 HOf d0 d1 hB7; go_wp2_with fail
 refine HI.out.mono ?_; rintro e w8 ⟨rfl, hb8⟩; have hB8 : Below M.heap.size M w8 := HB7.out.trans (hb8.mono HB7.out.size); have HB8 := hZ9 hB8; have HK8 := hZ9 (HK7.out.keep hb8); have hBV8 : Below V.heap.size V w8 := HBM.out.trans (hB8.mono HBM.out.size); have HI2 := hZ9 (tyIndex_any A1 k1 c1 (.slice A2 k2 c2) x.decls rel w8 ((HX.out w8 hBV8).decls)); unfold IdxRet at HI2; rw [Hfr.out] at HI2; obtain ⟨d0, d1⟩ := HCl.out w8 hBV8; have f1 : (fr != fr) = false := by simp
 clear hb8 HI e0 e1 hB8 hBV8 HK7; have HNm : Hid (∀ W, Calls Tryz.prog 15 #[ev] W (RetInt r2 W)) := fun W => by rw [← Hev.out]; exact num_any r2 W
 have f2 : (r2 == r2) = true := by simp
 have f3 : (r1 == r1) = true := by simp
 go_wp2_with fail
 refine HI2.out.mono ?_; rintro e w9 ⟨rfl, hb9⟩; have hB9 : Below M.heap.size M w9 := HB8.out.trans (hb9.mono HB8.out.size); have HB9 := hZ9 hB9; have HK9 := hZ9 (HK8.out.keep hb9); have HBw2 : Hid (∀ W, Below M.heap.size M W → Below w.heap.size w W) := fun W hW => HBw.out W (HBM.out.trans (hW.mono HBM.out.size))
 clear hb9 HI2 d0 d1 HK8 hB9; cases hi : idxD x.decls rel with
 | none =>
   have hfr : fr = -1 := by rw [← Hfr.out, hi]; rfl
   have hbo : bo = false := by rw [← Hbo.out, hi]; rfl
   have hks : ks = [] := by rw [← Hks.out, kindsD_none hi]
   have hnk : nk = 0 := by rw [← Hnk.out, hks]; rfl
   subst hbo hnk hfr; clear hi hks Hfr Hbo Hks; go_wp2_with fail
   refine (HNm.out w9).mono ?_; rintro e wa ⟨rfl, hba⟩; have HE := hZ9 (HBw2.out wa (HB9.out.trans (hba.mono HB9.out.size))); clear hba; go_wp2_with fail
   go_ret; exact ⟨by simp, HE.out⟩
 | some i =>
   have hfr : fr = (i : Int) := by rw [← Hfr.out, hi]; rfl
   have hbo : bo = true := by rw [← Hbo.out, hi]; rfl
   have hlt := idxD_lt hi; have hn2 : x.decls.length = n2 := (HX2.out w9 HB9.out).decls.1; obtain ⟨db, dof, dd, da, haA, hdb, hdd, hdat, z0, z1, z2⟩ := (HX2.out w9 HB9.out).decls.decl_at (i := i) (by dsimp only; omega); dsimp only at haA; subst haA; obtain ⟨kA, kn, kc⟩ := da; dsimp only [Hd.v] at z1; have hkd : ks = dd.kinds := by rw [← Hks.out]; exact kindsD_some hi hdd.out
   have hkn : kn = nk := by rw [← Hnk.out, hkd]; exact hdat.kinds.1.symm
   have HKd := hZ9 hdat.kinds; rw [← hkd, hkn] at HKd; subst hbo hfr hkn; obtain ⟨e0, e1⟩ := HD.out w9 HB9.out; have j0 : (0 : Int) ≤ (i : Int) := by omega
   have j1 : ¬ (i : Int) < 0 := by omega
   have j2 : (i : Int) < (n2 : Int) := by omega
   have f4 : ((kn : Int) != (kn : Int)) = false := by simp
   have hkb := HKd.out.bound; dsimp only at HKd hkb; have HZ : Hid (∀ W, Below w9.heap.size w9 W → W.cell? ⟨w4.heap.size, 0, none⟩ = some (.slice (some ⟨db, dof, none⟩) n2 l2) ∧ W.cell? ⟨db, dof + i * 3 + 1, none⟩ = some (.slice kA kn kc)) := fun W hW => ⟨below_cell hW e0, below_cell hW z1⟩
   clear hi Hfr Hbo Hks hdat hdd z0 z2 hkd e1; go_wp2_with fail
   clear e0 z1; go_loopw [15, 88] (fun _ q wr => ∃ k : Nat, k ≤ kn ∧ q = .int .i64 (k : Int) ∧ Hid (Below w9.heap.size w9 wr)) (fun _ q _ => kn - (intOf q).toNat)
   case atStart => exact ⟨0, by omega, rfl, Below.refl _ _⟩
   case round =>
    obtain ⟨k, hk, rfl, HB⟩ := hrel; have i0' : (0 : Int) ≤ (k : Int) := by omega
    by_cases hkl : k < kn
    ·have i1 : (k : Int) < (kn : Int) := by omega
     obtain ⟨g0, g1⟩ := HZ.out wr HB.out; obtain ⟨b1, o1, u1, rfl, hb1, hu1, v1, -⟩ := (HK9.out.keep HB.out).int_at hkl; obtain ⟨b3, o3, u3, rfl, hb3, hu3, v3, -⟩ := (HKd.out.keep HB.out).int_at hkl; obtain rfl : u1 = u3 := by have h1 := hu3.out; rw [hu1.out] at h1; injection h1
     have f5 : (u1 != u1) = false := by simp
     have HBd : Hid (Below w9.heap.size w9 wr.drew) := HB.out.drew; clear hu1 hu3; go_wp2_with fail
     refine drawnS mixed _ (fun W => W = wr.drew) rfl (by kernel_rfl) rfl rfl ?_
     iterate 14
      apply seqS_op
      ·rintro W rfl; go_wp2_with fail
       exact ⟨rfl, rfl, fun d hd => by cases hd; simp only [List.getElem?_toArray, List.getElem?_cons_succ, List.getElem?_cons_zero]; rfl, rfl⟩
      simp only [Act.put, List.setIfInBounds_toArray, List.set_cons_succ, List.set_cons_zero]
     apply seqS_end; rintro W rfl; go_wp2_with fail
     go_roundw
     case rel => exact ⟨k + 1, by omega, by go_num, HBd⟩
     case measure => simp [intOf]; omega
    ·have i1 : ¬ (k : Int) < (kn : Int) := by omega
     have HBz : Hid (Below M.heap.size M wr) := HB9.out.trans (HB.out.mono HB9.out.size); go_wp2_with fail
     refine (HNm.out wr).mono ?_; rintro e wa ⟨rfl, hba⟩; have HE := hZ9 (HBw2.out wa (HBz.out.trans (hba.mono HBz.out.size))); clear hba; go_wp2_with fail
     go_ret; exact ⟨by simp, HE.out⟩
end Go.Proofs.YtaeedepojpablaaGreatDoor

namespace Go.Proofs.YtaeedepojpablaaGreatDoor
open Go.ChangeShapes Go.WideShapes Go.ChangeAt Go.RowKit
set_option linter.unusedVariables false
theorem params : Tryz.f3.params = #[9, 9] := by kernel_rfl
theorem lifted (os : Os) (started : os.Started) (H : Type) (enc : TypeId × Value → H) :
 ReturnsInHanded {} Tryz.checked os 3 .any (fun w args => (Rows.typesTextsSpec.pre enc Tryz.prog Tryz.f3 Rows.typesTextsRow.domain false w args ∧ laidMet Tryz.prog laidP w) ∧ sizedMet enc Tryz.prog Tryz.f3 (OpenSpec.ofChange Rows.typesTextsSpec) false w args)
  (Rows.typesTextsSpec.post enc Tryz.prog Tryz.f3 false true false false) := by
 refine returnsInHanded_of_change_and (C := Tryz.checked) (X := fun w _ => laidMet Tryz.prog laidP w) (fun _ _ _ hh h => h.of_heap hh) own started (by kernel_rfl) Tryz.func3
  (ChangeSpec.witness_at (enc := enc) (C := Tryz.checked) (os := os) (X := fun w _ => laidMet Tryz.prog laidP w) false (laidWorldP os) #[.string ⟨#[]⟩, .string ⟨#[]⟩] 8 rfl (by kernel_rfl) (by kernel_rfl) (by kernel_rfl) (by kernel_rfl) (by kernel_rfl) (laidWorldP_met os _)) ?_
 intro W base args ds gs before hval0 hW hcnd hsz0 hL _; have hval : ∀ (j : Nat) t v, Tryz.f3.params[j]? = some t → args[j]? = some v → Value.okWide Tryz.prog W .any base t v := hval0; have hW' := hW; obtain ⟨p, q, hA0, hV, rfl, hfz, hnd⟩ := hW; have hA : DataW.TrodAll enc Tryz.prog W 0 (fun _ => true) true Tryz.f3.params.toList args.toList ds p := hA0; have hsz : (DataW.weightsEach Tryz.prog (Tryz.f3.params.toList ++ Rows.typesTextsSpec.plain.varTypes Tryz.prog) (ds ++ gs)).all (· ≤ reachBytes) = true := hsz0; rw [params] at hA hval hsz; obtain ⟨v0, vs0, d0, ds0, p0, q0, hargs, rfl, rfl, h0, r0⟩ := trodAll_cons hA; obtain ⟨v1, vs1, d1, ds1, p1, q1, rfl, rfl, rfl, h1, r1⟩ := trodAll_cons r0; obtain ⟨rfl, rfl, rfl⟩ := trodAll_nil r1; obtain rfl : args = #[v0, v1] := by cases args; simp_all
 obtain ⟨rfl, rfl⟩ := trodVars_none hV
 have hwt : ∀ (j : Nat) (t : TypeId) (d : DataW H), [9, 9][j]? = some t → [d0, d1][j]? = some d → ∀ n ∈ d.weights Tryz.prog t, n ≤ reachBytes := fun j t d ht hd n hn => by
  have := List.all_eq_true.1 hsz n (DataW.weights_mem_each (j := j) (by rw [List.getElem?_append_left (by simpa using (List.getElem?_eq_some_iff.1 ht).1)]; exact ht) (by rw [List.getElem?_append_left (by simpa using (List.getElem?_eq_some_iff.1 hd).1)]; exact hd) n hn); simpa using this
 have lt0 : ∀ x ∈ p0, x.block < W.heap.size := by obtain ⟨m, hm⟩ := h0; exact DataW.trod_lt m _ _ _ hm
 have lt1 : ∀ x ∈ p1, x.block < W.heap.size := by obtain ⟨m, hm⟩ := h1; exact DataW.trod_lt m _ _ _ hm
 obtain ⟨a0, rfl, oka0⟩ := open_str' (by kernel_rfl) (hval 0 9 v0 rfl rfl) h0 (hwt 0 _ _ rfl rfl); obtain ⟨a1, rfl, oka1⟩ := open_str' (by kernel_rfl) (hval 1 9 v1 rfl rfl) h1 (hwt 1 _ _ rfl rfl); clear hA0 hval0; refine (typesTexts_walk a0 a1 oka0 W (parW_of_laidP hL)).mono fun e W' ⟨he, bel⟩ => ?_
 subst he
 exact ⟨_, rfl, _, _, _, [], _, [], hW', trodAll_mk1 (shut_bool u_bool _),
  (trodAll_cons_mk (Below.trod laidOut (by kernel_rfl) (of_decide_eq_true (by kernel_rfl)) h0 bel lt0)
   (trodAll_cons_mk (Below.trod laidOut (by kernel_rfl) (of_decide_eq_true (by kernel_rfl)) h1 bel lt1)
   trodAll_mk0)), rfl, bel.frame _, fun h => by cases h⟩
end Go.Proofs.YtaeedepojpablaaGreatDoor

namespace Go.Proofs.YtaeedepojpablaaGreatDoor
theorem closedF : joinedFacts Tryz.prog 3 Tryz.f3 Rows.typesTextsSpec Rows.typesTextsRow = true := by
 unfold joinedFacts; simp only [Bool.and_eq_true]; repeat' (with_reducible refine And.intro ?_ ?_)
 all_goals (as_aux_lemma => kernel_rfl)
end Go.Proofs.YtaeedepojpablaaGreatDoor
