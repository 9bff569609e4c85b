/- My own texts TyRa, RefTerms, TyRj, as far as this claim needs them. -/
import Derived.Test.YtaeedepojpablaaGreatDoorZq30
import Derived.Test.YtaeedepojpablaaGreatDoorZqb5
set_option linter.unusedVariables false
set_option linter.unusedSimpArgs false
set_option maxRecDepth 1000000
set_option maxHeartbeats 16000000
namespace Go.Proofs.YtaeedepojpablaaGreatDoor
open Go.RowKit
theorem kput_le (l : Kinds) (v : ByteArray) (k : Int) : (kput l v k).length ≤ l.length + 1 := by
 rcases kput_len l v k with h | h
 ·rw [h]; omega
 ·omega
theorem refAtomK_any (base : Nat) (aA : Option Addr) (an ac : Nat) (bv : Value) (ds : List GDecl) (Al : Option Addr) (cl : Nat) (l : Kinds) (rel : ByteArray) (A : Option Addr) (n c : Nat) (args : List GTold) (but : Int) (w : World) (hb : base ≤ w.heap.size) (hown : KOwn w base Al cl l)
 (hD : SliceIs Enc.decl w base aA an ac ds) (ha : SliceIs Enc.told w base A n c args) (hln : l.length + n < 100000000) :
 Calls Tryz.prog 40 #[.agg #[.slice aA an ac, bv], .slice Al l.length cl, .agg #[.string rel, .slice A n c], .int .i64 but] w (RefKPost base (argsK (kindsD ds rel) but l args 0) w) := by
 have mixed : Tryz.prog.follows .mixedOrders = true := by kernel_rfl
 obtain ⟨V, hV⟩ : ∃ V, V = (w.alloc (.cells #[.slice aA an ac, bv] 34)).alloc (.cells #[.string rel, .slice A n c] 62) := ⟨_, rfl⟩
 have HVe := hZ9 hV.symm; have hbV : Below w.heap.size w V := by rw [hV]; exact belowA (belowA (Below.refl _ _) _) _
 have hr0 : V.heap[w.heap.size]? = some (.cells #[.slice aA an ac, bv] 34 (0, 0)) := by rw [hV]; exact heapOld (heapNew rfl)
 have hr1 : V.heap[w.heap.size + 1]? = some (.cells #[.string rel, .slice A n c] 62 (0, 0)) := by rw [hV]; exact heapNew (by simp)
 obtain ⟨c0, c0'⟩ := facts2 hr0; obtain ⟨c1, c2⟩ := facts2 hr1; have hD0 := hD.mono' (Nat.le_refl _) (Kept.of (fun b hbb => hbV.block b (Nat.lt_of_lt_of_le hbb hb))); have ha0 := ha.mono' (Nat.le_refl _) (Kept.of (fun b hbb => hbV.block b (Nat.lt_of_lt_of_le hbb hb))); have HI := hZ9 (tyRefIndex_any aA an ac bv ds rel V (hD0.mono' (Nat.le_trans hb hbV.size) (Kept.of (fun _ _ => rfl))))
 have HRow : Hid (∀ W, KeepsT 121 V W → (W.cell? ⟨w.heap.size, 0, none⟩ = some (.slice aA an ac)) ∧ W.cell? ⟨w.heap.size + 1, 1, none⟩ = some (.slice A n c)) := fun W hW =>
  ⟨(facts2 (hW _ _ _ _ hr0 (by decide))).1, (facts2 (hW _ _ _ _ hr1 (by decide))).2⟩
 have hn := ha.bound; have HD := hZ9 hD0; have HA := hZ9 ha0; have Hlen := hZ9 ha.1; have Hdl := hZ9 hD.1; have HbV := hZ9 hbV; have HOwn := hZ9 hown; obtain ⟨P, HP⟩ : ∃ P : Ending → World → Prop, Hid (P = RefKPost base (argsK (kindsD ds rel) but l args 0) w) := ⟨_, rfl⟩
 rw [← HP.out]
 have HEnd : Hid (∀ W Ao co lk, argsK (kindsD ds rel) but l args 0 = lk → KOwn W base Ao co lk → Below base V W → V.heap.size ≤ W.heap.size → KeepsT 121 V W → P (.returned (.slice Ao lk.length co)) W) := fun W Ao co lk h1 h2 h3 h4 h5 => by
  rw [HP.out, h1]; exact ⟨Ao, co, rfl, h2, (hbV.mono hb).trans h3, Nat.le_trans hbV.size h4, (KeepsT.of_below hbV).trans h5⟩
 clear hV hbV hr0 hr1 hD ha hD0 ha0 hown; go_enter Tryz.func40, Tryz.ntmps40
 go_wp2_with (rw [HVe.out])
 refine HI.out.mono ?_; rintro e w1 ⟨rfl, hb1⟩; have hbv : base ≤ V.heap.size := Nat.le_trans hb HbV.out.size; have HB1 : Hid (Below base V w1) := hb1.mono hbv; have HK1 : Hid (KeepsT 121 V w1) := KeepsT.of_below hb1; have hz1 := hb1.size; have HO1 : Hid (KOwn w1 base Al cl l) := (HOwn.out.below HbV.out).below hb1; obtain ⟨fr, Hfr⟩ : ∃ fr, Hid (idxI (idxD ds rel) = fr) := ⟨_, rfl⟩
 rw [Hfr.out]; clear hb1 HI c0 c0' c1 c2 HOwn; cases hi : idxD ds rel with
 | none =>
   obtain rfl : fr = -1 := by rw [← Hfr.out, hi]; rfl
   have HE := hZ9 (HEnd.out w1 Al cl l (by rw [kindsD_none hi, argsK_none]) HO1.out HB1.out hz1 HK1.out); obtain ⟨-, d1⟩ := HRow.out w1 HK1.out; clear hi Hfr HEnd HO1 HB1 HK1; go_wp2_with fail
   go_loopw [1, 10] (fun t i wr => t = .slice Al l.length cl ∧ i = .int .i64 0 ∧ wr = w1) (fun _ i _ => 0)
   case atStart => exact ⟨rfl, rfl, rfl⟩
   case round =>
    obtain ⟨rfl, rfl, rfl⟩ := hrel; by_cases h0 : n = 0
    ·subst h0; go_wp2_with fail
     first | exact HE.out | (go_ret2; exact HE.out)
    ·have i1 : (0 : Int) < (n : Int) := by omega
     go_wp2_with fail
     first | exact HE.out | (go_ret2; exact HE.out)
 | some i0 =>
   obtain rfl : fr = (i0 : Int) := by rw [← Hfr.out, hi]; rfl
   have hlt0 := idxD_lt hi; have hlt1 : i0 < an := by have := Hdl.out; omega
   obtain ⟨db, dof, dd, da, rfl, hdb, hdd, hdat, z0, z1, z2⟩ := HD.out.decl_at hlt1; obtain ⟨kA, kn, kc⟩ := da; dsimp only [Hd.v] at z1; have hkd : kindsD ds rel = dd.kinds := kindsD_some hi hdd.out; rw [hkd] at HEnd; have HKs := hZ9 hdat.kinds; have Hkl : Hid (dd.kinds.length = kn) := hdat.kinds.1; have HZ1 : Hid (∀ W, Below base V W → W.cell? ⟨db, dof + i0 * 3 + 1, none⟩ = some (.slice kA kn kc)) := fun W hW => (hW.cell (p := ⟨db, _, none⟩) hdb).trans z1
   have a0 : ¬ (i0 : Int) < 0 := by omega
   have a1 : (0 : Int) ≤ (i0 : Int) := by omega
   have a2 : (i0 : Int) < (an : Int) := by omega
   clear hi Hfr hkd hdat hdd z0 z1 z2 hlt0; go_wp2_with fail
   go_loopw [1, 10] (fun ts i wr => ∃ (k : Nat) (Ao : Option Addr) (co : Nat) (lk : Kinds), k ≤ n ∧ i = .int .i64 (k : Int) ∧ ts = .slice Ao lk.length co ∧ Hid (argsK dd.kinds but l (args.take k) 0 = lk) ∧ lk.length ≤ l.length + k ∧ Hid (KOwn wr base Ao co lk) ∧ Hid (Below base V wr) ∧ V.heap.size ≤ wr.heap.size ∧ Hid (KeepsT 121 V wr)) (fun _ i _ => n - (intOf i).toNat)
   case atStart => exact ⟨0, Al, cl, l, by omega, rfl, rfl, rfl, by omega, HO1, HB1, hz1, HK1⟩
   case round =>
    clear HO1 HB1 HK1 hz1; obtain ⟨k, Ao, co, lk, hk, rfl, rfl, HL, hlk, HO, HB, hzr, HK⟩ := hrel; obtain ⟨d0, d1⟩ := HRow.out wr HK.out; have d2 := HZ1.out wr HB.out; have i0' : (0 : Int) ≤ (k : Int) := by omega
    by_cases hlt : k < n
    ·have i1 : (k : Int) < (n : Int) := by omega
     obtain ⟨b, o, x, rfl, hbb, hx, y0, -, -, -, -, -⟩ := (HA.out.mono' (Nat.le_refl _) (Kept.of HB.out.block)).told_at hlt; have HTk := hZ9 (argsK_take (ks := dd.kinds) (but := but) l hx.out); rw [HL.out] at HTk; clear hx; by_cases hbut : (k : Int) = but
     ·have e1 : ((k : Int) != but) = false := by simpa using hbut
      have HTn : Hid (argsK dd.kinds but l (args.take (k + 1)) 0 = lk) := HTk.out.trans (if_neg (fun q => q.1 hbut)); clear hbut HTk; go_wp2_with fail
      go_roundw
      case rel => exact ⟨k + 1, Ao, co, lk, by omega, by go_num, rfl, HTn, by omega, HO, HB, hzr, HK⟩
      case measure => simp [intOf]; omega
     ·have e1 : ((k : Int) != but) = true := by simpa using hbut
      by_cases hlk2 : k < kn
      ·have e2 : (k : Int) < (kn : Int) := by omega
       obtain ⟨b2, o2, kk, rfl, hbb2, hkk, u0, -⟩ := (HKs.out.mono' (Nat.le_refl _) (Kept.of HB.out.block)).int_at hlk2
       have HTn : Hid (argsK dd.kinds but l (args.take (k + 1)) 0 = kput lk x.x kk) := by
        show _ = _; rw [HTk.out, if_pos ⟨hbut, by rw [Hkl.out]; exact hlk2⟩, List.getD_eq_getElem?_getD, hkk.out]; rfl
       have hbd : Below wr.heap.size wr wr.drew := (Below.refl _ _).drew; have HPt := hZ9 (refPutK_any base Ao co lk x.x kk wr.drew (HO.out.below hbd) (by show base ≤ wr.heap.size; omega) (by omega)); have hle := kput_le lk x.x kk; have HBd : Hid (Below base V wr.drew) := HB.out.trans (hbd.mono (by omega)); have HKd : Hid (KeepsT 121 V wr.drew) := HK.out.trans (KeepsT.of_below hbd); have y0d : wr.drew.cell? ⟨b, o + k * 4, none⟩ = some (.string x.x) := y0; have u0d : wr.drew.cell? ⟨b2, o2 + k, none⟩ = some (.int .i64 kk) := u0; have HY : Hid (∀ W, Below base wr.drew W → W.cell? ⟨b, o + k * 4, none⟩ = some (.string x.x) ∧ W.cell? ⟨b2, o2 + k, none⟩ = some (.int .i64 kk)) := fun W hW => ⟨(hW.cell (p := ⟨b, _, none⟩) hbb).trans y0d, (hW.cell (p := ⟨b2, _, none⟩) hbb2).trans u0d⟩
       clear hbut HTk hkk hbd y0d u0d HO; go_wp2_with fail
       go_region_held3 (fun W => W.cell? ⟨w.heap.size, 0, none⟩ = some (.slice (some ⟨db, dof, none⟩) an ac) ∧ W.cell? ⟨w.heap.size + 1, 1, none⟩ = some (.slice (some ⟨b, o, none⟩) n c) ∧ W.cell? ⟨b, o + k * 4, none⟩ = some (.string x.x) ∧ W.cell? ⟨db, dof + i0 * 3 + 1, none⟩ = some (.slice (some ⟨b2, o2, none⟩) kn kc) ∧ W.cell? ⟨b2, o2 + k, none⟩ = some (.int .i64 kk))
        (go_keep)
        ((first
          | (go_at_call 42
             refine HPt.out.mono ?_; rintro e w3 ⟨A3, c3, rfl, ho3, hb3, hz3, hk3⟩; obtain ⟨q0, q1⟩ := HRow.out w3 (HKd.out.trans hk3); have q2 := HZ1.out w3 (HBd.out.trans hb3); obtain ⟨q3, q4⟩ := HY.out w3 hb3; have HO3 := hZ9 ho3; have HB3 : Hid (Below base V w3) := HBd.out.trans hb3; have HK3 : Hid (KeepsT 121 V w3) := HKd.out.trans hk3; have hz3' : wr.heap.size ≤ w3.heap.size := hz3
             clear ho3 hb3 hk3 hz3)))
       all_goals
        clear d0 d1 d2 y0 u0 q0 q1 q2 q3 q4 HY HBd HKd HPt; go_wp2_with fail
        go_roundw
        case rel => exact ⟨k + 1, A3, c3, kput lk x.x kk, by omega, by go_num, rfl, HTn, by omega, HO3, HB3, by omega, HK3⟩
        case measure => simp [intOf]; omega
      ·have e2 : ¬ (k : Int) < (kn : Int) := by omega
       have HTn : Hid (argsK dd.kinds but l (args.take (k + 1)) 0 = lk) := HTk.out.trans (if_neg (fun q => hlk2 (by rw [← Hkl.out]; exact q.2))); clear hbut HTk; go_wp2_with fail
       go_roundw
       case rel => exact ⟨k + 1, Ao, co, lk, by omega, by go_num, rfl, HTn, by omega, HO, HB, hzr, HK⟩
       case measure => simp [intOf]; omega
    ·have i1 : ¬ (k : Int) < (n : Int) := by omega
     have HE := hZ9 (HEnd.out wr Ao co lk (by rw [← HL.out, List.take_of_length_le (by have := Hlen.out; omega)]) HO.out HB.out hzr HK.out); clear HEnd HL HO HB HK; go_wp2_with fail
     first | exact HE.out | (go_ret2; exact HE.out)
end Go.Proofs.YtaeedepojpablaaGreatDoor

namespace Go.Proofs.YtaeedepojpablaaGreatDoor
open Go.RowKit
def RefTermsPost (L : List GTold) (base : Nat) (w : World) (r : Ending) (w' : World) : Prop :=
 ∃ A c, r = .returned (.slice A L.length c) ∧ w'.ownsRow base 102 4 (.slice A L.length c) L.length (L.flatMap GTold.cells) ∧ Below base w w' ∧ w.heap.size ≤ w'.heap.size ∧ KeepsT 102 w w'
theorem refTerms_any (base : Nat) : ∀ (d : Nat) (e : GExp) (A : Option Addr) (n c : Nat) (Al : Option Addr) (m cl : Nat) (L0 : List GTold) (w : World), SliceIs (Enc.exp d) w base A n c e.kids → base ≤ w.heap.size → L0.length = m → w.ownsRow base 102 4 (.slice Al m cl) m (L0.flatMap GTold.cells) →
 m + (leavesE e).length ≤ 2000000 → Calls Tryz.prog 41 #[expV e A n c, .slice Al m cl] w (RefTermsPost (L0 ++ leavesE e) base w) := by
 intro d; induction d using Nat.strongRecOn with
 | ind d ih =>
   intro e A n c Al m cl L0 w hk hbase hm hown hsz; have IH := hZ9 ih; have hn := hk.bound; have HK := hZ9 hk; have Hlen := hZ9 hk.1; have Hown := hZ9 hown; have Hm := hZ9 hm; obtain ⟨P, HP⟩ : ∃ P : Ending → World → Prop, Hid (P = RefTermsPost (L0 ++ leavesE e) base w) := ⟨_, rfl⟩
   rw [← HP.out]; have hrb : (w.alloc (.cells #[.int .i64 e.op, .string e.t.x, .int .i64 e.t.v.k, .int .i64 e.t.v.n, .string e.t.v.s, .slice A n c] 105)).heap[w.heap.size]? = some (.cells #[.int .i64 e.op, .string e.t.x, .int .i64 e.t.v.k, .int .i64 e.t.v.n, .string e.t.v.s, .slice A n c] 105 (0, 0)) := heapNew rfl; obtain ⟨b0, b1, b2, b3, b4, b5⟩ := facts6 hrb; have hba : Below w.heap.size w (w.alloc (.cells #[.int .i64 e.op, .string e.t.x, .int .i64 e.t.v.k, .int .i64 e.t.v.n, .string e.t.v.s, .slice A n c] 105)) := belowA (Below.refl _ _) _; have hza : (w.alloc (.cells #[.int .i64 e.op, .string e.t.x, .int .i64 e.t.v.k, .int .i64 e.t.v.n, .string e.t.v.s, .slice A n c] 105)).heap.size = w.heap.size + 1 := by simp
   have HownA := hZ9 (own_below hown hba); have HbA : Hid (Below base w (w.alloc (.cells #[.int .i64 e.op, .string e.t.x, .int .i64 e.t.v.k, .int .i64 e.t.v.n, .string e.t.v.s, .slice A n c] 105))) := hba.mono hbase; have HzA := hZ9 hza; have HkA : Hid (KeepsT 102 w (w.alloc (.cells #[.int .i64 e.op, .string e.t.x, .int .i64 e.t.v.k, .int .i64 e.t.v.n, .string e.t.v.s, .slice A n c] 105))) := KeepsT.of_below hba; by_cases h0 : n = 0
   ·subst h0; have hL0 : leavesE e = [e.t] := leavesE_nil (List.eq_nil_of_length_eq_zero (by rw [Hlen.out])); rw [hL0] at hsz; simp only [List.length_cons, List.length_nil] at hsz; obtain ⟨A2, c2, w3, hrun, hown2, hb3, hk3⟩ := term5_push HownA.out e.t (by omega) (by omega); simp only [World.size_alloc] at hrun; have HRun := hZ9 hrun
    have hpost : P (.returned (.slice A2 (m + 1) c2)) w3 := by
     rw [HP.out, hL0]; have hll : (L0 ++ [e.t]).length = m + 1 := by simp [hm]
     have h1 := hb3.size; exact ⟨A2, c2, by rw [hll], by rw [hll]; exact hown2, HbA.out.trans hb3, by omega, (KeepsT.of_below hba).trans hk3⟩
    have HPo := hZ9 hpost; clear hrun hown2 hb3 hk3 hpost hk hown HownA ih hba hza hL0 HP hm; go_enter Tryz.func41, Tryz.ntmps41
    go_wp2_with (at_builtin; refine wpList_append_run rfl _ _ _ rfl _ _ rfl rfl (HRun.out _) ?_)
    exact HPo.out
   ·have hL1 : leavesE e = leavesL e.kids := leavesE_kids (by intro h; have := Hlen.out; rw [h] at this; simp at this; omega); have hq0 : ((n : Int) == 0) = false := by rw [beq_eq_false_iff_ne]; omega
    have HP2 : Hid (P = RefTermsPost (L0 ++ leavesL e.kids) base w) := by show _ = _; rw [HP.out, hL1]
    rw [hL1] at hsz; have Hsz := hZ9 hsz; clear hk hown ih hba hza hL1 HP hm hsz hrb; go_enter Tryz.func41, Tryz.ntmps41
    go_wp2_with fail
    have hgb : (w.alloc (.cells #[.int .i64 e.op, .string e.t.x, .int .i64 e.t.v.k, .int .i64 e.t.v.n, .string e.t.v.s, .slice A n c] 105)).heap[w.heap.size]? = some (.cells #[.int .i64 e.op, .string e.t.x, .int .i64 e.t.v.k, .int .i64 e.t.v.n, .string e.t.v.s, .slice A n c] 105 (0, 0)) := heapNew rfl
    go_loopw [1, 5] (fun v i wr => ∃ (k m' c' : Nat) (A' : Option Addr) (L : List GTold), k ≤ n ∧ i = .int .i64 k ∧ v = .slice A' m' c' ∧ Hid (L0 ++ leavesL (e.kids.take k) = L) ∧ Hid (L.length = m') ∧ Hid (wr.ownsRow base 102 4 (.slice A' m' c') m' (L.flatMap GTold.cells)) ∧ Hid (Below base w wr) ∧ w.heap.size + 1 ≤ wr.heap.size ∧
     Hid (KeepsT 102 w wr) ∧ Hid (wr.heap[w.heap.size]? = some (.cells (expC e A n c).toArray 105 (0, 0)))) (fun _ i _ => n - (intOf i).toNat)
    case atStart => exact ⟨0, m, cl, Al, L0, by omega, rfl, rfl, by show _ = _; simp [leavesL], Hm.out, HownA, HbA, by rw [HzA.out]; exact Nat.le_refl _, HkA, hgb⟩
    case round =>
     obtain ⟨k, m', c', A', L, hk, rfl, rfl, hL, HLm, HO, HB, hzr, HK2, Hbox⟩ := hrel; have i0 : (0 : Int) ≤ (k : Int) := by omega
     have y5 : wr.cell? ⟨w.heap.size, 5, none⟩ = some (.slice A n c) := (cell_of_row _ _ 5 _ _ _ Hbox.out).trans rfl; by_cases hlt : k < n
     ·have i1 : (k : Int) < (n : Int) := by omega
      obtain ⟨b, o, q, A2, n2, c2, d', rfl, hb, hk', hd, x0, x1, x2, x3, x4, x5, -, f1, f2, hkk⟩ := (HK.out.mono' (w' := wr) (Nat.le_refl _) (Kept.of HB.out.block)).exp_at hlt; have HT := hZ9 (leavesL_take hk'.out)
      have hlen : m' + (leavesE q).length ≤ 2000000 := by
       have h1 := Hsz.out; have h2 := HLm.out; have h3 := Hm.out; rw [← hL.out, List.length_append] at h2; have h4 := congrArg List.length (leavesL_full e.kids (k + 1)); rw [HT.out] at h4; simp only [List.length_append] at h4; omega
      have HC := hZ9 (IH.out d' (by omega) q A2 n2 c2 A' m' c' L wr hkk (by omega) HLm.out HO.out hlen); clear hk' hd hkk hlen; go_wp2_with fail
      refine HC.out.mono ?_; rintro r w2 ⟨A3, c3, rfl, ho3, hb3, hz3, hk3⟩; have HL2 : Hid (L0 ++ leavesL (e.kids.take (k + 1)) = L ++ leavesE q) := by show _ = _; rw [HT.out, ← List.append_assoc, hL.out]
      have HB2 : Hid (Below base w w2) := HB.out.trans hb3; obtain ⟨m3, Hm3⟩ : ∃ m3, Hid ((L ++ leavesE q).length = m3) := ⟨_, rfl⟩
      rw [Hm3.out] at ho3; rw [Hm3.out]; have HO3 := hZ9 ho3; have Hbox2 : Hid (w2.heap[w.heap.size]? = some (.cells (expC e (some ⟨b, o, none⟩) n c).toArray 105 (0, 0))) := hk3 _ _ _ _ Hbox.out (by decide); have HK3 : Hid (KeepsT 102 w w2) := HK2.out.trans hk3; clear ho3 hb3 hk3 HC HT; go_wp2_with fail
      go_roundw
      case rel => exact ⟨k + 1, m3, c3, A3, _, by omega, by go_num, rfl, HL2, Hm3, HO3, HB2, by omega, HK3, Hbox2⟩
      case measure => simp [intOf]; omega
     ·have i1 : ¬ (k : Int) < (n : Int) := by omega
      have hPP : Hid (P (.returned (.slice A' m' c')) wr) := by
       show P _ _; have e1 : L0 ++ leavesL e.kids = L := by rw [← hL.out, List.take_of_length_le (by have := Hlen.out; omega)]
       rw [HP2.out, e1]; exact ⟨A', c', by rw [HLm.out], by rw [HLm.out]; exact HO.out, HB.out, by omega, HK2.out⟩
      clear HP2; go_wp2_with fail
      exact hPP.out
end Go.Proofs.YtaeedepojpablaaGreatDoor

namespace Go.Proofs.YtaeedepojpablaaGreatDoor
open Go.RowKit
structure KJ (base : Nat) (V W : World) (A : Option Addr) (c : Nat) (l : Kinds) : Prop where
 own : KOwn W base A c l
 b : Below base V W
 z : V.heap.size ≤ W.heap.size
 k : KeepsT 121 V W
theorem KJ.on {base : Nat} {V W W' : World} {A : Option Addr} {c : Nat} {l : Kinds} (h : KJ base V W A c l) (hb : Below W.heap.size W W') (hV : base ≤ V.heap.size) : KJ base V W' A c l :=
 ⟨h.own.below hb, h.b.trans (hb.mono (Nat.le_trans hV h.z)), Nat.le_trans h.z hb.size, h.k.trans (KeepsT.of_below hb)⟩
theorem KJ.go {base : Nat} {V W W' : World} {A A' : Option Addr} {c c' : Nat} {l l' : Kinds} (h : KJ base V W A c l) (ho : KOwn W' base A' c' l') (hb : Below base W W') (hz : W.heap.size ≤ W'.heap.size) (hk : KeepsT 121 W W') : KJ base V W' A' c' l' :=
 ⟨ho, h.b.trans hb, Nat.le_trans h.z hz, h.k.trans hk⟩
theorem KJ.up {base : Nat} {V W W' : World} {A A' : Option Addr} {c c' : Nat} {l l' : Kinds} (h : KJ base V W A c l) (h' : KJ base W W' A' c' l') : KJ base V W' A' c' l' := h.go h'.own h'.b h'.z h'.k
theorem KJ.self {base : Nat} {W : World} {A : Option Addr} {c : Nat} {l : Kinds} (h : KOwn W base A c l) : KJ base W W A c l := ⟨h, Below.refl _ _, Nat.le_refl _, KeepsT.refl _ _⟩
theorem own_keepY {T : TypeId} {w W : World} {base e sz : Nat} {v : Value} {n : Nat} {xs : List Value} (h : w.ownsRow base e sz v n xs) (hk : KeepsT T w W) (he : e ≠ T) : W.ownsRow base e sz v n xs := by
 refine ⟨h.1, ?_⟩; rcases h.2 with hn | ⟨g, cap, cur, rfl, hg, hh, r⟩
 ·exact .inl hn
 ·exact .inr ⟨g, cap, cur, rfl, hg, hk _ _ _ _ hh he, r⟩
def Enc.tv : Enc GTold where
 sz := 4
 ok _ _ cs t := cs = GTold.cells t
 mono _ _ h := h
 len h := by rw [h]; rfl
theorem SliceIs.tv_at {w : World} {B : Nat} {A : Option Addr} {n c : Nat} {l : List GTold} (h : SliceIs Enc.tv w B A n c l) {i : Nat} (hi : i < n) :
 ∃ b o x, A = some ⟨b, o, none⟩ ∧ b < B ∧ Hid (l[i]? = some x) ∧ w.cell? ⟨b, o + i * 4, none⟩ = some (.string x.x) ∧ w.cell? ⟨b, o + i * 4 + 1, none⟩ = some (.int .i64 x.v.k) ∧ w.cell? ⟨b, o + i * 4 + 2, none⟩ = some (.int .i64 x.v.n) ∧ w.cell? ⟨b, o + i * 4 + 3, none⟩ = some (.string x.v.s) := by
 obtain ⟨b, o, x, cs, hA, hb, hx, rfl, hc⟩ := h.at_ hi; exact ⟨b, o, x, hA, hb, hx, by simpa [Enc.tv] using hc 0 _ rfl, by simpa [Enc.tv] using hc 1 _ rfl, by simpa [Enc.tv] using hc 2 _ rfl, by simpa [Enc.tv] using hc 3 _ rfl⟩
theorem tv_own {w : World} {base : Nat} {A : Option Addr} {c : Nat} {L : List GTold} (h : w.ownsRow base 102 4 (.slice A L.length c) L.length (L.flatMap GTold.cells)) (hn : L.length ≤ 2000000) : SliceIs Enc.tv w w.heap.size A L.length c L :=
 SliceIs.of_flat (E := Enc.tv) GTold.cells (fun _ => rfl) h rfl (by simp [reachN]; omega) (fun _ _ => rfl)
theorem stK_next (l : Kinds) (y : GLit) {k : Nat} (hk : k < 2) : stK l y (k + 1) = if (sdK y k).op ≠ 0 ∨ 3 ≤ y.op then numbersK (stK l y k) (leavesE (sdK y k)) else stK l y k := by
 rcases (show k = 0 ∨ k = 1 by omega) with rfl | rfl
 ·rfl
 ·rfl
theorem rightE_len : ∀ (k : Nat) (e : GExp), rightE k e = true → (leavesE e).length ≤ 2 ^ k
 | 0, e, h => by
   simp only [rightE, Bool.and_eq_true, decide_eq_true_eq, List.isEmpty_iff] at h; rw [leavesE_nil h.2.1]; simp
 | k + 1, e, h => by
   by_cases h0 : e.op = 0
   ·rw [rightE_leaf h0, Bool.and_eq_true, List.isEmpty_iff] at h; rw [leavesE_nil h.1]; have : 1 ≤ 2 ^ (k + 1) := Nat.one_le_two_pow; simpa using this
   ·simp only [rightE, h0, if_false, Bool.and_eq_true] at h; have hm := h.2; match hks : e.kids, hm with
    | [a, b], hm =>
      simp only [Bool.and_eq_true] at hm; have ha := rightE_len k a hm.1; have hb := rightE_len k b hm.2; rw [leavesE_kids (by rw [hks]; simp), hks]; have h2 : 2 ^ (k + 1) = 2 ^ k + 2 ^ k := by omega
      simp only [leavesL, List.length_append, List.length_nil]; omega
theorem right_leaves {y : GLit} (h : rightLit y = true) : (leavesE y.l).length ≤ 1048576 ∧ (leavesE y.r).length ≤ 1048576 := by
 unfold rightLit at h; split at h
 ·simp only [Bool.and_eq_true, decide_eq_true_eq] at h; have h1 := h.2.2.1; have h2 := h.2.2.2; unfold noneE at h1 h2; simp only [Bool.and_eq_true, decide_eq_true_eq, List.isEmpty_iff] at h1 h2; have e1 : y.l.kids = [] := by first | exact h1.2.1 | exact h1.2.2 | exact h1.1.2 | exact h1.2 | (have := h1.2; simp_all) | (have := h1.2.1; simp_all)
  have e2 : y.r.kids = [] := by first | exact h2.2.1 | exact h2.2.2 | exact h2.1.2 | exact h2.2 | (have := h2.2; simp_all) | (have := h2.2.1; simp_all)
  rw [leavesE_nil e1, leavesE_nil e2]; simp
 ·simp only [Bool.and_eq_true] at h; exact ⟨rightE_len 20 _ h.2.2.1, rightE_len 20 _ h.2.2.2⟩
theorem right_args {y : GLit} (h : rightLit y = true) : y.atom.args.length ≤ 6 := by
 unfold rightLit at h; split at h
 ·simp only [Bool.and_eq_true] at h; have h1 := h.1; unfold atomB at h1; simp only [Bool.and_eq_true, decide_eq_true_eq] at h1; exact h1.2.1
 ·simp only [Bool.and_eq_true] at h; have h1 := h.2.1; unfold cmpB2 at h1; simp only [Bool.and_eq_true, decide_eq_true_eq] at h1; omega
theorem right_varsY {y : GLit} (h : rightLit y = true) : (varsY y).length ≤ 2097160 := by
 have h1 := right_leaves h; have h2 := right_args h; unfold varsY; simp only [List.length_append, List.length_map, List.length_cons, List.length_nil]; omega
theorem flat_most {α β : Type} (f : α → List β) (n : Nat) : ∀ (l : List α), (∀ x ∈ l, (f x).length ≤ n) → (l.flatMap f).length ≤ l.length * n
 | [], _ => by simp
 | x :: l, h => by
   have h1 := flat_most f n l fun y hy => h y (List.mem_cons_of_mem _ hy)
   have h2 := h x (List.mem_cons_self ..); simp only [List.flatMap_cons, List.length_append, List.length_cons, Nat.add_mul, Nat.one_mul]; omega
theorem right_varsR {x : GRule} (h : rightRule x = true) : (varsR x).length ≤ 20000000 := by
 have hb := right_body h; have h1 := flat_most varsY 2097160 x.body fun y hy => right_varsY (hb.2 y hy)
 have h2 : x.head.args.length ≤ 6 := by
  unfold rightRule at h; simp only [Bool.and_eq_true] at h; have h1 := h.1; unfold atomB at h1; simp only [Bool.and_eq_true, decide_eq_true_eq] at h1; exact h1.2.1
 have h3 : x.body.length * 2097160 ≤ 8 * 2097160 := Nat.mul_le_mul_right _ hb.1; unfold varsR; simp only [List.length_append, List.length_map]; omega
end Go.Proofs.YtaeedepojpablaaGreatDoor
