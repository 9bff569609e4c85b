/- My own texts TyCk, TyAl, as far as this claim needs them. -/
import Derived.Test.YtaeedepojpablaaGreatDoorZq30
set_option linter.unusedVariables false
set_option linter.unusedSimpArgs false
set_option maxRecDepth 1000000
set_option maxHeartbeats 16000000
namespace Go.Proofs.YtaeedepojpablaaGreatDoor
open Go.RowKit
abbrev zRuleY : List Value := ruleC ⟨⟨⟨#[]⟩, []⟩, 0, 0, [], 0⟩ ⟨none, 0, 0⟩ ⟨none, 0, 0⟩
theorem rule_infoY : (Tryz.prog.info? 56).map (fun i => (i.zero, i.size)) = some (some (.agg zRuleY.toArray), zRuleY.toArray.size) := by kernel_rfl
theorem rule_sizeY (x : GRule) (a b : Hd) : (Tryz.prog.info? 56).map (·.size) = some (ruleC x a b).length := by
 show _ = some 6; kernel_rfl
theorem rule_oneY (x : GRule) (a b : Hd) : (ruleC x a b).toArray.all (·.oneCell') = true := by simp [Value.oneCell']
theorem formed_kinds {p : GProg} (h : formedB p = true) : ∀ d ∈ p.decls, d.kinds.length ≤ 10000 := fun d hd => by
 have := (formed_decl h).2 d hd; unfold declB at this; simp only [Bool.and_eq_true, decide_eq_true_eq] at this; have := this.2.1; omega
theorem idxD_self {ds : List GDecl} {i : Nat} {d : GDecl} (h : ds[i]? = some d) : ∃ j, idxD ds d.rel = some j ∧ j ≤ i := by
 obtain ⟨hi, he⟩ := List.getElem?_eq_some_iff.1 h; cases hx : idxD ds d.rel with
 | none =>
   unfold idxD at hx; rw [List.findIdx?_eq_none_iff] at hx; have := hx d (List.mem_of_getElem? h); simp at this
 | some j =>
   refine ⟨j, rfl, ?_⟩; unfold idxD at hx; rw [List.findIdx?_eq_some_iff_getElem] at hx; obtain ⟨hj, -, hm⟩ := hx; rcases Nat.lt_or_ge i j with hlt | hge
   ·have := hm i hlt; rw [he] at this; simp at this
   ·exact hge
theorem dupErr_at {ds : List GDecl} {k : Nat} {d : GDecl} (h : ds[k]? = some d) : dupErr ds (ds.drop k) k = if idxI (idxD ds d.rel) < (k : Int) then some d.pos else dupErr ds (ds.drop (k + 1)) (k + 1) := by
 obtain ⟨hk, he⟩ := List.getElem?_eq_some_iff.1 h; obtain ⟨j, hj, hjk⟩ := idxD_self h; rw [List.drop_eq_getElem_cons hk, he, dupErr, hj]; by_cases e : j = k
 ·subst e; rw [if_neg (by simp), if_neg (by simp [idxI])]
 ·rw [if_pos (by simp; exact e), if_pos (by simp only [idxI]; omega)]
theorem rulesErr_at {ds : List GDecl} {l : List GRule} {k : Nat} {y : GRule} (h : l[k]? = some y) : rulesErr ds (l.drop k) = if (ruleErr ds y).2 ≠ 0 then ruleErr ds y else rulesErr ds (l.drop (k + 1)) := by
 obtain ⟨hk, he⟩ := List.getElem?_eq_some_iff.1 h; rw [List.drop_eq_getElem_cons hk, he, rulesErr]
def TyPost (r : Int × Int) (w : World) (e : Ending) (w' : World) : Prop := e = .returned (.tuple #[.int .i64 r.1, errV 89 r.2]) ∧ Below w.heap.size w w'
theorem tyCheck_any (d : Nat) (x : GProg) (aA : Option Addr) (an ac : Nat) (bA : Option Addr) (bn bc : Nat) (w : World) (hx : ProgAt d w w.heap.size x ⟨aA, an, ac⟩ ⟨bA, bn, bc⟩) (hW : LexW w) :
 Calls Tryz.prog 10 #[.agg (progC ⟨aA, an, ac⟩ ⟨bA, bn, bc⟩).toArray] w (TyPost (tyErr x) w) := by
 have hbn := hx.rules.bound; have han := hx.decls.bound; have Hbl : Hid (x.rules.length = bn) := hx.rules.1; have Hal : Hid (x.decls.length = an) := hx.decls.1; obtain ⟨V, hV⟩ : ∃ V, V = w.alloc (.cells #[.slice aA an ac, .slice bA bn bc] 26) := ⟨_, rfl⟩
 have HVe := hZ9 hV.symm; have hg : V.heap[w.heap.size]? = some (.cells #[.slice aA an ac, .slice bA bn bc] 26 (0, 0)) := by rw [hV]; exact heapNew rfl
 have hbV : Below w.heap.size w V := by rw [hV]; exact belowA (Below.refl _ _) _
 have hgl : w.heap.size < V.heap.size := (glt hg)
 have HbV := hZ9 hbV; obtain ⟨c0, c1⟩ := facts2 hg; have HX := hZ9 (hx.keep hbV); have HF := hZ9 (formed_any d x ⟨aA, an, ac⟩ ⟨bA, bn, bc⟩ V HX.out (hW.on hbV)); have HC : Hid (∀ W, Below V.heap.size V W → W.cell? ⟨w.heap.size, 0, none⟩ = some (.slice aA an ac) ∧ W.cell? ⟨w.heap.size, 1, none⟩ = some (.slice bA bn bc)) := fun W hW => facts2 ((hW.block _ hgl).trans hg)
 obtain ⟨P, HP⟩ : ∃ P : Ending → World → Prop, Hid (P = TyPost (tyErr x) w) := ⟨_, rfl⟩
 rw [← HP.out]; clear hx hW hV hg hbV; go_enter Tryz.func10, Tryz.ntmps10
 go_wp2_with (rw [HVe.out])
 refine HF.out.mono ?_; rintro e w1 ⟨rfl, hb1⟩; have HB1 := hZ9 hb1; clear hb1 HF; cases hfo : formedB x with
 | false =>
   have HPP : Hid (P (.returned (.tuple #[.int .i64 0, .iface 89 (.int .i64 2)])) w1) := by
    show P _ _; rw [HP.out]; refine ⟨?_, HbV.out.trans (HB1.out.mono HbV.out.size)⟩; unfold tyErr; rw [hfo]; rfl
   clear hfo; go_wp2_with fail
   first | exact HPP.out | (go_ret2; exact HPP.out)
 | true =>
 have HFr := hZ9 hfo; have HR : Hid (tyErr x = match dupErr x.decls (x.decls.drop 0) 0 with | some at_ => (at_, 14) | none => rulesErr x.decls x.rules) := by show _ = _; unfold tyErr; rw [hfo, List.drop_zero]; rfl
 have HEnd : Hid (∀ W r, tyErr x = r → Below V.heap.size V W → P (.returned (.tuple #[.int .i64 r.1, errV 89 r.2])) W) := fun W r h1 h2 => by
  rw [HP.out]; exact ⟨by rw [h1], HbV.out.trans (h2.mono HbV.out.size)⟩
 have d1 := (HC.out w1 HB1.out).1; clear hfo c0 c1; go_wp2_with fail
 clear d1; go_loopw [4, 5, 17] (fun _ _ i wr => ∃ k : Nat, k ≤ an ∧ i = .int .i64 (k : Int) ∧ Hid (tyErr x = match dupErr x.decls (x.decls.drop k) k with | some at_ => (at_, 14) | none => rulesErr x.decls x.rules) ∧ Hid (Below V.heap.size V wr)) (fun _ _ i _ => an - (intOf i).toNat)
 case atStart => exact ⟨0, by omega, rfl, HR, HB1.out⟩
 case round =>
  clear HR HB1; obtain ⟨k, hk, rfl, HR, HB⟩ := hrel; have i0 : (0 : Int) ≤ (k : Int) := by omega
  by_cases hlt : k < an
  ·have i1 : (k : Int) < (an : Int) := by omega
   have hXr := HX.out.keep HB.out; obtain ⟨db, dof, dd, da, haA, hdb, hdd, hdat, z0, z1, z2⟩ := hXr.decls.decl_at hlt; dsimp only at haA; subst haA; obtain ⟨dA, dn, dc⟩ := da; dsimp only [Hd.v] at z1; obtain ⟨Q, hQ⟩ : ∃ Q, Q = wr.alloc (.cells #[.string dd.rel, .slice dA dn dc, .int .i64 dd.pos] 94) := ⟨_, rfl⟩
   have HQe := hZ9 hQ.symm; have hbQ : Below wr.heap.size wr Q := by rw [hQ]; exact belowA (Below.refl _ _) _
   have hrQ : Q.heap[wr.heap.size]? = some (.cells #[.string dd.rel, .slice dA dn dc, .int .i64 dd.pos] 94 (0, 0)) := by rw [hQ]; exact heapNew rfl
   have hgQ := (glt hrQ)
   have hBQ : Below V.heap.size V Q := HB.out.trans (hbQ.mono HB.out.size); have HBQ := hZ9 hBQ; obtain ⟨u0, u1⟩ := HC.out Q hBQ; have u2 := (facts3 hrQ).1; have HU : Hid (∀ W, Below Q.heap.size Q W → W.cell? ⟨wr.heap.size, 2, none⟩ = some (.int .i64 dd.pos)) := fun W hW => (facts3 ((hW.block _ hgQ).trans hrQ)).2.2
   have HI := hZ9 (tyIndex_any (some ⟨db, dof, none⟩) an ac (.slice bA bn bc) x.decls dd.rel Q ((HX.out.keep hBQ).decls)); have HSt := hZ9 (dupErr_at hdd.out); unfold IdxRet at HI; obtain ⟨fr, Hfr⟩ : ∃ fr, Hid (idxI (idxD x.decls dd.rel) = fr) := ⟨_, rfl⟩
   rw [Hfr.out] at HI HSt; clear hXr hdat hdd hQ hbQ hrQ hBQ; go_wp2_with (rw [HQe.out])
   refine HI.out.mono ?_; rintro e w2 ⟨rfl, hb2⟩; have HB2 : Hid (Below V.heap.size V w2) := HBQ.out.trans (hb2.mono HBQ.out.size); have u4 := HU.out w2 hb2; clear hb2 HI u0 u1 u2; by_cases hfk : fr < (k : Int)
   ·have HE := hZ9 (HEnd.out w2 (dd.pos, 14) (by rw [HR.out, HSt.out, if_pos hfk]) HB2.out); have HE' : Hid (P (.returned (.tuple #[.int .i64 dd.pos, .iface 89 (.int .i64 14)])) w2) := HE.out; clear HE HEnd HR HSt; go_wp2_with fail
    first | exact HE'.out | (go_ret2; exact HE'.out)
   ·have HR2 : Hid (tyErr x = match dupErr x.decls (x.decls.drop (k + 1)) (k + 1) with | some at_ => (at_, 14) | none => rulesErr x.decls x.rules) := by show _ = _; rw [HR.out, HSt.out, if_neg hfk]
    clear HR HSt; go_wp2_with fail
    go_roundw
    case rel => exact ⟨k + 1, by omega, by go_num, HR2, HB2⟩
    case measure => simp [intOf]; omega
  ·have i1 : ¬ (k : Int) < (an : Int) := by omega
   have HR2 : Hid (tyErr x = rulesErr x.decls (x.rules.drop 0)) := by show _ = _; rw [HR.out, List.drop_of_length_le (by have := Hal.out; omega), List.drop_zero]; rfl
   have d1 := (HC.out wr HB.out).2; clear HR; obtain ⟨X, HX2⟩ : ∃ X, Hid (wr = X) := ⟨_, rfl⟩
   have HBX := hZ9 HB.out; go_wp2_with fail
   clear d1; go_loopw [7, 8, 9, 35] (fun _ _ _ i wr => ∃ k : Nat, k ≤ bn ∧ i = .int .i64 (k : Int) ∧ Hid (tyErr x = rulesErr x.decls (x.rules.drop k)) ∧ Hid (Below V.heap.size V wr)) (fun _ _ _ i _ => bn - (intOf i).toNat)
   case atStart => exact ⟨0, by omega, rfl, HR2, HBX⟩
   case round =>
    clear HR2 HB HBX HX2; obtain ⟨k2, hk2, rfl, HR, HB⟩ := hrel; have j0 : (0 : Int) ≤ (k2 : Int) := by omega
    by_cases hlt2 : k2 < bn
    ·have j1 : (k2 : Int) < (bn : Int) := by omega
     obtain ⟨rb, ro, y, cs, hbA, hrb, hy, ⟨a, m, rfl, hyA⟩, hcs⟩ := (HX.out.rules.keep HB.out).cells_at hlt2; dsimp only at hbA; subst hbA; obtain ⟨m_A, m_n, m_c⟩ := m; obtain ⟨a_A, a_n, a_c⟩ := a; have HCs : Hid (∀ j' v, (ruleC y ⟨a_A, a_n, a_c⟩ ⟨m_A, m_n, m_c⟩)[j']? = some v → wr.cell? ⟨rb, ro + k2 * 6 + j', none⟩ = some v) := hcs; obtain ⟨U, hU⟩ : ∃ U, U = wr.alloc (.cells (ruleC y ⟨a_A, a_n, a_c⟩ ⟨m_A, m_n, m_c⟩).toArray 56) := ⟨_, rfl⟩
     have HUe := hZ9 hU.symm; have hbU : Below wr.heap.size wr U := by rw [hU]; exact belowA (Below.refl _ _) _
     have hrU : U.heap[wr.heap.size]? = some (.cells (ruleC y ⟨a_A, a_n, a_c⟩ ⟨m_A, m_n, m_c⟩).toArray 56 (0, 0)) := by rw [hU]; exact heapNew rfl
     have hBU : Below V.heap.size V U := HB.out.trans (hbU.mono HB.out.size); have HBU := hZ9 hBU; have HRU := hZ9 (row_cells hrU); obtain ⟨u0, u1⟩ := HC.out U hBU; have hDU := (HX.out.keep hBU).decls; have hyU := hyA.keep hbU; have HBg := hZ9 (begin_any d aA an ac (some ⟨rb, ro, none⟩) bn bc x.decls y ⟨a_A, a_n, a_c⟩ ⟨m_A, m_n, m_c⟩ U hDU (formed_kinds HFr.out) hyU)
     have HFt := hZ9 (fun (g km : Nat) (l0 : Kinds) (W : World) (h : Scp U W g km (.slice aA an ac :: .slice (some ⟨rb, ro, none⟩) bn bc :: ruleC y ⟨a_A, a_n, a_c⟩ ⟨m_A, m_n, m_c⟩) l0 (kindsR x.decls y)) =>
      fault_any U g km aA an ac (.slice (some ⟨rb, ro, none⟩) bn bc) l0 (kindsR x.decls y) x.decls hDU (formed_kinds HFr.out) d y ⟨a_A, a_n, a_c⟩ ⟨m_A, m_n, m_c⟩ hyU W h)
     rw [← ruleErrL_eq] at HFt; have HSt := hZ9 (rulesErr_at (ds := x.decls) hy.out); unfold AtPost at HFt; obtain ⟨re, Hre⟩ : ∃ re, Hid (ruleErr x.decls y = re) := ⟨_, rfl⟩
     rw [Hre.out] at HFt HSt; obtain ⟨r1, r2⟩ := re; dsimp only at HFt HSt; clear hU hbU hrU hyA hcs hy hBU hDU hyU
     go_wp2_with (first
      | rw [HUe.out]
      | refine wpList_load_at rb (ro + k2 * 6) (ruleC y ⟨a_A, a_n, a_c⟩ ⟨m_A, m_n, m_c⟩) _ HCs.out Tryz.underlying56 rfl (rule_sizeY _ _ _) rfl rfl ?_
      | refine wpList_new rfl rfl 56 7 (.tmp 38) rfl rfl rfl rfl _ (ruleC y ⟨a_A, a_n, a_c⟩ ⟨m_A, m_n, m_c⟩).toArray rule_infoY rfl (rule_oneY _ _ _) rfl rfl ?_
      | refine wpList_load_at wr.heap.size 0 (ruleC y ⟨a_A, a_n, a_c⟩ ⟨m_A, m_n, m_c⟩) _ HRU.out Tryz.underlying56 rfl (rule_sizeY _ _ _) rfl rfl ?_)
     refine HBg.out.mono ?_; rintro e w3 ⟨g, km, l0, rfl, hs3⟩; have HF3 := hZ9 (HFt.out g km l0 w3 hs3); have HB3 : Hid (Below V.heap.size V w3) := HBU.out.trans (hs3.b0.mono HBU.out.size); clear hs3 HBg HFt u0 u1; go_wp2_with fail
     refine HF3.out.mono ?_; rintro e w4 ⟨rfl, hb4⟩; have HB4 : Hid (Below V.heap.size V w4) := HB3.out.trans (hb4.mono HB3.out.size); clear hb4 HF3; by_cases h0 : r2 = 0
     ·have e1 : (r2 != 0) = false := by simpa using h0
      have HR2 : Hid (tyErr x = rulesErr x.decls (x.rules.drop (k2 + 1))) := by show _ = _; rw [HR.out, HSt.out, if_neg (fun q => q h0)]
      clear h0 HR HSt; go_wp2_with fail
      go_roundw
      case rel => exact ⟨k2 + 1, by omega, by go_num, HR2, HB4⟩
      case measure => simp [intOf]; omega
     ·have e1 : (r2 != 0) = true := by simpa using h0
      have HE := hZ9 (HEnd.out w4 (r1, r2) (by rw [HR.out, HSt.out, if_pos h0]) HB4.out); have hev : errV 89 r2 = .iface 89 (.int .i64 r2) := by unfold errV; rw [if_neg h0]
      dsimp only at HE; rw [hev] at HE; clear h0 hev HR HSt HEnd; go_wp2_with fail
      first | exact HE.out | (go_ret2; exact HE.out)
    ·have j1 : ¬ (k2 : Int) < (bn : Int) := by omega
     have HE := hZ9 (HEnd.out wr (0, 0) (by rw [HR.out, List.drop_of_length_le (by have := Hbl.out; omega)]; rfl) HB.out); have HE' : Hid (P (.returned (.tuple #[.int .i64 0, .nilIface])) wr) := HE.out; clear HE HR HB HEnd; go_wp2_with fail
     first | exact HE'.out | (go_ret2; exact HE'.out)
end Go.Proofs.YtaeedepojpablaaGreatDoor

namespace Go.Proofs.YtaeedepojpablaaGreatDoor
open Go.RowKit
def al8 : ByteArray := ⟨#[114, 101, 108, 32, 112, 40, 105, 110, 116, 41, 46, 32, 112, 40, 97, 41, 46]⟩
def al8L : List UInt8 := [114, 101, 108, 32, 112, 40, 105, 110, 116, 41, 46, 32, 112, 40, 97, 41, 46]
theorem al8_list : al8.toList = al8L := toList_mk _
def al8Y : GProg := (parseP al8L).1
theorem al8_read : ((parseP al8L).2.2, tyErr al8Y) = (0, (12, 7)) := by kernel_rfl
def Al8Post (w : World) (e : Ending) (w' : World) : Prop := Below w.heap.size w w' ∧ ∃ (d : Nat) (a b : Hd) (at_ : Nat), e = .returned (.tuple #[.agg #[a.v, b.v], .int .i64 at_, .nilIface]) ∧ ProgAt d w' w'.heap.size al8Y a b
theorem al8_calls (w : World) (hW : ParW w) : Calls Tryz.prog 8 #[.string al8] w (Al8Post w) := by
 refine (parse_any al8 (by decide) w hW).mono ?_; rintro e w1 ⟨hb, d, a, b, rfl, ha, hr⟩; have hq := al8_read; simp only [Prod.mk.injEq] at hq; have h0 := hq.1; rw [← al8_list] at h0; have hy : al8Y = (parseP al8.toList).1 := by rw [al8_list]; rfl
 refine ⟨hb, d, a, b, (parseP al8.toList).2.1, ?_, ?_⟩
 ·rw [h0]; rfl
 ·rw [hy]; exact ⟨ha.is, hr.is⟩
theorem isY_any (n : Int) (h : n ≠ 0) (w : World) : Calls Tryz.prog 24 #[.iface 89 (.int .i64 n), .int .i64 n] w (RetBool true w) := by
 have hn := hZ9 (num_any n w); simp only [errV, if_neg h] at hn; have hb : (n == n) = true := by simp
 clear h; go_enter Tryz.func24, Tryz.ntmps24
 go_wp2_with fail
 refine hn.out.mono ?_; rintro e w1 ⟨rfl, hb1⟩; go_wp2_with fail
 go_ret; exact ⟨rfl, hb1⟩
theorem alive8_any (w : World) (hW : ParW w) : Calls Tryz.prog 7 #[] w (RetBool true w) := by
 have HC := hZ9 (al8_calls w hW); have HPW : Hid (∀ W, Below w.heap.size w W → LexW W) := fun W hb => (hW.on hb).lex
 unfold al8 at HC; clear hW; go_enter Tryz.func7, Tryz.ntmps7
 go_wp2_with fail
 refine HC.out.mono ?_; rintro e w1 ⟨hb, d, ⟨aA, an, ac⟩, ⟨bA, bn, bc⟩, at_, rfl, hp⟩; dsimp only [Hd.v] at *; obtain ⟨V, hV⟩ : ∃ V, V = w1.alloc (.cells #[.slice aA an ac, .slice bA bn bc] 26) := ⟨_, rfl⟩
 have HVe := hZ9 hV.symm; have hbV : Below w1.heap.size w1 V := by rw [hV]; exact belowA (Below.refl _ _) _
 have hg : V.heap[w1.heap.size]? = some (.cells #[.slice aA an ac, .slice bA bn bc] 26 (0, 0)) := by rw [hV]; exact heapNew rfl
 obtain ⟨c0, c1⟩ := facts2 hg; have hbw : Below w.heap.size w V := hb.trans (hbV.mono hb.size); have HO := hZ9 (tyCheck_any d al8Y aA an ac bA bn bc V (hp.keep hbV) (HPW.out V hbw)); have hq := al8_read; simp only [Prod.mk.injEq] at hq; rw [hq.2] at HO; have HB := hZ9 hbw; have HIs := hZ9 (fun W => isY_any 7 (by decide) W); unfold TyPost at HO; have hev : errV 89 7 = .iface 89 (.int .i64 7) := rfl; dsimp only at HO; rw [hev] at HO; clear hb hp hV hbV hg hbw HC hq hev; go_wp2_with (rw [HVe.out])
 refine HO.out.mono ?_; rintro e w2 ⟨rfl, hb2⟩; have HB2 : Hid (Below w.heap.size w w2) := HB.out.trans (hb2.mono HB.out.size); clear hb2 HO; go_wp2_with fail
 refine (HIs.out w2).mono ?_; rintro e w3 ⟨rfl, hb3⟩; have HE : Hid (Below w.heap.size w w3) := HB2.out.trans (hb3.mono HB2.out.size); clear hb3 HIs; go_wp2_with fail
 go_ret; exact ⟨rfl, HE.out⟩
end Go.Proofs.YtaeedepojpablaaGreatDoor
