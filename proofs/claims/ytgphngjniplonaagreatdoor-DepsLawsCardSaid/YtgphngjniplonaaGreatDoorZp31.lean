/- My own texts DgOf, DgAl, DgSm, as far as this claim needs them. -/
import Derived.Test.YtgphngjniplonaaGreatDoorZp24
import Derived.Test.YtgphngjniplonaaGreatDoorZp30
set_option linter.unusedVariables false
set_option linter.unusedSimpArgs false
set_option maxRecDepth 1000000
set_option maxHeartbeats 16000000
namespace Go.Proofs.YtgphngjniplonaaGreatDoor
open Go.RowKit
abbrev zRuleD : List Value := ruleC ⟨⟨⟨#[]⟩, []⟩, 0, 0, [], 0⟩ ⟨none, 0, 0⟩ ⟨none, 0, 0⟩
theorem ruleD_info : (Tryz.prog.info? 83).map (fun i => (i.zero, i.size)) = some (some (.agg zRuleD.toArray), zRuleD.toArray.size) := by kernel_rfl
theorem ruleD_size (x : GRule) (a b : Hd) : (Tryz.prog.info? 83).map (·.size) = some (ruleC x a b).length := by
 show _ = some 6
 kernel_rfl
theorem ruleD_one (x : GRule) (a b : Hd) : (ruleC x a b).toArray.all (·.oneCell') = true := by simp [Value.oneCell']
def graphN (x : GProg) : Int := if formedB x = true then (x.decls.length : Int) else 0
def graphE (x : GProg) : List GEdge := if formedB x = true then putsE (ofL x) else []
def OfPost (x : GProg) (w : World) (e : Ending) (w' : World) : Prop :=
 ∃ A k c, e = .returned (graphV (graphN x) A k c) ∧ SliceIs Enc.edge w' w'.heap.size A k c (graphE x) ∧ Below w.heap.size w w'
theorem edges_is {w : World} {base : Nat} {A : Option Addr} {n c : Nat} {l : List GEdge} (h : w.ownsRow base 71 3 (.slice A n c) n (l.flatMap GEdge.cells)) (hl : l.length = n) (hn : n ≤ 10000) (hok : ∀ e ∈ l, e.ok) : SliceIs Enc.edge w w.heap.size A n c l :=
 SliceIs.of_flat (E := Enc.edge) GEdge.cells (fun _ => rfl) h hl (by simp [reachN]; omega) (fun q hq => ⟨rfl, hok q hq⟩)
theorem within_ok {e : GEdge} {n : Int} (h : withinE e n = true) (hn : n ≤ 1000) : e.ok := by
 simp only [withinE, Bool.and_eq_true, decide_eq_true_eq] at h
 exact ⟨fits_sm (by omega), fits_sm (by omega)⟩
theorem depsOf_any (d : Nat) (x : GProg) (aA : Option Addr) (an ac : Nat) (bA : Option Addr) (bn bc : Nat) (w : World) (hx : ProgAt d w w.heap.size x ⟨aA, an, ac⟩ ⟨bA, bn, bc⟩) (hW : LexW w) :
  Calls Tryz.prog 10 #[.agg (progC ⟨aA, an, ac⟩ ⟨bA, bn, bc⟩).toArray] w (OfPost x w) := by
 have hbn := hx.rules.bound
 have han := hx.decls.bound
 have Hbl : Hid (x.rules.length = bn) := hx.rules.1
 have Hal : Hid (x.decls.length = an) := hx.decls.1
 obtain ⟨V, hV⟩ : ∃ V, V = (w.alloc (.cells #[.slice aA an ac, .slice bA bn bc] 25)).alloc (.cells #[.int .i64 0, .slice none 0 0] 31) := ⟨_, rfl⟩
 have HVe := Lib.hid hV.symm
 have hg : V.heap[w.heap.size]? = some (.cells #[.slice aA an ac, .slice bA bn bc] 25 (0, 0)) := by rw [hV]; exact heapOld (heapNew rfl)
 have hg2 : V.heap[w.heap.size + 1]? = some (.cells #[.int .i64 0, .slice none 0 0] 31 (0, 0)) := by rw [hV]; exact heapNew (by simp)
 have hbV : Below w.heap.size w V := by rw [hV]; exact belowA (belowA (Below.refl _ _) _) _
 have hgl := (Array.getElem?_eq_some_iff.1 hg).1
 have hgl2 := (Array.getElem?_eq_some_iff.1 hg2).1
 have HbV := Lib.hid hbV
 obtain ⟨c0, c1⟩ := facts2 hg
 have HX := Lib.hid (hx.keep hbV)
 have HF := Lib.hid (formed_any d x ⟨aA, an, ac⟩ ⟨bA, bn, bc⟩ V HX.out (hW.on hbV))
 have HC : Hid (∀ W, Below V.heap.size V W → W.cell? ⟨w.heap.size, 0, none⟩ = some (.slice aA an ac) ∧ W.cell? ⟨w.heap.size, 1, none⟩ = some (.slice bA bn bc)) := fun W hW => facts2 ((hW.block _ hgl).trans hg)
 have HR : Hid (∀ W, Below V.heap.size V W → W.heap[w.heap.size + 1]? = some (.cells #[.int .i64 0, .slice none 0 0] 31 (0, 0))) := fun W hW => (hW.block _ hgl2).trans hg2
 have HI : Hid (∀ W r, Below V.heap.size V W → Calls Tryz.prog 33 #[.agg #[.slice aA an ac, .slice bA bn bc], .string r] W (IdxRet x.decls r W)) := fun W r hW => tyIndex_any aA an ac _ x.decls r W ((HX.out.keep hW).decls)
 obtain ⟨P, HP⟩ : ∃ P : Ending → World → Prop, Hid (P = OfPost x w) := ⟨_, rfl⟩
 rw [← HP.out]
 clear hx hW hV hg hg2 hbV
 go_enter Tryz.func10, Tryz.ntmps10
 go_wp2_with (rw [HVe.out])
 refine HF.out.mono ?_
 rintro e w1 ⟨rfl, hb1⟩
 have HB1 := Lib.hid hb1
 clear hb1 HF
 cases hfo : formedB x with
 | false =>
  have HG : Hid (graphN x = 0 ∧ graphE x = []) := by unfold graphN graphE; rw [hfo]; exact ⟨rfl, rfl⟩
  have hW1 := HR.out w1 HB1.out
  have f0 : w1.cell? ⟨w.heap.size + 1, 0, none⟩ = some (.int .i64 0) := (cell_of_row _ _ 0 _ _ _ hW1).trans rfl
  have f1 : w1.cell? ⟨w.heap.size + 1, 1, none⟩ = some (.slice none 0 0) := (cell_of_row _ _ 1 _ _ _ hW1).trans rfl
  have z0 : w1.frozen? ⟨w.heap.size + 1, 0, none⟩ = false := frozen_of_row _ _ _ _ _ hW1
  have z1 : w1.frozen? ⟨w.heap.size + 1, 1, none⟩ = false := frozen_of_row _ _ _ _ _ hW1
  have g0 : ((w1.setCell ⟨w.heap.size + 1, 0, none⟩ (.int .i64 0)).setCell ⟨w.heap.size + 1, 1, none⟩ (.slice none 0 0)).cell? ⟨w.heap.size + 1, 0, none⟩ = some (.int .i64 0) := by
   rw [World.cell?_setCell_other _ _ _ _ (by simp)]; exact World.cell?_setCell_same _ _ _ f0
  have g1 : ((w1.setCell ⟨w.heap.size + 1, 0, none⟩ (.int .i64 0)).setCell ⟨w.heap.size + 1, 1, none⟩ (.slice none 0 0)).cell? ⟨w.heap.size + 1, 1, none⟩ = some (.slice none 0 0) :=
   World.cell?_setCell_same _ _ _ ((World.cell?_setCell_other _ _ _ _ (by simp)).trans f1)
  have HE : Hid (P (.returned (graphV 0 none 0 0)) ((w1.setCell ⟨w.heap.size + 1, 0, none⟩ (.int .i64 0)).setCell ⟨w.heap.size + 1, 1, none⟩ (.slice none 0 0))) := by
   show P _ _
   rw [HP.out]
   unfold OfPost
   rw [HG.out.1, HG.out.2]
   exact ⟨none, 0, 0, rfl, SliceIs.nil, ((HbV.out.trans (HB1.out.mono HbV.out.size)).setCell (show w.heap.size ≤ w.heap.size + 1 by omega) _).setCell (show w.heap.size ≤ w.heap.size + 1 by omega) _⟩
  clear hfo hW1 HG
  go_wp2_with fail
  refine bodyPost_ret (v := .agg #[.int .i64 0, .slice none 0 0]) ?_ rfl HE.out
  simp [results, Tryz.results10, go_sem, g0, g1]
 | true =>
 have HFo := Lib.hid hfo
 have hbn64 : bn ≤ 64 := by have := (formed_rules hfo).1; rw [← Hbl.out]; exact this
 have d1 := (HC.out w1 HB1.out).2
 have hzz1 := HB1.out.size
 clear hfo c0 c1
 go_wp2_with fail
 clear d1
 go_loopw [3, 19] (fun ts i wr => ∃ (k : Nat) (Ao : Option Addr) (co : Nat) (es : List GEdge), k ≤ bn ∧ i = .int .i64 (k : Int) ∧ ts = .slice Ao es.length co ∧ es.length ≤ 8 * k ∧ Hid (es = (x.rules.take k).flatMap (bodyE x)) ∧
  Hid (wr.ownsRow V.heap.size 71 3 (.slice Ao es.length co) es.length (es.flatMap GEdge.cells)) ∧ Hid (Below V.heap.size V wr)) (fun _ i _ => bn - (intOf i).toNat)
 case atStart => exact ⟨0, none, 0, [], by omega, rfl, rfl, by simp, rfl, World.ownsRow_nil _ _ _ _, HB1.out⟩
 case round =>
  clear HB1
  obtain ⟨k, Ao, co, es, hk, rfl, rfl, hes, HEs, HOw, HB⟩ := hrel
  have i0 : (0 : Int) ≤ (k : Int) := by omega
  by_cases hlt : k < bn
  ·have i1 : (k : Int) < (bn : Int) := by omega
   obtain ⟨rb, ro, y, cs, hbA, hrb, hy, ⟨a, m, rfl, hyV⟩, hcsV⟩ := HX.out.rules.cells_at hlt
   dsimp only at hbA
   subst hbA
   obtain ⟨m_A, m_n, m_c⟩ := m
   obtain ⟨a_A, a_n, a_c⟩ := a
   have HYV := Lib.hid hyV
   have hyA := hyV.keep HB.out
   have hcs : ∀ j' v, (ruleC y ⟨a_A, a_n, a_c⟩ ⟨m_A, m_n, m_c⟩)[j']? = some v → wr.cell? ⟨rb, ro + k * 6 + j', none⟩ = some v := fun j' v hv => (HB.out.cell (p := ⟨rb, ro + k * 6 + j', none⟩) hrb).trans (hcsV j' v hv)
   have hym := List.mem_of_getElem? hy.out
   have hry := (formed_rules HFo.out).2 y hym
   have HCs : Hid (∀ j' v, (ruleC y ⟨a_A, a_n, a_c⟩ ⟨m_A, m_n, m_c⟩)[j']? = some v → wr.cell? ⟨rb, ro + k * 6 + j', none⟩ = some v) := hcs
   obtain ⟨U, hU⟩ : ∃ U, U = wr.alloc (.cells (ruleC y ⟨a_A, a_n, a_c⟩ ⟨m_A, m_n, m_c⟩).toArray 83) := ⟨_, rfl⟩
   have HUe := Lib.hid hU.symm
   have hbU : Below wr.heap.size wr U := by rw [hU]; exact belowA (Below.refl _ _) _
   have hrU : U.heap[wr.heap.size]? = some (.cells (ruleC y ⟨a_A, a_n, a_c⟩ ⟨m_A, m_n, m_c⟩).toArray 83 (0, 0)) := by rw [hU]; exact heapNew rfl
   have hzU : wr.heap.size < U.heap.size := (Array.getElem?_eq_some_iff.1 hrU).1
   have HBU : Hid (Below V.heap.size V U) := HB.out.trans (hbU.mono HB.out.size)
   have HRow : Hid (∀ W, Below U.heap.size U W → W.heap[wr.heap.size]? = some (.cells (ruleC y ⟨a_A, a_n, a_c⟩ ⟨m_A, m_n, m_c⟩).toArray 83 (0, 0))) := fun W hW => (hW.block _ hzU).trans hrU
   have HRA : Hid (∀ W, Below U.heap.size U W → RuleAt d W W.heap.size y ⟨a_A, a_n, a_c⟩ ⟨m_A, m_n, m_c⟩) := fun W hW => (hyA.keep hbU).keep hW
   have HRA2 : Hid (∀ W, Below V.heap.size V W → RuleAt d W W.heap.size y ⟨a_A, a_n, a_c⟩ ⟨m_A, m_n, m_c⟩) := fun W hW => (HYV.out).keep hW
   have HOU := Lib.hid (own_below HOw.out hbU)
   have Hmn : Hid (y.body.length = m_n) := hyA.body.1
   have hmn8 : m_n ≤ 8 := by rw [← Hmn.out]; exact (right_body hry).1
   have Hry := Lib.hid hry
   have HI1 := Lib.hid (HI.out U y.head.rel HBU.out)
   obtain ⟨u0, u1⟩ := HC.out U HBU.out
   have u2 := (facts6 (HRow.out U (Below.refl _ _))).1
   have hzwr := HB.out.size
   clear hU hbU hrU hyA hcs hym hry HOw hyV hcsV
   go_wp2_with (first
    | rw [HUe.out]
    | refine wpList_load_at rb (ro + k * 6) (ruleC y ⟨a_A, a_n, a_c⟩ ⟨m_A, m_n, m_c⟩) _ HCs.out Tryz.underlying83 rfl (ruleD_size _ _ _) rfl rfl ?_
    | refine wpList_new rfl rfl 83 5 (.tmp 22) rfl rfl rfl rfl _ (ruleC y ⟨a_A, a_n, a_c⟩ ⟨m_A, m_n, m_c⟩).toArray ruleD_info rfl (ruleD_one _ _ _) rfl rfl ?_)
   refine HI1.out.mono ?_
   rintro e w2 ⟨rfl, hb2⟩
   have HB2 := Lib.hid hb2
   have HO2 := Lib.hid (own_below HOU.out hb2)
   have HBV2 : Hid (Below V.heap.size V w2) := HBU.out.trans (hb2.mono HBU.out.size)
   obtain ⟨-, -, -, -, x4, -⟩ := facts6 (HRow.out w2 hb2)
   dsimp only [Hd.v] at x4
   obtain ⟨fr, Hfr⟩ : ∃ fr, Hid (idxI (idxD x.decls y.head.rel) = fr) := ⟨_, rfl⟩
   rw [Hfr.out]
   clear hb2 HI1 u0 u1 u2 HOU
   go_wp2_with fail
   clear x4
   have HRw2 := Lib.hid (HRow.out w2 HB2.out)
   obtain ⟨gb, Hgb⟩ : ∃ gb, Hid (gb = wr.heap.size) := ⟨_, rfl⟩
   rw [← Hgb.out] at HRw2 ⊢
   have hne1 : (83 : Nat) ≠ 71 := by decide
   clear HB2
   go_loopw [3, 8, 9, 31] (fun ts _ _ i wr2 => ∃ (j : Nat) (Ao : Option Addr) (co : Nat) (fs : List GEdge), j ≤ m_n ∧ i = .int .i64 (j : Int) ∧ ts = .slice Ao fs.length co ∧ fs.length ≤ 8 * k + j ∧ Hid (fs = es ++ (y.body.take j).flatMap (edgeY x y)) ∧
    Hid (wr2.ownsRow V.heap.size 71 3 (.slice Ao fs.length co) fs.length (fs.flatMap GEdge.cells)) ∧ Hid (Below V.heap.size V wr2) ∧ Hid (wr2.heap[gb]? = some (.cells (ruleC y ⟨a_A, a_n, a_c⟩ ⟨m_A, m_n, m_c⟩).toArray 83 (0, 0)))) (fun _ _ _ i _ => m_n - (intOf i).toNat)
   case atStart => exact ⟨0, Ao, co, es, by omega, rfl, rfl, by omega, by show es = es ++ _; simp, HO2.out, HBV2.out, HRw2.out⟩
   case round =>
    clear HO2 HBV2 HRw2
    obtain ⟨j, Ao, co, fs, hj, rfl, rfl, hfs, HFs, HOw, HB5, HRw⟩ := hrel
    have j0 : (0 : Int) ≤ (j : Int) := by omega
    have hz5 := HB5.out.size
    by_cases hjl : j < m_n
    ·have j1 : (j : Int) < (m_n : Int) := by omega
     obtain ⟨bb, o, z, a', p', q', hmA, hbb, hz, hlz, Hr⟩ := (HRA2.out wr HB5.out).body.lit_range hjl
     dsimp only at hmA
     subst hmA
     obtain ⟨Q, hQ⟩ : ∃ Q, Q = wr.alloc (.cells (litC z a' p' q').toArray 96) := ⟨_, rfl⟩
     have HQe := Lib.hid hQ.symm
     have hbQ : Below wr.heap.size wr Q := by rw [hQ]; exact belowA (Below.refl _ _) _
     have hrQ : Q.heap[wr.heap.size]? = some (.cells (litC z a' p' q').toArray 96 (0, 0)) := by rw [hQ]; exact heapNew rfl
     have hzQ : wr.heap.size < Q.heap.size := (Array.getElem?_eq_some_iff.1 hrQ).1
     have HBQ : Hid (Below V.heap.size V Q) := HB5.out.trans (hbQ.mono hz5)
     have HOQ := Lib.hid (own_below HOw.out hbQ)
     have HI2 := Lib.hid (HI.out Q z.atom.rel HBQ.out)
     obtain ⟨u0, u1⟩ := HC.out Q HBQ.out
     have HRQ : Hid (∀ W, Below Q.heap.size Q W → W.cell? ⟨wr.heap.size, 0, none⟩ = some (.int .i64 z.k) ∧ W.cell? ⟨wr.heap.size, 1, none⟩ = some (.string z.atom.rel)) := fun W hW => by
      have h := facts17 ((hW.block _ hzQ).trans hrQ)
      exact ⟨h.1, h.2.1⟩
     have HRR : Hid (∀ W, Below Q.heap.size Q W → W.heap[gb]? = some (.cells (ruleC y ⟨a_A, a_n, a_c⟩ ⟨some ⟨bb, o, none⟩, m_n, m_c⟩).toArray 83 (0, 0))) := fun W hW =>
      ((hbQ.trans (hW.mono hbQ.size)).block _ (Array.getElem?_eq_some_iff.1 HRw.out).1).trans HRw.out
     have u2 := (HRQ.out Q (Below.refl _ _)).2
     clear hQ hbQ hrQ hlz HOw
     go_wp2_with (first
      | rw [HQe.out]
      | refine wpList_load_mid rfl 96 (.tmp 33) rfl bb (o + j * 17) rfl (litC z a' p' q') _ Hr.out Tryz.underlying96 rfl (lit_size z a' p' q') ?_
      | refine wpList_new rfl rfl 96 8 (.tmp 34) rfl rfl rfl rfl _ (litC z a' p' q').toArray lit_info rfl (lit_one z a' p' q') rfl rfl ?_)
     refine HI2.out.mono ?_
     rintro e w5 ⟨rfl, hb5⟩
     have hB5w : Below V.heap.size V w5 := HBQ.out.trans (hb5.mono HBQ.out.size)
     have HO5 := Lib.hid (own_below HOQ.out hb5)
     have hk0 := (HRQ.out w5 hb5).1
     have hRr := HRR.out w5 hb5
     obtain ⟨-, -, hag, -, -, -⟩ := facts6 hRr
     have HBw5 := Lib.hid hB5w
     have HRr := Lib.hid hRr
     obtain ⟨ux, Hto⟩ : ∃ ux, Hid (idxI (idxD x.decls z.atom.rel) = ux) := ⟨_, rfl⟩
     rw [Hto.out]
     have HT : Hid ((y.body.take (j + 1)).flatMap (edgeY x y) = (y.body.take j).flatMap (edgeY x y) ++ edgeY x y z) := flat_snoc _ hz.out
     clear hb5 HI2 u0 u1 u2 hB5w hRr HOQ HQe HRQ HRR
     by_cases h1 : 0 ≤ fr
     rotate_left
     ·have HNo : Hid (edgeY x y z = []) := edgeY_none (.inl (by rw [Hfr.out]; omega))
      have HF2 : Hid (fs = es ++ (y.body.take (j + 1)).flatMap (edgeY x y)) := by show _ = _; rw [HT.out, HNo.out, List.append_nil]; exact HFs.out
      clear hk0 hag
      go_wp2_with fail
      go_roundw
      case rel => exact ⟨j + 1, Ao, co, fs, by omega, by go_num, rfl, by omega, HF2, HO5, HBw5, HRr⟩
      case measure => simp [intOf]; omega
     by_cases h2 : 0 ≤ ux
     rotate_left
     ·have HNo : Hid (edgeY x y z = []) := edgeY_none (.inr (by rw [Hto.out]; omega))
      have HF2 : Hid (fs = es ++ (y.body.take (j + 1)).flatMap (edgeY x y)) := by show _ = _; rw [HT.out, HNo.out, List.append_nil]; exact HFs.out
      clear hk0 hag
      go_wp2_with fail
      go_roundw
      case rel => exact ⟨j + 1, Ao, co, fs, by omega, by go_num, rfl, by omega, HF2, HO5, HBw5, HRr⟩
      case measure => simp [intOf]; omega
     have HYes : Hid (edgeY x y z = [⟨fr, ux, decide (z.k = 2) || decide (0 < y.agg)⟩]) := by
      show _ = _
      rw [edgeY_some (by rw [Hfr.out]; exact h1) (by rw [Hto.out]; exact h2), Hfr.out, Hto.out]
     have HPush : Hid (∀ nb : Bool, (decide (z.k = 2) || decide (0 < y.agg)) = nb → ∃ A' c' w', (∀ ty, (Builtin.append_ #[29, 29] ty #[.slice Ao fs.length co, .slice (some ⟨w5.heap.size, 0, none⟩) 1 1]).run Tryz.prog (w5.alloc (.cells #[.int .i64 fr, .int .i64 ux, .bool nb] 71)) = .ok (.slice A' (fs.length + 1) c') w') ∧
       Hid ((fs ++ [⟨fr, ux, nb⟩]) = es ++ (y.body.take (j + 1)).flatMap (edgeY x y)) ∧ Hid (w'.ownsRow V.heap.size 71 3 (.slice A' (fs ++ [(⟨fr, ux, nb⟩ : GEdge)]).length c') (fs ++ [(⟨fr, ux, nb⟩ : GEdge)]).length ((fs ++ [(⟨fr, ux, nb⟩ : GEdge)]).flatMap GEdge.cells)) ∧ Hid (Below V.heap.size V w') ∧
       Hid (w'.heap[gb]? = some (.cells (ruleC y ⟨a_A, a_n, a_c⟩ ⟨some ⟨bb, o, none⟩, m_n, m_c⟩).toArray 83 (0, 0)))) := fun nb hnb => by
      obtain ⟨A', c', w', q1, q2, q3, q4⟩ := edge_push HO5.out ⟨fr, ux, nb⟩ (by omega) HBw5.out.size
      refine ⟨A', c', w', q1, ?_, ?_, HBw5.out.trans (q4.mono (Nat.le_refl _)), ?_⟩
      ·show _ = _
       rw [HT.out, HYes.out, hnb, ← List.append_assoc, ← HFs.out]
      ·show World.ownsRow _ _ _ _ _ _ _
       rw [List.length_append, List.length_singleton]
       exact q2
      ·refine (q3.block _ (Array.getElem?_eq_some_iff.1 HRr.out).1 (fun hm => ?_)).trans HRr.out
       obtain ⟨cur, hc⟩ := own_typeR HO5.out (Option.mem_toList.1 hm)
       rw [HRr.out] at hc
       injection hc with hc
       injection hc with _ hc _
       exact hne1 hc
     by_cases hk2 : z.k = 2
     ·obtain ⟨A9, c9, w9, q1, HF2, HO9, HB9, HR9⟩ := HPush.out true (by simp [hk2])
      have HRun := Lib.hid q1
      have hl9 : (fs ++ [(⟨fr, ux, true⟩ : GEdge)]).length = fs.length + 1 := by simp
      have e1 : (z.k == 2) = true := by simp [hk2]
      clear q1 HPush HYes hag
      go_wp2_with (at_builtin; refine wpList_append_run (o := ⟨some 59, _, _, _, _, _⟩) rfl _ _ _ rfl _ _ rfl rfl (HRun.out _) ?_)
      go_roundw
      case rel => exact ⟨j + 1, A9, c9, _, by omega, by go_num, by rw [hl9], by omega, HF2, HO9, HB9, HR9⟩
      case measure => simp [intOf]; omega
     ·have e1 : (z.k == 2) = false := by simp [hk2]
      by_cases hg0 : 0 < y.agg
      ·obtain ⟨A9, c9, w9, q1, HF2, HO9, HB9, HR9⟩ := HPush.out true (by simp [hg0])
       have HRun := Lib.hid q1
       have hl9 : (fs ++ [(⟨fr, ux, true⟩ : GEdge)]).length = fs.length + 1 := by simp
       clear q1 HPush HYes
       go_wp2_with (at_builtin; refine wpList_append_run (o := ⟨some 59, _, _, _, _, _⟩) rfl _ _ _ rfl _ _ rfl rfl (HRun.out _) ?_)
       go_roundw
       case rel => exact ⟨j + 1, A9, c9, _, by omega, by go_num, by rw [hl9], by omega, HF2, HO9, HB9, HR9⟩
       case measure => simp [intOf]; omega
      ·obtain ⟨A9, c9, w9, q1, HF2, HO9, HB9, HR9⟩ := HPush.out (decide (0 < y.agg)) (by simp [hk2])
       have HRun := Lib.hid q1
       have hl9 : (fs ++ [(⟨fr, ux, decide (0 < y.agg)⟩ : GEdge)]).length = fs.length + 1 := by simp
       clear q1 HPush HYes
       go_wp2_with (at_builtin; refine wpList_append_run (o := ⟨some 59, _, _, _, _, _⟩) rfl _ _ _ rfl _ _ rfl rfl (HRun.out _) ?_)
       go_roundw
       case rel => exact ⟨j + 1, A9, c9, _, by omega, by go_num, by rw [hl9], by omega, HF2, HO9, HB9, HR9⟩
       case measure => simp [intOf]; omega
    ·obtain rfl : m_n = j := by omega
     have j1 : ¬ (m_n : Int) < (m_n : Int) := by omega
     have HE2 : Hid (fs = (x.rules.take (k + 1)).flatMap (bodyE x)) := by
      show _ = _
      rw [flat_snoc _ hy.out, ← HEs.out, HFs.out, List.take_of_length_le (by rw [Hmn.out]; exact Nat.le_refl _)]
      rfl
     go_wp2_with fail
     go_roundw
     case rel => exact ⟨k + 1, Ao, co, fs, by omega, by go_num, rfl, by omega, HE2, HOw, HB5⟩
     case measure => simp [intOf]; omega
  ·have i1 : ¬ (k : Int) < (bn : Int) := by omega
   obtain rfl : k = bn := by omega
   have hese : es = ofL x := by
    rw [HEs.out, List.take_of_length_le (by rw [Hbl.out]; exact Nat.le_refl _)]; rfl
   have hwi : ∀ e ∈ es, withinE e (an : Int) = true := fun e he => by rw [← Hal.out]; rw [hese] at he; exact of_within e he
   have han32 : an ≤ 32 := by rw [← Hal.out]; exact (formed_decl HFo.out).1
   have hsl := edges_is HOw.out rfl (by omega) (fun e he => within_ok (hwi e he) (by omega))
   have HN := Lib.hid (new_any (an : Int) Ao es.length co es wr hsl (by omega) (by omega) (by omega) hwi)
   have HG : Hid (graphN x = (an : Int) ∧ graphE x = cpE (sortE es)) := by
    unfold graphN graphE
    rw [HFo.out, Hal.out, hese, cp_puts]
    exact ⟨rfl, rfl⟩
   obtain ⟨u0, u1⟩ := HC.out wr HB.out
   have hzr := HB.out.size
   clear hsl hese hwi HOw HEs u1
   go_wp2_with fail
   refine HN.out.mono ?_
   rintro e w1 ⟨A1, k1, c1, rfl, hs1, hb1, ha1⟩
   have hz1 := hb1.size
   have hW1 : w1.heap[w.heap.size + 1]? = some (.cells #[.int .i64 0, .slice none 0 0] 31 (0, 0)) := (hb1.block _ (by omega)).trans (HR.out wr HB.out)
   have hW2 : (w1.alloc (.cells #[.int .i64 an, .slice A1 k1 c1] 31)).heap[w.heap.size + 1]? = some (.cells #[.int .i64 0, .slice none 0 0] 31 (0, 0)) := heapOld hW1
   have e0 : (w1.alloc (.cells #[.int .i64 an, .slice A1 k1 c1] 31)).cell? ⟨w1.heap.size, 0, none⟩ = some (.int .i64 an) := (cell_of_row _ _ 0 _ _ _ (heapNew (w := w1) rfl)).trans rfl
   have e1 : (w1.alloc (.cells #[.int .i64 an, .slice A1 k1 c1] 31)).cell? ⟨w1.heap.size, 1, none⟩ = some (.slice A1 k1 c1) := (cell_of_row _ _ 1 _ _ _ (heapNew (w := w1) rfl)).trans rfl
   have f0 : (w1.alloc (.cells #[.int .i64 an, .slice A1 k1 c1] 31)).cell? ⟨w.heap.size + 1, 0, none⟩ = some (.int .i64 0) := (cell_of_row _ _ 0 _ _ _ hW2).trans rfl
   have f1 : (w1.alloc (.cells #[.int .i64 an, .slice A1 k1 c1] 31)).cell? ⟨w.heap.size + 1, 1, none⟩ = some (.slice none 0 0) := (cell_of_row _ _ 1 _ _ _ hW2).trans rfl
   have z0 : (w1.alloc (.cells #[.int .i64 an, .slice A1 k1 c1] 31)).frozen? ⟨w.heap.size + 1, 0, none⟩ = false := frozen_of_row _ _ _ _ _ hW2
   have z1 : (w1.alloc (.cells #[.int .i64 an, .slice A1 k1 c1] 31)).frozen? ⟨w.heap.size + 1, 1, none⟩ = false := frozen_of_row _ _ _ _ _ hW2
   have hs2 : SliceIs Enc.edge (w1.alloc (.cells #[.int .i64 an, .slice A1 k1 c1] 31)) (w1.alloc (.cells #[.int .i64 an, .slice A1 k1 c1] 31)).heap.size A1 k1 c1 (cpE (sortE es)) := hs1.keep (belowA (Below.refl _ _) _)
   have HBw : Below w.heap.size w wr := HbV.out.trans (HB.out.mono HbV.out.size)
   have hb2 : Below w.heap.size w (w1.alloc (.cells #[.int .i64 an, .slice A1 k1 c1] 31)) := (HBw.trans (hb1.mono HBw.size)).alloc (by have := HBw.size; omega) _
   have hne : ∀ b ∈ blkOf A1, b ≠ w.heap.size + 1 := fun b hb => by have := ha1 b hb; omega
   clear hs1 hb1 ha1 hW1 HB HBw HN u0
   go_wp2_with fail
   generalize w1.alloc (.cells #[.int .i64 an, .slice A1 k1 c1] 31) = w2 at *
   have HE : Hid (P (.returned (graphV an A1 k1 c1)) ((w2.setCell ⟨w.heap.size + 1, 0, none⟩ (.int .i64 an)).setCell ⟨w.heap.size + 1, 1, none⟩ (.slice A1 k1 c1))) := by
    show P _ _
    rw [HP.out]
    unfold OfPost
    rw [HG.out.1, HG.out.2]
    refine ⟨A1, k1, c1, rfl, ?_, (hb2.setCell (show w.heap.size ≤ w.heap.size + 1 by omega) _).setCell (show w.heap.size ≤ w.heap.size + 1 by omega) _⟩
    have h1 := (hs2.set_other (o := 0) (val := .int .i64 an) hne).set_other (o := 1) (val := .slice A1 k1 c1) hne
    simpa using h1
   have g0 : ((w2.setCell ⟨w.heap.size + 1, 0, none⟩ (.int .i64 an)).setCell ⟨w.heap.size + 1, 1, none⟩ (.slice A1 k1 c1)).cell? ⟨w.heap.size + 1, 0, none⟩ = some (.int .i64 an) := by
    rw [World.cell?_setCell_other _ _ _ _ (by simp)]; exact World.cell?_setCell_same _ _ _ f0
   have g1 : ((w2.setCell ⟨w.heap.size + 1, 0, none⟩ (.int .i64 an)).setCell ⟨w.heap.size + 1, 1, none⟩ (.slice A1 k1 c1)).cell? ⟨w.heap.size + 1, 1, none⟩ = some (.slice A1 k1 c1) :=
    World.cell?_setCell_same _ _ _ ((World.cell?_setCell_other _ _ _ _ (by simp)).trans f1)
   refine bodyPost_ret (v := .agg #[.int .i64 an, .slice A1 k1 c1]) ?_ rfl HE.out
   simp [results, Tryz.results10, go_sem, g0, g1]
end Go.Proofs.YtgphngjniplonaaGreatDoor

namespace Go.Proofs.YtgphngjniplonaaGreatDoor
open Go.RowKit
def al10 : ByteArray := ⟨#[114, 101, 108, 32, 112, 40, 105, 110, 116, 41, 46, 32, 114, 101, 108, 32, 113, 40, 105, 110, 116, 41, 46, 32, 114, 101, 108, 32, 114, 40, 105, 110, 116, 41, 46, 32, 112, 40, 88, 41, 32, 58, 45, 32, 113, 40, 88, 41, 44, 32, 110, 111, 116, 32, 114, 40, 88, 41, 46]⟩
def al10L : List UInt8 := [114, 101, 108, 32, 112, 40, 105, 110, 116, 41, 46, 32, 114, 101, 108, 32, 113, 40, 105, 110, 116, 41, 46, 32, 114, 101, 108, 32, 114, 40, 105, 110, 116, 41, 46, 32, 112, 40, 88, 41, 32, 58, 45, 32, 113, 40, 88, 41, 44, 32, 110, 111, 116, 32, 114, 40, 88, 41, 46]
theorem al10_list : al10.toList = al10L := toList_mk _
def al10Y : GProg := (parseP al10L).1
theorem al10_read : ((parseP al10L).2.2, al10Y.decls.length, (putsE (ofL al10Y)).map (fun e => (e.a, e.b, e.n))) = (0, 3, [(0, 1, false), (0, 2, true)]) := by kernel_rfl
theorem al10_graph : graphN al10Y = 3 ∧ graphE al10Y = [⟨0, 1, false⟩, ⟨0, 2, true⟩] := by
 have hr := al10_read
 simp only [Prod.mk.injEq] at hr
 obtain ⟨h0, h1, h2⟩ := hr
 have hf : formedB al10Y = true := (parse_good h0).1
 unfold graphN graphE
 rw [if_pos hf, if_pos hf, h1]
 refine ⟨rfl, ?_⟩
 match hL : putsE (ofL al10Y), h2 with
 | [x, y], h2 =>
  simp only [List.map_cons, List.map_nil, List.cons.injEq, Prod.mk.injEq, and_true] at h2
  obtain ⟨⟨a1, a2, a3⟩, b1, b2, b3⟩ := h2
  cases x; cases y
  simp only at a1 a2 a3 b1 b2 b3
  subst a1 a2 a3 b1 b2 b3
  rfl
 | [], h2 => simp at h2
 | [x], h2 => simp at h2
 | x :: y :: z :: l, h2 => simp at h2
def Al10Post (w : World) (e : Ending) (w' : World) : Prop := Below w.heap.size w w' ∧ ∃ (d : Nat) (a b : Hd) (at_ : Nat), e = .returned (.tuple #[.agg #[a.v, b.v], .int .i64 at_, .nilIface]) ∧ ProgAt d w' w'.heap.size al10Y a b
theorem al10_calls (w : World) (hW : ParW w) : Calls Tryz.prog 30 #[.string al10] w (Al10Post w) := by
 refine (parse_any al10 (by decide) w hW).mono ?_
 rintro e w1 ⟨hb, d, a, b, rfl, ha, hr⟩
 have hq := al10_read
 simp only [Prod.mk.injEq] at hq
 have h0 := hq.1
 rw [← al10_list] at h0
 have hy : al10Y = (parseP al10.toList).1 := by rw [al10_list]; rfl
 refine ⟨hb, d, a, b, (parseP al10.toList).2.1, ?_, ?_⟩
 ·rw [h0]; rfl
 ·rw [hy]; exact ⟨ha.is, hr.is⟩
theorem alive10_any (w : World) (hW : ParW w) : Calls Tryz.prog 7 #[] w (RetBool true w) := by
 have HC := Lib.hid (al10_calls w hW)
 have HPW : Hid (∀ W, Below w.heap.size w W → LexW W) := fun W hb => (hW.on hb).lex
 unfold al10 at HC
 clear hW
 go_enter Tryz.func7, Tryz.ntmps7
 go_wp2_with fail
 refine HC.out.mono ?_
 rintro e w1 ⟨hb, d, ⟨aA, an, ac⟩, ⟨bA, bn, bc⟩, at_, rfl, hp⟩
 dsimp only [Hd.v] at *
 obtain ⟨V, hV⟩ : ∃ V, V = w1.alloc (.cells #[.slice aA an ac, .slice bA bn bc] 25) := ⟨_, rfl⟩
 have HVe := Lib.hid hV.symm
 have hbV : Below w1.heap.size w1 V := by rw [hV]; exact belowA (Below.refl _ _) _
 have hg : V.heap[w1.heap.size]? = some (.cells #[.slice aA an ac, .slice bA bn bc] 25 (0, 0)) := by rw [hV]; exact heapNew rfl
 obtain ⟨c0, c1⟩ := facts2 hg
 have hbw : Below w.heap.size w V := hb.trans (hbV.mono hb.size)
 have HO := Lib.hid (depsOf_any d al10Y aA an ac bA bn bc V (hp.keep hbV) (HPW.out V hbw))
 have HB := Lib.hid hbw
 clear hb hp hV hbV hg hbw HC
 go_wp2_with (rw [HVe.out])
 refine HO.out.mono ?_
 rintro e w2 ⟨A, k, c, rfl, hs, hb2⟩
 obtain ⟨hN, hE⟩ := al10_graph
 rw [hN]
 rw [hE] at hs
 have hk : k = 2 := hs.1.symm
 subst hk
 obtain ⟨b, o, x, rfl, hbb, hx, x0, x1, x2, -⟩ := hs.edge_at (i := 0) (by omega)
 obtain ⟨b', o', y, hA, hbb', hy, y0, y1, y2, -⟩ := hs.edge_at (i := 1) (by omega)
 injection hA with hA
 injection hA with e1 e2 _
 subst e1 e2
 obtain rfl : (⟨0, 1, false⟩ : GEdge) = x := by have := hx.out; simpa using this
 obtain rfl : (⟨0, 2, true⟩ : GEdge) = y := by have := hy.out; simpa using this
 dsimp only at x0 x1 x2 y0 y1 y2
 have HB2 : Hid (Below w.heap.size w w2) := HB.out.trans (hb2.mono HB.out.size)
 have q0 : (w2.alloc (.cells #[.int .i64 3, .slice (some ⟨b, o, none⟩) 2 c] 31)).cell? ⟨b, o, none⟩ = some (.int .i64 0) := by simpa using cellA (o := .cells #[.int .i64 3, .slice (some ⟨b, o, none⟩) 2 c] 31) x0
 have q1 : (w2.alloc (.cells #[.int .i64 3, .slice (some ⟨b, o, none⟩) 2 c] 31)).cell? ⟨b, o + 1, none⟩ = some (.int .i64 1) := by simpa using cellA (o := .cells #[.int .i64 3, .slice (some ⟨b, o, none⟩) 2 c] 31) x1
 have q2 : (w2.alloc (.cells #[.int .i64 3, .slice (some ⟨b, o, none⟩) 2 c] 31)).cell? ⟨b, o + 2, none⟩ = some (.bool false) := by simpa using cellA (o := .cells #[.int .i64 3, .slice (some ⟨b, o, none⟩) 2 c] 31) x2
 have q3 : (w2.alloc (.cells #[.int .i64 3, .slice (some ⟨b, o, none⟩) 2 c] 31)).cell? ⟨b, o + 3, none⟩ = some (.int .i64 0) := by simpa using cellA (o := .cells #[.int .i64 3, .slice (some ⟨b, o, none⟩) 2 c] 31) y0
 have q4 : (w2.alloc (.cells #[.int .i64 3, .slice (some ⟨b, o, none⟩) 2 c] 31)).cell? ⟨b, o + 3 + 1, none⟩ = some (.int .i64 2) := by simpa using cellA (o := .cells #[.int .i64 3, .slice (some ⟨b, o, none⟩) 2 c] 31) y1
 have q5 : (w2.alloc (.cells #[.int .i64 3, .slice (some ⟨b, o, none⟩) 2 c] 31)).cell? ⟨b, o + 3 + 2, none⟩ = some (.bool true) := by simpa using cellA (o := .cells #[.int .i64 3, .slice (some ⟨b, o, none⟩) 2 c] 31) y2
 have hq1 : ∀ W, (binOp .eql 71 (.agg #[.int .i64 0, .int .i64 1, .bool false]) (.agg #[.int .i64 0, .int .i64 1, .bool false])).run Tryz.prog W = .ok (.bool true) W := fun W => run_eql_edge ⟨0, 1, false⟩ ⟨0, 1, false⟩ W
 have hq2 : ∀ W, (binOp .eql 71 (.agg #[.int .i64 0, .int .i64 2, .bool true]) (.agg #[.int .i64 0, .int .i64 2, .bool true])).run Tryz.prog W = .ok (.bool true) W := fun W => run_eql_edge ⟨0, 2, true⟩ ⟨0, 2, true⟩ W
 clear hs hx hy hb2 x0 x1 x2 y0 y1 y2 hN hE HO c0 c1
 go_wp2_with fail
 go_ret
 exact ⟨rfl, HB2.out.alloc HB2.out.size _⟩
end Go.Proofs.YtgphngjniplonaaGreatDoor

namespace Go.Proofs.YtgphngjniplonaaGreatDoor
open Go.RowKit
theorem sameG_any (n : Int) (A B : Option Addr) (k m c d : Nat) (l : List GEdge) (w : World) (h : SliceIs Enc.edge w w.heap.size A k c l) (h2 : SliceIs Enc.edge w w.heap.size B m d l) :
    Calls Tryz.prog 9 #[graphV n A k c, .agg #[.int .i64 n, .slice B m d]] w (RetBool true w) := by
  obtain rfl : m = k := by rw [← h.1, ← h2.1]
  have mixed : Tryz.prog.follows .mixedOrders = true := by kernel_rfl
  have hn := h.bound
  obtain ⟨V, hV⟩ : ∃ V, V = (w.alloc (.cells #[.int .i64 n, .slice A m c] 31)).alloc (.cells #[.int .i64 n, .slice B m d] 35) := ⟨_, rfl⟩
  have HVe := Lib.hid hV.symm
  have hb : Below w.heap.size w V := by rw [hV]; exact belowA (belowA (Below.refl _ _) _) _
  have hr0 : V.heap[w.heap.size]? = some (.cells #[.int .i64 n, .slice A m c] 31 (0, 0)) := by rw [hV]; exact heapOld (heapNew rfl)
  have hr1 : V.heap[w.heap.size + 1]? = some (.cells #[.int .i64 n, .slice B m d] 35 (0, 0)) := by rw [hV]; exact heapNew (by simp)
  have HS := Lib.hid (h.keep hb)
  have HT := Lib.hid (h2.keep hb)
  have hgl := (Array.getElem?_eq_some_iff.1 hr0).1
  have hgl2 := (Array.getElem?_eq_some_iff.1 hr1).1
  have HC : Hid (∀ W, Below V.heap.size V W → (W.cell? ⟨w.heap.size, 0, none⟩ = some (.int .i64 n) ∧ W.cell? ⟨w.heap.size, 1, none⟩ = some (.slice A m c)) ∧ (W.cell? ⟨w.heap.size + 1, 0, none⟩ = some (.int .i64 n) ∧ W.cell? ⟨w.heap.size + 1, 1, none⟩ = some (.slice B m d))) := fun W hW =>
    ⟨facts2 ((hW.block _ hgl).trans hr0), facts2 ((hW.block _ hgl2).trans hr1)⟩
  have HB := Lib.hid hb
  obtain ⟨⟨c0, c1⟩, d0, d1⟩ := HC.out V (Below.refl _ _)
  have hyu : undef = Value.tuple #[] := rfl
  clear hV hb hr0 hr1 h h2 hyu
  go_enter Tryz.func9, Tryz.ntmps9
  go_wp2_with (rw [HVe.out])
  clear c0 c1 d0 d1
  go_loopw [5, 23] (fun _ i wr => ∃ j : Nat, j ≤ m ∧ i = .int .i64 (j : Int) ∧ Hid (Below V.heap.size V wr)) (fun _ i _ => m - (intOf i).toNat)
  case atStart => exact ⟨0, by omega, rfl, Below.refl _ _⟩
  case round =>
    obtain ⟨j, hj, rfl, HBr⟩ := hrel
    have i0 : (0 : Int) ≤ (j : Int) := by omega
    by_cases hlt : j < m
    · have i1 : (j : Int) < (m : Int) := by omega
      obtain ⟨b, o, x, rfl, -, hx, x0, x1, x2, -⟩ := (HS.out.keep HBr.out).edge_at hlt
      obtain ⟨b', o', y, rfl, -, hy, y0, y1, y2, -⟩ := (HT.out.keep HBr.out).edge_at hlt
      obtain rfl : x = y := by have := hx.out; rw [hy.out] at this; simpa using this.symm
      obtain ⟨⟨-, c1⟩, -, d1⟩ := HC.out wr HBr.out
      have HBd : Hid (Below V.heap.size V wr.drew) := Below.drew HBr.out
      clear hx hy HBr
      go_wp2_with fail
      refine drawnS mixed _ (fun W => W = wr.drew) rfl (by kernel_rfl) rfl rfl ?_
      iterate 10
        apply seqS_op
        · rintro W rfl
          go_wp2_with fail
          exact ⟨rfl, rfl, fun d hd => by cases hd; simp only [List.getElem?_toArray, List.getElem?_cons_succ, List.getElem?_cons_zero]; rfl, rfl⟩
        simp only [Act.put, List.setIfInBounds_toArray, List.set_cons_succ, List.set_cons_zero]
      apply seqS_op (v := .bool false)
      · rintro W rfl
        go_wp2_with fail
        exact ⟨rfl, rfl, fun d hd => by cases hd; simp only [List.getElem?_toArray, List.getElem?_cons_succ, List.getElem?_cons_zero], rfl⟩
      simp only [Act.put, List.setIfInBounds_toArray, List.set_cons_succ, List.set_cons_zero]
      apply seqS_end
      rintro W rfl
      go_wp2_with fail
      go_roundw
      case rel => exact ⟨j + 1, by omega, by go_num, HBd⟩
      case measure => simp [intOf]; omega
    · have i1 : ¬ (j : Int) < (m : Int) := by omega
      have HE : Hid (Below w.heap.size w wr) := HB.out.trans (HBr.out.mono HB.out.size)
      go_wp2_with fail
      go_ret
      exact ⟨rfl, HE.out⟩
end Go.Proofs.YtgphngjniplonaaGreatDoor
