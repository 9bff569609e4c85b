/- My own texts DgRo, as far as this claim needs them. -/
import Derived.Test.YtgphngjniplonaaGreatDoorZp31
import Derived.Test.YtgphngjniplonaaGreatDoorZpa8
import Derived.Test.YtgphngjniplonaaGreatDoorZpa10
set_option linter.unusedVariables false
set_option linter.unusedSimpArgs false
set_option maxRecDepth 1000000
set_option maxHeartbeats 16000000
namespace Go.Proofs.YtgphngjniplonaaGreatDoor
open Go.RowKit
theorem zruleR_info : (Tryz.prog.info? 103).map (fun i => (i.zero, i.size)) = some (some (.agg zRuleD.toArray), zRuleD.toArray.size) := by kernel_rfl
theorem ruleR_size (x : GRule) (a b : Hd) : (Tryz.prog.info? 103).map (·.size) = some (ruleC x a b).length := by
 show _ = some 6
 kernel_rfl
theorem idxI_ok {ds : List GDecl} {r : ByteArray} (h : ds.length ≤ 32) : -1 ≤ idxI (idxD ds r) ∧ idxI (idxD ds r) < 32 := by
 rcases idxD_lo ds r with ⟨h1, h2⟩ | ⟨-, h2⟩
 ·omega
 ·omega
def ROfP (x : GProg) (w : World) (e : Ending) (w' : World) : Prop :=
 ∃ A m c, e = .returned (.agg #[.int .i64 (graphN x), .slice A m c]) ∧ SliceIs Enc.edge w' w'.heap.size A m c (graphE x) ∧ Below w.heap.size w w'
theorem refOf_any (d : Nat) (x : GProg) (aA : Option Addr) (an ac : Nat) (bA : Option Addr) (bn bc : Nat) (w : World) (hx : ProgAt d w w.heap.size x ⟨aA, an, ac⟩ ⟨bA, bn, bc⟩) :
  Calls Tryz.prog 11 #[.agg (progC ⟨aA, an, ac⟩ ⟨bA, bn, bc⟩).toArray] w (ROfP x w) := by
 have mixed : Tryz.prog.follows .mixedOrders = true := by kernel_rfl
 have hbn := hx.rules.bound
 have han := hx.decls.bound
 have Hbl : Hid (x.rules.length = bn) := hx.rules.1
 have Hal : Hid (x.decls.length = an) := hx.decls.1
 obtain ⟨V, hV⟩ : ∃ V, V = (w.alloc (.cells #[.slice aA an ac, .slice bA bn bc] 40)).alloc (.cells #[.int .i64 0, .slice none 0 0] 35) := ⟨_, rfl⟩
 have HVe := Lib.hid hV.symm
 have hg : V.heap[w.heap.size]? = some (.cells #[.slice aA an ac, .slice bA bn bc] 40 (0, 0)) := by rw [hV]; exact heapOld (heapNew rfl)
 have hg2 : V.heap[w.heap.size + 1]? = some (.cells #[.int .i64 0, .slice none 0 0] 35 (0, 0)) := by rw [hV]; exact heapNew (by simp)
 have hbV : Below w.heap.size w V := by rw [hV]; exact belowA (belowA (Below.refl _ _) _) _
 have hgl := (Array.getElem?_eq_some_iff.1 hg).1
 have hgl2 := (Array.getElem?_eq_some_iff.1 hg2).1
 have HbV := Lib.hid hbV
 obtain ⟨c0, c1⟩ := facts2 hg
 have HRule : Hid (∀ k, k < bn → ∃ (rb ro : Nat) (y : GRule) (aA2 : Option Addr) (an2 ac2 : Nat) (mA : Option Addr) (mn mc : Nat), bA = some ⟨rb, ro, none⟩ ∧ Hid (x.rules[k]? = some y) ∧ Hid (∀ W, Below w.heap.size w W → RuleAt d W W.heap.size y ⟨aA2, an2, ac2⟩ ⟨mA, mn, mc⟩) ∧ Hid (∀ W, Below w.heap.size w W → ∀ j' v, (ruleC y ⟨aA2, an2, ac2⟩ ⟨mA, mn, mc⟩)[j']? = some v → W.cell? ⟨rb, ro + k * 6 + j', none⟩ = some v)) := fun k hk => by
  obtain ⟨rb, ro, y, cs, hbA, hrb, hy, ⟨a, m, rfl, hyV⟩, hcsV⟩ := hx.rules.cells_at hk
  exact ⟨rb, ro, y, a.A, a.n, a.c, m.A, m.n, m.c, hbA, hy, fun W hW => hyV.keep hW, fun W hW j' v hv => (hW.cell (p := ⟨rb, ro + k * 6 + j', none⟩) hrb).trans (hcsV j' v hv)⟩
 have HF := Lib.hid (refFormed_any d x ⟨aA, an, ac⟩ ⟨bA, bn, bc⟩ V (hx.keep hbV))
 have HI : Hid (∀ W r, Below w.heap.size w W → Calls Tryz.prog 35 #[.agg #[.slice aA an ac, .slice bA bn bc], .string r] W (IdxRet x.decls r W)) := fun W r hW => tyRefIndex_any aA an ac _ x.decls r W ((hx.keep hW).decls)
 obtain ⟨P, HP⟩ : ∃ P : Ending → World → Prop, Hid (P = ROfP x w) := ⟨_, rfl⟩
 rw [← HP.out]
 have HFin : Hid (∀ W A' m' c', SliceIs Enc.edge W W.heap.size A' m' c' (graphE x) → Below w.heap.size w W → P (.returned (.agg #[.int .i64 (graphN x), .slice A' m' c'])) W) := fun W A' m' c' h1 h2 => by
  show P _ _
  rw [HP.out]
  exact ⟨A', m', c', rfl, h1, h2⟩
 clear hx hV hbV HP
 go_enter Tryz.func11, Tryz.ntmps11
 go_wp2_with (rw [HVe.out])
 refine HF.out.mono ?_
 rintro e w1 ⟨rfl, hb1⟩
 have hw1g := (hb1.block _ hgl).trans hg
 have hw1g2 := (hb1.block _ hgl2).trans hg2
 have HB1 : Hid (Below w.heap.size w w1) := HbV.out.trans (hb1.mono HbV.out.size)
 have hzz : w.heap.size + 1 < w1.heap.size := by have := hb1.size; omega
 have HG1 := Lib.hid hw1g
 have HG2 := Lib.hid hw1g2
 clear hb1 HF hg hg2 hgl hgl2 HbV
 cases hfo : formedB x with
 | false =>
  have f0 : w1.cell? ⟨w.heap.size + 1, 0, none⟩ = some (.int .i64 0) := (cell_of_row _ _ 0 _ _ _ hw1g2).trans rfl
  have f1 : w1.cell? ⟨w.heap.size + 1, 1, none⟩ = some (.slice none 0 0) := (cell_of_row _ _ 1 _ _ _ hw1g2).trans rfl
  have z0 : w1.frozen? ⟨w.heap.size + 1, 0, none⟩ = false := frozen_of_row _ _ _ _ _ hw1g2
  have z1 : w1.frozen? ⟨w.heap.size + 1, 1, none⟩ = false := frozen_of_row _ _ _ _ _ hw1g2
  have g0 : ((w1.setCell ⟨w.heap.size + 1, 0, none⟩ (.int .i64 0)).setCell ⟨w.heap.size + 1, 1, none⟩ (.slice none 0 0)).cell? ⟨w.heap.size + 1, 0, none⟩ = some (.int .i64 0) := by
   rw [World.cell?_setCell_other _ _ _ _ (by simp)]; exact World.cell?_setCell_same _ _ _ f0
  have g1 : ((w1.setCell ⟨w.heap.size + 1, 0, none⟩ (.int .i64 0)).setCell ⟨w.heap.size + 1, 1, none⟩ (.slice none 0 0)).cell? ⟨w.heap.size + 1, 1, none⟩ = some (.slice none 0 0) :=
   World.cell?_setCell_same _ _ _ ((World.cell?_setCell_other _ _ _ _ (by simp)).trans f1)
  have HE : Hid (P (.returned (.agg #[.int .i64 0, .slice none 0 0])) ((w1.setCell ⟨w.heap.size + 1, 0, none⟩ (.int .i64 0)).setCell ⟨w.heap.size + 1, 1, none⟩ (.slice none 0 0))) := by
   have hh := HFin.out ((w1.setCell ⟨w.heap.size + 1, 0, none⟩ (.int .i64 0)).setCell ⟨w.heap.size + 1, 1, none⟩ (.slice none 0 0)) none 0 0
   have hN : graphN x = 0 := by unfold graphN; rw [if_neg (by rw [hfo]; decide)]
   have hE : graphE x = [] := by unfold graphE; rw [if_neg (by rw [hfo]; decide)]
   rw [hN, hE] at hh
   exact hh SliceIs.nil ((HB1.out.setCell (show w.heap.size ≤ w.heap.size + 1 by omega) _).setCell (show w.heap.size ≤ w.heap.size + 1 by omega) _)
  clear hfo hw1g hw1g2 HFin c0 c1
  go_wp2_with fail
  refine bodyPost_ret (v := .agg #[.int .i64 0, .slice none 0 0]) ?_ rfl HE.out
  simp [results, Tryz.results11, go_sem, g0, g1]
 | true =>
 have HFo := Lib.hid hfo
 have hN : graphN x = (an : Int) := by unfold graphN; rw [if_pos hfo, Hal.out]
 have hE : graphE x = putsE (ofL x) := by unfold graphE; rw [if_pos hfo]
 have HFin2 : Hid (∀ W A' m' c', SliceIs Enc.edge W W.heap.size A' m' c' (putsE (ofL x)) → Below w.heap.size w W → P (.returned (.agg #[.int .i64 an, .slice A' m' c'])) W) := fun W A' m' c' h1 h2 => by
  have := HFin.out W A' m' c' (by rw [hE]; exact h1) h2
  rwa [hN] at this
 have hbn64 : bn ≤ 64 := by have := (formed_rules hfo).1; rw [← Hbl.out]; exact this
 have HD32 : Hid (x.decls.length ≤ 32) := (formed_decl hfo).1
 have c2 : w1.cell? ⟨w.heap.size, 0, none⟩ = some (.slice aA an ac) := (cell_of_row _ _ 0 _ _ _ hw1g).trans rfl
 clear hfo c0 c1 hN hE HFin hw1g hw1g2
 go_wp2_with fail
 clear c2
 have HG3 : Hid ((w1.alloc (.cells #[.int .i64 an, .slice none 0 0] 35)).heap[w1.heap.size]? = some (.cells #[.int .i64 an, .slice none 0 0] 35 (0, 0))) := heapNew rfl
 have HG1' : Hid ((w1.alloc (.cells #[.int .i64 an, .slice none 0 0] 35)).heap[w.heap.size]? = some (.cells #[.slice aA an ac, .slice bA bn bc] 40 (0, 0))) := heapOld HG1.out
 have HG2' : Hid ((w1.alloc (.cells #[.int .i64 an, .slice none 0 0] 35)).heap[w.heap.size + 1]? = some (.cells #[.int .i64 0, .slice none 0 0] 35 (0, 0))) := heapOld HG2.out
 have HB1' : Hid (Below w.heap.size w (w1.alloc (.cells #[.int .i64 an, .slice none 0 0] 35))) := HB1.out.alloc HB1.out.size _
 have hvz : w1.heap.size < (w1.alloc (.cells #[.int .i64 an, .slice none 0 0] 35)).heap.size := by simp
 clear HG1 HG2 HB1
 generalize w1.alloc (.cells #[.int .i64 an, .slice none 0 0] 35) = V2 at *
 obtain ⟨vz, hvze⟩ : ∃ vz, Hid (vz = V2.heap.size) := ⟨_, rfl⟩
 have hvz3 : w1.heap.size < vz := by rw [hvze.out]; exact hvz
 have hvz4 : vz ≤ V2.heap.size := by rw [hvze.out]; exact Nat.le_refl _
 clear hvz hvze
 have h12 : w.heap.size < w.heap.size + 1 := by omega
 generalize w1.heap.size = g3 at *
 generalize w.heap.size + 1 = g2 at *
 generalize w.heap.size = g1 at *
 go_loopw [4] (fun i wr => ∃ (k : Nat) (Ao : Option Addr) (fs co : Nat) (es : List GEdge), k ≤ bn ∧ i = .int .i64 (k : Int) ∧ fs ≤ 8 * k ∧ Hid (es = (x.rules.take k).flatMap (bodyE x)) ∧ Hid (wr.heap[g3]? = some (.cells #[.int .i64 an, .slice Ao fs co] 35 (0, 0))) ∧ Hid (wr.heap[g2]? = some (.cells #[.int .i64 0, .slice none 0 0] 35 (0, 0))) ∧ Hid (wr.heap[g1]? = some (.cells #[.slice aA an ac, .slice bA bn bc] 40 (0, 0))) ∧ Hid (SliceIs Enc.edge wr wr.heap.size Ao fs co (putsE es)) ∧ Hid (∀ b' ∈ blkOf Ao, vz ≤ b') ∧ Hid (Below g1 w wr) ∧ vz ≤ wr.heap.size) (fun i _ => bn - (intOf i).toNat)
 case atStart => exact ⟨0, none, 0, 0, [], by omega, rfl, by omega, rfl, HG3, HG2', HG1', SliceIs.nil, (fun b' hb' => by cases hb'), HB1', hvz4⟩
 case round =>
  clear HG3 HG2' HG1' HB1' hvz4
  obtain ⟨k, Ao, fs, co, es, hk, rfl, hfs, HEs, HR3, HR2, HR1, HSl, HAo, HB, hz⟩ := hrel
  have i0 : (0 : Int) ≤ (k : Int) := by omega
  have c1 : wr.cell? ⟨g1, 1, none⟩ = some (.slice bA bn bc) := (cell_of_row _ _ 1 _ _ _ HR1.out).trans rfl
  by_cases hlt : k < bn
  ·have i1 : (k : Int) < (bn : Int) := by omega
   obtain ⟨rb, ro, y, a_A, a_n, a_c, m_A, m_n, m_c, rfl, hy, HRA, HCr⟩ := HRule.out k hlt
   have hym := List.mem_of_getElem? hy.out
   have hry := (formed_rules HFo.out).2 y hym
   have HCs : Hid (∀ j' v, (ruleC y ⟨a_A, a_n, a_c⟩ ⟨m_A, m_n, m_c⟩)[j']? = some v → wr.cell? ⟨rb, ro + k * 6 + j', none⟩ = some v) := HCr.out wr HB.out
   obtain ⟨U, hU⟩ : ∃ U, U = wr.alloc (.cells (ruleC y ⟨a_A, a_n, a_c⟩ ⟨m_A, m_n, m_c⟩).toArray 103) := ⟨_, rfl⟩
   have HUe := Lib.hid hU.symm
   have hbU : Below wr.heap.size wr U := by rw [hU]; exact belowA (Below.refl _ _) _
   have hrU : U.heap[wr.heap.size]? = some (.cells (ruleC y ⟨a_A, a_n, a_c⟩ ⟨m_A, m_n, m_c⟩).toArray 103 (0, 0)) := by rw [hU]; exact heapNew rfl
   have hzU : wr.heap.size < U.heap.size := (Array.getElem?_eq_some_iff.1 hrU).1
   have hbl : ∀ b, b < wr.heap.size → U.heap[b]? = wr.heap[b]? := fun b hb => hbU.block b hb
   have HU3 : Hid (U.heap[g3]? = some (.cells #[.int .i64 an, .slice Ao fs co] 35 (0, 0))) := (hbl _ (Array.getElem?_eq_some_iff.1 HR3.out).1).trans HR3.out
   have HU2 : Hid (U.heap[g2]? = some (.cells #[.int .i64 0, .slice none 0 0] 35 (0, 0))) := (hbl _ (Array.getElem?_eq_some_iff.1 HR2.out).1).trans HR2.out
   have HU1 : Hid (U.heap[g1]? = some (.cells #[.slice aA an ac, .slice (some ⟨rb, ro, none⟩) bn bc] 40 (0, 0))) := (hbl _ (Array.getElem?_eq_some_iff.1 HR1.out).1).trans HR1.out
   have HUS : Hid (SliceIs Enc.edge U U.heap.size Ao fs co (putsE es)) := HSl.out.keep hbU
   have HBU : Hid (Below g1 w U) := HB.out.trans (hbU.mono (by omega))
   have HUR : Hid (U.heap[wr.heap.size]? = some (.cells (ruleC y ⟨a_A, a_n, a_c⟩ ⟨m_A, m_n, m_c⟩).toArray 103 (0, 0))) := hrU
   have Hmn : Hid (y.body.length = m_n) := (HRA.out wr HB.out).body.1
   have hmn8 : m_n ≤ 8 := by rw [← Hmn.out]; exact (right_body hry).1
   have Hry := Lib.hid hry
   have HIy : Hid (∀ W, Below g1 w W → Calls Tryz.prog 35 #[.agg #[.slice aA an ac, .slice (some ⟨rb, ro, none⟩) bn bc], .string y.head.rel] W (IdxRet x.decls y.head.rel W)) := fun W hW => HI.out W y.head.rel hW
   obtain ⟨fr, Hfr⟩ : ∃ fr, Hid (idxI (idxD x.decls y.head.rel) = fr) := ⟨_, rfl⟩
   have hfrb : -1 ≤ fr ∧ fr < 32 := by rw [← Hfr.out]; exact idxI_ok HD32.out
   have hzU2 : vz ≤ U.heap.size := by omega
   have hgz : wr.heap.size ≥ vz := hz
   obtain ⟨g5, Hg5⟩ : ∃ g5, Hid (g5 = wr.heap.size) := ⟨_, rfl⟩
   have hg5 : vz ≤ g5 := by rw [Hg5.out]; exact hz
   clear hU hbU hrU hry hym hzU hbl
   go_wp2_with (first
    | rw [HUe.out]
    | refine wpList_load_at rb (ro + k * 6) (ruleC y ⟨a_A, a_n, a_c⟩ ⟨m_A, m_n, m_c⟩) _ HCs.out Tryz.underlying103 rfl (ruleR_size _ _ _) rfl rfl ?_
    | refine wpList_new rfl rfl 103 5 (.tmp 28) rfl rfl rfl rfl _ (ruleC y ⟨a_A, a_n, a_c⟩ ⟨m_A, m_n, m_c⟩).toArray zruleR_info rfl (ruleD_one _ _ _) rfl rfl ?_)
   rw [← Hg5.out] at HUR ⊢
   clear HUe HCs c1 HR3 HR2 HR1 HSl HB
   obtain ⟨es0, He0⟩ : ∃ es0, Hid (es0 = es) := ⟨_, rfl⟩
   rw [← He0.out] at HEs
   obtain ⟨fs0, hf0⟩ : ∃ fs0, fs0 = fs := ⟨_, rfl⟩
   have hfs0 : fs0 ≤ 8 * k := by omega
   go_loopw [6, 7, 8] (fun i _ _ wr => ∃ (j : Nat) (Ao : Option Addr) (fs co : Nat) (es : List GEdge), j ≤ m_n ∧ i = .int .i64 (j : Int) ∧ fs ≤ 8 * k + j ∧ Hid (es = es0 ++ (y.body.take j).flatMap (edgeY x y)) ∧ Hid (wr.heap[g3]? = some (.cells #[.int .i64 an, .slice Ao fs co] 35 (0, 0))) ∧ Hid (wr.heap[g2]? = some (.cells #[.int .i64 0, .slice none 0 0] 35 (0, 0))) ∧ Hid (wr.heap[g1]? = some (.cells #[.slice aA an ac, .slice (some ⟨rb, ro, none⟩) bn bc] 40 (0, 0))) ∧ Hid (wr.heap[g5]? = some (.cells (ruleC y ⟨a_A, a_n, a_c⟩ ⟨m_A, m_n, m_c⟩).toArray 103 (0, 0))) ∧ Hid (SliceIs Enc.edge wr wr.heap.size Ao fs co (putsE es)) ∧ Hid (∀ b' ∈ blkOf Ao, vz ≤ b') ∧ Hid (Below g1 w wr) ∧ vz ≤ wr.heap.size) (fun i _ _ _ => m_n - (intOf i).toNat)
   case atStart => exact ⟨0, Ao, fs, co, es, by omega, rfl, by omega, by show es = es0 ++ _; rw [He0.out]; simp, HU3, HU2, HU1, HUR, HUS, HAo, HBU, hzU2⟩
   case round =>
    clear HU3 HU2 HU1 HUR HUS HAo HBU hzU2 He0 hf0 hfs
    obtain ⟨j, Ao, fs, co, es, hj, rfl, hfs, HE2, HR3, HR2, HR1, HR5, HSl, HAo, HB, hz⟩ := hrel
    have j0 : (0 : Int) ≤ (j : Int) := by omega
    have hR5 := facts6 HR5.out
    obtain ⟨y0, -, y2, -, y4, -⟩ := hR5
    dsimp only [Hd.v] at y4
    by_cases hjl : j < m_n
    ·have j1 : (j : Int) < (m_n : Int) := by omega
     obtain ⟨bb, o, z, a', p', q', hmA, hbb, hz5, hlz, Hr⟩ := (HRA.out wr HB.out).body.lit_range hjl
     dsimp only at hmA
     subst hmA
     have HK : Hid (∀ W, Below wr.heap.size wr W → (W.cell? ⟨g1, 0, none⟩ = some (.slice aA an ac) ∧ W.cell? ⟨g1, 1, none⟩ = some (.slice (some ⟨rb, ro, none⟩) bn bc)) ∧ W.cell? ⟨g5, 0, none⟩ = some (.string y.head.rel) ∧ W.cell? ⟨g5, 4, none⟩ = some (.slice (some ⟨bb, o, none⟩) m_n m_c) ∧ W.cell? ⟨bb, o + j * 17 + 1, none⟩ = some (.string z.atom.rel)) := fun W hW =>
      ⟨⟨below_cell hW ((cell_of_row _ _ 0 _ _ _ HR1.out).trans rfl), below_cell hW ((cell_of_row _ _ 1 _ _ _ HR1.out).trans rfl)⟩, below_cell hW y0, below_cell hW y4, below_cell hW (Hr.out 1 _ rfl)⟩
     have q00 : wr.cell? ⟨bb, o + j * 17, none⟩ = some (.int .i64 z.k) := by simpa using Hr.out 0 _ rfl
     have HQ0 := Lib.hid q00
     have HY2 := Lib.hid y2
     have HY4 := Lib.hid y4
     obtain ⟨ux, Hux⟩ : ∃ ux, Hid (idxI (idxD x.decls z.atom.rel) = ux) := ⟨_, rfl⟩
     have huxb : -1 ≤ ux ∧ ux < 32 := by rw [← Hux.out]; exact idxI_ok HD32.out
     have HI1 : Hid (∀ W, Below wr.heap.size wr W → Calls Tryz.prog 35 #[.agg #[.slice aA an ac, .slice (some ⟨rb, ro, none⟩) bn bc], .string y.head.rel] W (IdxRet x.decls y.head.rel W)) := fun W hW => HIy.out W (HB.out.trans (hW.mono (by omega)))
     have HI2 : Hid (∀ W, Below wr.heap.size wr W → Calls Tryz.prog 35 #[.agg #[.slice aA an ac, .slice (some ⟨rb, ro, none⟩) bn bc], .string z.atom.rel] W (IdxRet x.decls z.atom.rel W)) := fun W hW => HI.out W z.atom.rel (HB.out.trans (hW.mono (by omega)))
     have HT : Hid ((y.body.take (j + 1)).flatMap (edgeY x y) = (y.body.take j).flatMap (edgeY x y) ++ edgeY x y z) := flat_snoc _ hz5.out
     have HCmp : Hid (z.k = 3 → edgeY x y z = []) := fun h3 => edgeY_cmp HFo.out (List.mem_of_getElem? hy.out) (List.mem_of_getElem? hz5.out) h3
     clear hlz q00 y0 y2 hz5 Hr
     go_wp2_with fail
     clear y4
     have hyu : undef = Value.tuple #[] := rfl
     refine drawnS mixed _ (Below wr.heap.size wr) rfl (by kernel_rfl) rfl (Below.drew (Below.refl _ _)) ?_
     iterate 4
      apply seqS_op
      ·intro W hW
       obtain ⟨⟨p0, p1⟩, y0, y4, q1⟩ := HK.out W hW
       go_wp2_with fail
       exact ⟨rfl, rfl, fun d hd => by cases hd; simp only [List.getElem?_toArray, List.getElem?_cons_succ, List.getElem?_cons_zero]; rfl, hW⟩
      simp only [Act.put, List.setIfInBounds_toArray, List.set_cons_succ, List.set_cons_zero]
     apply seqS_op
     ·intro W hW
      go_wp2_with fail
      refine (HI1.out W hW).mono ?_
      rintro e w1 ⟨rfl, hb1⟩
      rw [Hfr.out]
      go_wp2_with fail
      exact ⟨rfl, rfl, fun d hd => by cases hd; simp only [List.getElem?_toArray, List.getElem?_cons_succ, List.getElem?_cons_zero]; rfl, hW.trans (hb1.mono hW.size)⟩
     simp only [Act.put, List.setIfInBounds_toArray, List.set_cons_succ, List.set_cons_zero]
     iterate 8
      apply seqS_op
      ·intro W hW
       obtain ⟨⟨p0, p1⟩, y0, y4, q1⟩ := HK.out W hW
       go_wp2_with fail
       exact ⟨rfl, rfl, fun d hd => by cases hd; simp only [List.getElem?_toArray, List.getElem?_cons_succ, List.getElem?_cons_zero]; rfl, hW⟩
      simp only [Act.put, List.setIfInBounds_toArray, List.set_cons_succ, List.set_cons_zero]
     apply seqS_op
     ·intro W hW
      go_wp2_with fail
      refine (HI2.out W hW).mono ?_
      rintro e w1 ⟨rfl, hb1⟩
      rw [Hux.out]
      go_wp2_with fail
      exact ⟨rfl, rfl, fun d hd => by cases hd; simp only [List.getElem?_toArray, List.getElem?_cons_succ, List.getElem?_cons_zero]; rfl, hW.trans (hb1.mono hW.size)⟩
     simp only [Act.put, List.setIfInBounds_toArray, List.set_cons_succ, List.set_cons_zero]
     iterate 2
      apply seqS_op
      ·intro W hW
       obtain ⟨⟨p0, p1⟩, y0, y4, q1⟩ := HK.out W hW
       go_wp2_with fail
       exact ⟨rfl, rfl, fun d hd => by cases hd; simp only [List.getElem?_toArray, List.getElem?_cons_succ, List.getElem?_cons_zero]; rfl, hW⟩
      simp only [Act.put, List.setIfInBounds_toArray, List.set_cons_succ, List.set_cons_zero]
     clear hyu
     apply seqS_end
     intro X hX
     have HBX : Hid (Below g1 w X) := HB.out.trans (hX.mono (by omega))
     have hzX : vz ≤ X.heap.size := Nat.le_trans hz hX.size
     have hbl : ∀ b, b < wr.heap.size → X.heap[b]? = wr.heap[b]? := fun b hb => hX.block b hb
     have HX3 : Hid (X.heap[g3]? = some (.cells #[.int .i64 an, .slice Ao fs co] 35 (0, 0))) := (hbl _ (Array.getElem?_eq_some_iff.1 HR3.out).1).trans HR3.out
     have HX2 : Hid (X.heap[g2]? = some (.cells #[.int .i64 0, .slice none 0 0] 35 (0, 0))) := (hbl _ (Array.getElem?_eq_some_iff.1 HR2.out).1).trans HR2.out
     have HX1 : Hid (X.heap[g1]? = some (.cells #[.slice aA an ac, .slice (some ⟨rb, ro, none⟩) bn bc] 40 (0, 0))) := (hbl _ (Array.getElem?_eq_some_iff.1 HR1.out).1).trans HR1.out
     have HX5 : Hid (X.heap[g5]? = some (.cells (ruleC y ⟨a_A, a_n, a_c⟩ ⟨some ⟨bb, o, none⟩, m_n, m_c⟩).toArray 103 (0, 0))) := (hbl _ (Array.getElem?_eq_some_iff.1 HR5.out).1).trans HR5.out
     have HXS : Hid (SliceIs Enc.edge X X.heap.size Ao fs co (putsE es)) := HSl.out.keep hX
     have q0 := below_cell hX HQ0.out
     have y2 := below_cell hX HY2.out
     have y4 := below_cell hX HY4.out
     have z3 : X.cell? ⟨g3, 1, none⟩ = some (.slice Ao fs co) := (cell_of_row _ _ 1 _ _ _ HX3.out).trans rfl
     have hg3X := (Array.getElem?_eq_some_iff.1 HX3.out).1
     clear hX hbl HK HI1 HI2 HQ0 HY2 HY4 HR3 HR2 HR1 HR5 HSl HB hz
     by_cases hc : z.k = 3 ∨ fr < 0 ∨ ux < 0
     ·have HNo : Hid (edgeY x y z = []) := by
       rcases hc with h | h | h
       ·exact HCmp.out h
       ·exact edgeY_none (.inl (by rw [Hfr.out]; exact h))
       ·exact edgeY_none (.inr (by rw [Hux.out]; exact h))
      have HF2 : Hid (es = es0 ++ (y.body.take (j + 1)).flatMap (edgeY x y)) := by show _ = _; rw [HT.out, HNo.out, List.append_nil]; exact HE2.out
      clear HNo HT HE2 HCmp
      by_cases h3 : z.k = 3
      ·have e3 : (z.k != 3) = false := by simp [h3]
       clear hc
       go_wp2_with fail
       go_roundw
       case rel => exact ⟨j + 1, Ao, fs, co, es, by omega, by go_num, by omega, HF2, HX3, HX2, HX1, HX5, HXS, HAo, HBX, hzX⟩
       case measure => simp [intOf]; omega
      ·have e3 : (z.k != 3) = true := by simp [h3]
       by_cases h1 : fr < 0
       ·have e1 : ¬ (0 : Int) ≤ fr := by omega
        clear hc
        go_wp2_with fail
        go_roundw
        case rel => exact ⟨j + 1, Ao, fs, co, es, by omega, by go_num, by omega, HF2, HX3, HX2, HX1, HX5, HXS, HAo, HBX, hzX⟩
        case measure => simp [intOf]; omega
       ·have e1 : (0 : Int) ≤ fr := by omega
        have e2 : ¬ (0 : Int) ≤ ux := by omega
        clear hc
        go_wp2_with fail
        go_roundw
        case rel => exact ⟨j + 1, Ao, fs, co, es, by omega, by go_num, by omega, HF2, HX3, HX2, HX1, HX5, HXS, HAo, HBX, hzX⟩
        case measure => simp [intOf]; omega
     ·have h3 : z.k ≠ 3 := fun h => hc (.inl h)
      have e1 : (0 : Int) ≤ fr := by omega
      have e2 : (0 : Int) ≤ ux := by omega
      have e3 : (z.k != 3) = true := by simp [h3]
      have HYes : Hid (edgeY x y z = [⟨fr, ux, decide (z.k = 2) || decide (0 < y.agg)⟩]) := by
       show _ = _
       rw [edgeY_some (by rw [Hfr.out]; exact e1) (by rw [Hux.out]; exact e2), Hfr.out, Hux.out]
      have HEs2 : Hid (es = es0 ++ (y.body.take j).flatMap (edgeY x y)) := HE2.out
      have HPut0 : Hid (∀ (nb : Bool) W, Below X.heap.size X W → Calls Tryz.prog 16 #[.slice Ao fs co, (GEdge.v ⟨fr, ux, nb⟩)] W (RPutP Ao (putsE es) ⟨fr, ux, nb⟩ W)) := fun nb W hW => refPutE_any Ao fs co _ ⟨fr, ux, nb⟩ W (HXS.out.keep hW) (by omega) ⟨fits_sm (show _ by dsimp only; omega), fits_sm (show _ by dsimp only; omega)⟩
      clear hc HE2 HCmp
      have HEs9 := HEs2
      have HR3 := HX3
      have HR2 := HX2
      have HR1 := HX1
      have HR5 := HX5
      have HSl := HXS
      clear HEs2 HX3 HX2 HX1 HX5 HXS
      go_wp2_with fail
      by_cases hag : 0 < y.agg
      ·skip
       have HPut : Hid (∀ W, Below X.heap.size X W → Calls Tryz.prog 16 #[.slice Ao fs co, (GEdge.v ⟨fr, ux, true⟩)] W (RPutP Ao (putsE es) ⟨fr, ux, true⟩ W)) := HPut0.out true
       have HEs : Hid (es = es0 ++ (y.body.take j).flatMap (edgeY x y)) := HEs9.out
       clear HPut0
       refine drawnH mixed 19 85 [65, 66, 67, 68, 69, 70, 71, 72, 73, 74, 75, 76, 77, 78, 79, 80, 81, 82, 83] [some (.pointer (some ⟨g3, 1, none⟩)), some (.slice Ao fs co), some (.int .i64 fr), some (.int .i64 ux), some (.pointer (some ⟨g5, 2, none⟩)), some (.int .i64 y.agg), some (.bool true), some (.bool true), some (undef), some (undef), some (undef), some (undef), some (undef), some (undef), some (undef), some (.bool true), some ((GEdge.v ⟨fr, ux, true⟩)), none, some (.pointer (some ⟨g3, 1, none⟩))] (fun i v W => ∃ A2 m2 c2, v = .slice A2 m2 c2 ∧ SliceIs Enc.edge W W.heap.size A2 m2 c2 (putE (putsE es) ⟨fr, ux, true⟩) ∧ ∀ b' ∈ blkOf A2, vz ≤ b') rfl (by kernel_rfl) (by kernel_rfl) rfl (fun i v W W' h hb => by obtain ⟨A2, m2, c2, h1, h2, h3⟩ := h; exact ⟨A2, m2, c2, h1, h2.keep hb, h3⟩) ?_ ?_
       ·intro i o2 a2 W hi ho hd hold hG hw
        have hr1 : a2.tmps[1]? = some (.pointer (some ⟨g1, 0, none⟩)) := hold 1 (by kernel_rfl)
        have hr3 : a2.tmps[3]? = some (.pointer (some ⟨g3, 0, none⟩)) := hold 3 (by kernel_rfl)
        have hr5 : a2.tmps[5]? = some (.pointer (some ⟨g5, 0, none⟩)) := hold 5 (by kernel_rfl)
        have hr6 : a2.tmps[6]? = some (.int .i64 (j : Int)) := hold 6 (by kernel_rfl)
        have hr7 : a2.tmps[7]? = some (.int .i64 fr) := hold 7 (by kernel_rfl)
        have hr8 : a2.tmps[8]? = some (.int .i64 ux) := hold 8 (by kernel_rfl)
        clear hold
        match i, hi, ho with
        | 0, _, ho =>
         injection ho with ho; subst ho
         exact .inl ⟨rfl, op_val _ (by simp [execOp, Act.eval, hr3, go_sem]) ⟨_, rfl, Below.refl _ _, rfl⟩⟩
        | 1, _, ho =>
         obtain ⟨v0, h0, e0⟩ := hw 0 65 (by kernel_rfl)
         obtain rfl : v0 = .pointer (some ⟨g3, 1, none⟩) := e0
         injection ho with ho; subst ho
         exact .inl ⟨rfl, op_val _ (by simp [execOp, Act.eval, h0, run_load1 Tryz.underlying33 (below_cell hG z3)]) ⟨_, rfl, Below.refl _ _, rfl⟩⟩
        | 2, _, ho =>
         injection ho with ho; subst ho
         exact .inl ⟨rfl, op_val _ (by simp [execOp, Act.eval, hr7, go_sem]) ⟨_, rfl, Below.refl _ _, rfl⟩⟩
        | 3, _, ho =>
         injection ho with ho; subst ho
         exact .inl ⟨rfl, op_val _ (by simp [execOp, Act.eval, hr8, go_sem]) ⟨_, rfl, Below.refl _ _, rfl⟩⟩
        | 4, _, ho =>
         injection ho with ho; subst ho
         exact .inl ⟨rfl, op_val _ (by simp [execOp, Act.eval, hr5, go_sem]) ⟨_, rfl, Below.refl _ _, rfl⟩⟩
        | 5, _, ho =>
         obtain ⟨v4, h4, e4⟩ := hw 4 69 (by kernel_rfl)
         obtain rfl : v4 = .pointer (some ⟨g5, 2, none⟩) := e4
         injection ho with ho; subst ho
         exact .inl ⟨rfl, op_val _ (by simp [execOp, Act.eval, h4, go_sem, below_cell hG y2]) ⟨_, rfl, Below.refl _ _, rfl⟩⟩
        | 6, _, ho =>
         obtain ⟨v5, h5, e5⟩ := hw 5 70 (by kernel_rfl)
         obtain rfl : v5 = .int .i64 y.agg := e5
         injection ho with ho; subst ho
         exact .inl ⟨rfl, op_val _ (by simp [execOp, Act.eval, h5, go_sem, hag]) ⟨_, rfl, Below.refl _ _, rfl⟩⟩
        | 7, _, ho =>
         obtain ⟨v6, h6, e6⟩ := hw 6 71 (by kernel_rfl)
         obtain rfl : v6 = .bool true := e6
         injection ho with ho; subst ho
         exact .inl ⟨rfl, op_val _ (by simp [execOp, Act.eval, h6, go_sem]) ⟨_, rfl, Below.refl _ _, rfl⟩⟩
        | 8, _, ho =>
         obtain ⟨v7, h7, e7⟩ := hw 7 72 (by kernel_rfl)
         obtain rfl : v7 = .bool true := e7
         injection ho with ho; subst ho
         exact .inr ⟨((wanted_of rfl (by kernel_rfl) h7).trans rfl), Below.refl _ _, rfl⟩
        | 9, _, ho =>
         obtain ⟨v7, h7, e7⟩ := hw 7 72 (by kernel_rfl)
         obtain rfl : v7 = .bool true := e7
         injection ho with ho; subst ho
         exact .inr ⟨((wanted_of rfl (by kernel_rfl) h7).trans rfl), Below.refl _ _, rfl⟩
        | 10, _, ho =>
         obtain ⟨v7, h7, e7⟩ := hw 7 72 (by kernel_rfl)
         obtain rfl : v7 = .bool true := e7
         injection ho with ho; subst ho
         exact .inr ⟨((wanted_of rfl (by kernel_rfl) h7).trans rfl), Below.refl _ _, rfl⟩
        | 11, _, ho =>
         obtain ⟨v7, h7, e7⟩ := hw 7 72 (by kernel_rfl)
         obtain rfl : v7 = .bool true := e7
         injection ho with ho; subst ho
         exact .inr ⟨((wanted_of rfl (by kernel_rfl) h7).trans rfl), Below.refl _ _, rfl⟩
        | 12, _, ho =>
         obtain ⟨v7, h7, e7⟩ := hw 7 72 (by kernel_rfl)
         obtain rfl : v7 = .bool true := e7
         injection ho with ho; subst ho
         exact .inr ⟨((wanted_of rfl (by kernel_rfl) h7).trans rfl), Below.refl _ _, rfl⟩
        | 13, _, ho =>
         obtain ⟨v7, h7, e7⟩ := hw 7 72 (by kernel_rfl)
         obtain rfl : v7 = .bool true := e7
         injection ho with ho; subst ho
         exact .inr ⟨((wanted_of rfl (by kernel_rfl) h7).trans rfl), Below.refl _ _, rfl⟩
        | 14, _, ho =>
         obtain ⟨v7, h7, e7⟩ := hw 7 72 (by kernel_rfl)
         obtain rfl : v7 = .bool true := e7
         injection ho with ho; subst ho
         exact .inr ⟨((wanted_of rfl (by kernel_rfl) h7).trans rfl), Below.refl _ _, rfl⟩
        | 15, _, ho =>
         obtain ⟨v7, h7, e7⟩ := hw 7 72 (by kernel_rfl)
         obtain rfl : v7 = .bool true := e7
         injection ho with ho; subst ho
         exact .inl ⟨rfl, op_val _ (by simp [execOp, Act.eval, h7, go_sem]) ⟨_, rfl, Below.refl _ _, rfl⟩⟩
        | 16, _, ho =>
         obtain ⟨v2, h2, e2⟩ := hw 2 67 (by kernel_rfl)
         obtain rfl : v2 = .int .i64 fr := e2
         obtain ⟨v3, h3, e3⟩ := hw 3 68 (by kernel_rfl)
         obtain rfl : v3 = .int .i64 ux := e3
         obtain ⟨v15, h15, e15⟩ := hw 15 80 (by kernel_rfl)
         obtain rfl : v15 = .bool true := e15
         injection ho with ho; subst ho
         exact .inl ⟨rfl, op_build 49 _ rfl [(0, .int .i64 fr), (1, .int .i64 ux), (2, .bool true)] (GEdge.cells ⟨fr, ux, true⟩).toArray (by simp [Act.eval, h2, h3, h15]) (by kernel_rfl) ⟨_, rfl, Below.refl _ _, rfl⟩⟩
        | 17, _, ho =>
         obtain ⟨v1, h1, e1⟩ := hw 1 66 (by kernel_rfl)
         obtain rfl : v1 = .slice Ao fs co := e1
         obtain ⟨v16, h16, e16⟩ := hw 16 81 (by kernel_rfl)
         obtain rfl : v16 = (GEdge.v ⟨fr, ux, true⟩) := e16
         injection ho with ho; subst ho
         refine .inl ⟨rfl, op_call 16 _ rfl rfl #[.slice Ao fs co, (GEdge.v ⟨fr, ux, true⟩)] (by simp [Act.eval, h1, h16]) _ Tryz.func16 (by kernel_rfl) (by kernel_rfl) ((HPut.out W hG).mono ?_)⟩
         rintro r w' ⟨A2, m2, c2, rfl, hs, hb, ha⟩
         exact ⟨_, rfl, _, rfl, hb, A2, m2, c2, rfl, hs, fun b' hb' => by
          rcases ha b' hb' with h | h
          ·exact HAo.out b' h
          ·exact Nat.le_trans hzX (Nat.le_trans hG.size h)⟩
        | 18, _, ho =>
         injection ho with ho; subst ho
         exact .inl ⟨rfl, op_val _ (by simp [execOp, Act.eval, hr3, go_sem]) ⟨_, rfl, Below.refl _ _, rfl⟩⟩
        | n_ + 19, hi, _ => omega
       ·intro o2 u W ho hG hw
        obtain ⟨A2, m2, c2, e0, hs, ha⟩ := hw 17 82 (by decide) (by kernel_rfl)
        have e1 : u 83 = .pointer (some ⟨g3, 1, none⟩) := hw 18 83 (by decide) (by kernel_rfl)
        have hr3W := (hG.block _ (Array.getElem?_eq_some_iff.1 HR3.out).1).trans HR3.out
        have hr2W := (hG.block _ (Array.getElem?_eq_some_iff.1 HR2.out).1).trans HR2.out
        have hr1W := (hG.block _ (Array.getElem?_eq_some_iff.1 HR1.out).1).trans HR1.out
        have hr5W := (hG.block _ (Array.getElem?_eq_some_iff.1 HR5.out).1).trans HR5.out
        have hne : ∀ b' ∈ blkOf A2, b' ≠ g3 := fun b' hb' => by have := ha b' hb'; omega
        have hm2 : m2 = (putE (putsE es) ⟨fr, ux, true⟩).length := hs.1.symm
        have hmk : m2 ≤ fs + 1 := by rw [hm2]; have := putE_len (putsE es) ⟨fr, ux, true⟩; have := (HSl.out).1; omega
        have HSl' : Hid (SliceIs Enc.edge (W.setCell ⟨g3, 1, none⟩ (.slice A2 m2 c2)) (W.setCell ⟨g3, 1, none⟩ (.slice A2 m2 c2)).heap.size A2 m2 c2 (putsE (es ++ [⟨fr, ux, true⟩]))) := by
         have h1 := hs.set_other (o := 1) (val := .slice A2 m2 c2) hne
         show SliceIs _ _ _ _ _ _ _
         rw [putsE_snoc]
         simpa using h1
        have HR3' : Hid ((W.setCell ⟨g3, 1, none⟩ (.slice A2 m2 c2)).heap[g3]? = some (.cells #[.int .i64 an, .slice A2 m2 c2] 35 (0, 0))) := by
         show _ = _
         rw [set_cell8 hr3W]; rfl
        have HR2' : Hid ((W.setCell ⟨g3, 1, none⟩ (.slice A2 m2 c2)).heap[g2]? = some (.cells #[.int .i64 0, .slice none 0 0] 35 (0, 0))) := (World.heap_setCells_other' (show g2 ≠ g3 from by omega)).trans hr2W
        have HR1' : Hid ((W.setCell ⟨g3, 1, none⟩ (.slice A2 m2 c2)).heap[g1]? = some (.cells #[.slice aA an ac, .slice (some ⟨rb, ro, none⟩) bn bc] 40 (0, 0))) := (World.heap_setCells_other' (show g1 ≠ g3 from by omega)).trans hr1W
        have HR5' : Hid ((W.setCell ⟨g3, 1, none⟩ (.slice A2 m2 c2)).heap[g5]? = some (.cells (ruleC y ⟨a_A, a_n, a_c⟩ ⟨some ⟨bb, o, none⟩, m_n, m_c⟩).toArray 103 (0, 0))) := (World.heap_setCells_other' (show g5 ≠ g3 from by omega)).trans hr5W
        have HB' : Hid (Below g1 w (W.setCell ⟨g3, 1, none⟩ (.slice A2 m2 c2))) := (HBX.out.trans (hG.mono (by omega))).setCell (show g1 ≤ g3 from by omega) _
        have HA' : Hid (∀ b' ∈ blkOf A2, vz ≤ b') := ha
        have hz' : vz ≤ (W.setCell ⟨g3, 1, none⟩ (.slice A2 m2 c2)).heap.size := by have := hG.size; simp; omega
        have HE' : Hid (es ++ [(⟨fr, ux, true⟩ : GEdge)] = es0 ++ (y.body.take (j + 1)).flatMap (edgeY x y)) := by
         show _ = _
         rw [HT.out, HYes.out, ← List.append_assoc, ← HEs.out]
         simp [hag]
        have hop : o2.op = .store 33 (.tmp 83) (.tmp 82) := by injection ho with ho; subst ho; rfl
        have hds : o2.dst = none := by injection ho with ho; subst ho; rfl
        clear ho
        simp only [List.foldl_cons, List.foldl_nil, Act.put, List.setIfInBounds_toArray, List.set_cons_zero, List.set_cons_succ]
        rw [e0, e1]
        have hst := run_store1 (P := Tryz.prog) (ty := 33) (g := g3) (q := 1) (A := A2) (n := m2) (c := c2) (by kernel_rfl) hr3W (by simp)
        refine op_skip (w' := W.setCell ⟨g3, 1, none⟩ (.slice A2 m2 c2)) (by simp [execOp, hop, Act.eval, hst]) ?_
        rw [hds]
        generalize W.setCell ⟨g3, 1, none⟩ (.slice A2 m2 c2) = W9 at *
        clear hs ha e0 e1 hr2W hr1W hr3W hr5W hne hm2 hw hG HR2 HR1 HR3 HR5 HBX HSl HPut HT HAo HYes hop hds hst y2 y4 z3 q0
        simp only [Act.put]
        go_wp2_with fail
        go_roundw
        case rel => exact ⟨j + 1, A2, m2, c2, _, by omega, by go_num, by omega, HE', HR3', HR2', HR1', HR5', HSl', HA', HB', hz'⟩
        case measure => simp [intOf]; omega
      ·by_cases hk2 : z.k = 2
       ·skip
        have HPut : Hid (∀ W, Below X.heap.size X W → Calls Tryz.prog 16 #[.slice Ao fs co, (GEdge.v ⟨fr, ux, true⟩)] W (RPutP Ao (putsE es) ⟨fr, ux, true⟩ W)) := HPut0.out true
        have HEs : Hid (es = es0 ++ (y.body.take j).flatMap (edgeY x y)) := HEs9.out
        clear HPut0
        refine drawnH mixed 19 85 [65, 66, 67, 68, 69, 70, 71, 72, 73, 74, 75, 76, 77, 78, 79, 80, 81, 82, 83] [some (.pointer (some ⟨g3, 1, none⟩)), some (.slice Ao fs co), some (.int .i64 fr), some (.int .i64 ux), some (.pointer (some ⟨g5, 2, none⟩)), some (.int .i64 y.agg), some (.bool false), some (.bool false), some (.pointer (some ⟨g5, 4, none⟩)), some (.slice (some ⟨bb, o, none⟩) m_n m_c), some (.int .i64 (j : Int)), some (.pointer (some ⟨bb, o + j * 17, none⟩)), some (.pointer (some ⟨bb, o + j * 17, none⟩)), some (.int .i64 z.k), some (.bool true), some (.bool true), some ((GEdge.v ⟨fr, ux, true⟩)), none, some (.pointer (some ⟨g3, 1, none⟩))] (fun i v W => ∃ A2 m2 c2, v = .slice A2 m2 c2 ∧ SliceIs Enc.edge W W.heap.size A2 m2 c2 (putE (putsE es) ⟨fr, ux, true⟩) ∧ ∀ b' ∈ blkOf A2, vz ≤ b') rfl (by kernel_rfl) (by kernel_rfl) rfl (fun i v W W' h hb => by obtain ⟨A2, m2, c2, h1, h2, h3⟩ := h; exact ⟨A2, m2, c2, h1, h2.keep hb, h3⟩) ?_ ?_
        ·intro i o2 a2 W hi ho hd hold hG hw
         have hr1 : a2.tmps[1]? = some (.pointer (some ⟨g1, 0, none⟩)) := hold 1 (by kernel_rfl)
         have hr3 : a2.tmps[3]? = some (.pointer (some ⟨g3, 0, none⟩)) := hold 3 (by kernel_rfl)
         have hr5 : a2.tmps[5]? = some (.pointer (some ⟨g5, 0, none⟩)) := hold 5 (by kernel_rfl)
         have hr6 : a2.tmps[6]? = some (.int .i64 (j : Int)) := hold 6 (by kernel_rfl)
         have hr7 : a2.tmps[7]? = some (.int .i64 fr) := hold 7 (by kernel_rfl)
         have hr8 : a2.tmps[8]? = some (.int .i64 ux) := hold 8 (by kernel_rfl)
         clear hold
         match i, hi, ho with
         | 0, _, ho =>
          injection ho with ho; subst ho
          exact .inl ⟨rfl, op_val _ (by simp [execOp, Act.eval, hr3, go_sem]) ⟨_, rfl, Below.refl _ _, rfl⟩⟩
         | 1, _, ho =>
          obtain ⟨v0, h0, e0⟩ := hw 0 65 (by kernel_rfl)
          obtain rfl : v0 = .pointer (some ⟨g3, 1, none⟩) := e0
          injection ho with ho; subst ho
          exact .inl ⟨rfl, op_val _ (by simp [execOp, Act.eval, h0, run_load1 Tryz.underlying33 (below_cell hG z3)]) ⟨_, rfl, Below.refl _ _, rfl⟩⟩
         | 2, _, ho =>
          injection ho with ho; subst ho
          exact .inl ⟨rfl, op_val _ (by simp [execOp, Act.eval, hr7, go_sem]) ⟨_, rfl, Below.refl _ _, rfl⟩⟩
         | 3, _, ho =>
          injection ho with ho; subst ho
          exact .inl ⟨rfl, op_val _ (by simp [execOp, Act.eval, hr8, go_sem]) ⟨_, rfl, Below.refl _ _, rfl⟩⟩
         | 4, _, ho =>
          injection ho with ho; subst ho
          exact .inl ⟨rfl, op_val _ (by simp [execOp, Act.eval, hr5, go_sem]) ⟨_, rfl, Below.refl _ _, rfl⟩⟩
         | 5, _, ho =>
          obtain ⟨v4, h4, e4⟩ := hw 4 69 (by kernel_rfl)
          obtain rfl : v4 = .pointer (some ⟨g5, 2, none⟩) := e4
          injection ho with ho; subst ho
          exact .inl ⟨rfl, op_val _ (by simp [execOp, Act.eval, h4, go_sem, below_cell hG y2]) ⟨_, rfl, Below.refl _ _, rfl⟩⟩
         | 6, _, ho =>
          obtain ⟨v5, h5, e5⟩ := hw 5 70 (by kernel_rfl)
          obtain rfl : v5 = .int .i64 y.agg := e5
          injection ho with ho; subst ho
          exact .inl ⟨rfl, op_val _ (by simp [execOp, Act.eval, h5, go_sem, hag]) ⟨_, rfl, Below.refl _ _, rfl⟩⟩
         | 7, _, ho =>
          obtain ⟨v6, h6, e6⟩ := hw 6 71 (by kernel_rfl)
          obtain rfl : v6 = .bool false := e6
          injection ho with ho; subst ho
          exact .inl ⟨rfl, op_val _ (by simp [execOp, Act.eval, h6, go_sem]) ⟨_, rfl, Below.refl _ _, rfl⟩⟩
         | 8, _, ho =>
          obtain ⟨v7, h7, e7⟩ := hw 7 72 (by kernel_rfl)
          obtain rfl : v7 = .bool false := e7
          injection ho with ho; subst ho
          exact .inl ⟨((wanted_of rfl (by kernel_rfl) h7).trans rfl), op_val _ (by simp [execOp, Act.eval, hr5, go_sem]) ⟨_, rfl, Below.refl _ _, rfl⟩⟩
         | 9, _, ho =>
          obtain ⟨v8, h8, e8⟩ := hw 8 73 (by kernel_rfl)
          obtain rfl : v8 = .pointer (some ⟨g5, 4, none⟩) := e8
          obtain ⟨v7, h7, e7⟩ := hw 7 72 (by kernel_rfl)
          obtain rfl : v7 = .bool false := e7
          injection ho with ho; subst ho
          exact .inl ⟨((wanted_of rfl (by kernel_rfl) h7).trans rfl), op_val _ (by simp [execOp, Act.eval, h8, run_load1 Tryz.underlying101 (below_cell hG y4)]) ⟨_, rfl, Below.refl _ _, rfl⟩⟩
         | 10, _, ho =>
          obtain ⟨v7, h7, e7⟩ := hw 7 72 (by kernel_rfl)
          obtain rfl : v7 = .bool false := e7
          injection ho with ho; subst ho
          exact .inl ⟨((wanted_of rfl (by kernel_rfl) h7).trans rfl), op_val _ (by simp [execOp, Act.eval, hr6, go_sem]) ⟨_, rfl, Below.refl _ _, rfl⟩⟩
         | 11, _, ho =>
          obtain ⟨v9, h9, e9⟩ := hw 9 74 (by kernel_rfl)
          obtain rfl : v9 = .slice (some ⟨bb, o, none⟩) m_n m_c := e9
          obtain ⟨v10, h10, e10⟩ := hw 10 75 (by kernel_rfl)
          obtain rfl : v10 = .int .i64 (j : Int) := e10
          obtain ⟨v7, h7, e7⟩ := hw 7 72 (by kernel_rfl)
          obtain rfl : v7 = .bool false := e7
          injection ho with ho; subst ho
          exact .inl ⟨((wanted_of rfl (by kernel_rfl) h7).trans rfl), op_val _ (by simp [execOp, Act.eval, h9, h10, go_sem, j0, j1]) ⟨_, rfl, Below.refl _ _, rfl⟩⟩
         | 12, _, ho =>
          obtain ⟨v11, h11, e11⟩ := hw 11 76 (by kernel_rfl)
          obtain rfl : v11 = .pointer (some ⟨bb, o + j * 17, none⟩) := e11
          obtain ⟨v7, h7, e7⟩ := hw 7 72 (by kernel_rfl)
          obtain rfl : v7 = .bool false := e7
          injection ho with ho; subst ho
          exact .inl ⟨((wanted_of rfl (by kernel_rfl) h7).trans rfl), op_val _ (by simp [execOp, Act.eval, h11, go_sem]) ⟨_, rfl, Below.refl _ _, rfl⟩⟩
         | 13, _, ho =>
          obtain ⟨v12, h12, e12⟩ := hw 12 77 (by kernel_rfl)
          obtain rfl : v12 = .pointer (some ⟨bb, o + j * 17, none⟩) := e12
          obtain ⟨v7, h7, e7⟩ := hw 7 72 (by kernel_rfl)
          obtain rfl : v7 = .bool false := e7
          injection ho with ho; subst ho
          exact .inl ⟨((wanted_of rfl (by kernel_rfl) h7).trans rfl), op_val _ (by simp [execOp, Act.eval, h12, go_sem, below_cell hG q0]) ⟨_, rfl, Below.refl _ _, rfl⟩⟩
         | 14, _, ho =>
          obtain ⟨v13, h13, e13⟩ := hw 13 78 (by kernel_rfl)
          obtain rfl : v13 = .int .i64 z.k := e13
          obtain ⟨v7, h7, e7⟩ := hw 7 72 (by kernel_rfl)
          obtain rfl : v7 = .bool false := e7
          injection ho with ho; subst ho
          exact .inl ⟨((wanted_of rfl (by kernel_rfl) h7).trans rfl), op_val _ (by simp [execOp, Act.eval, h13, go_sem, hk2]) ⟨_, rfl, Below.refl _ _, rfl⟩⟩
         | 15, _, ho =>
          obtain ⟨v7, h7, e7⟩ := hw 7 72 (by kernel_rfl)
          obtain rfl : v7 = .bool false := e7
          obtain ⟨v14, h14, e14⟩ := hw 14 79 (by kernel_rfl)
          obtain rfl : v14 = .bool true := e14
          injection ho with ho; subst ho
          exact .inl ⟨rfl, op_val _ (by simp [execOp, Act.eval, h7, h14, go_sem]) ⟨_, rfl, Below.refl _ _, rfl⟩⟩
         | 16, _, ho =>
          obtain ⟨v2, h2, e2⟩ := hw 2 67 (by kernel_rfl)
          obtain rfl : v2 = .int .i64 fr := e2
          obtain ⟨v3, h3, e3⟩ := hw 3 68 (by kernel_rfl)
          obtain rfl : v3 = .int .i64 ux := e3
          obtain ⟨v15, h15, e15⟩ := hw 15 80 (by kernel_rfl)
          obtain rfl : v15 = .bool true := e15
          injection ho with ho; subst ho
          exact .inl ⟨rfl, op_build 49 _ rfl [(0, .int .i64 fr), (1, .int .i64 ux), (2, .bool true)] (GEdge.cells ⟨fr, ux, true⟩).toArray (by simp [Act.eval, h2, h3, h15]) (by kernel_rfl) ⟨_, rfl, Below.refl _ _, rfl⟩⟩
         | 17, _, ho =>
          obtain ⟨v1, h1, e1⟩ := hw 1 66 (by kernel_rfl)
          obtain rfl : v1 = .slice Ao fs co := e1
          obtain ⟨v16, h16, e16⟩ := hw 16 81 (by kernel_rfl)
          obtain rfl : v16 = (GEdge.v ⟨fr, ux, true⟩) := e16
          injection ho with ho; subst ho
          refine .inl ⟨rfl, op_call 16 _ rfl rfl #[.slice Ao fs co, (GEdge.v ⟨fr, ux, true⟩)] (by simp [Act.eval, h1, h16]) _ Tryz.func16 (by kernel_rfl) (by kernel_rfl) ((HPut.out W hG).mono ?_)⟩
          rintro r w' ⟨A2, m2, c2, rfl, hs, hb, ha⟩
          exact ⟨_, rfl, _, rfl, hb, A2, m2, c2, rfl, hs, fun b' hb' => by
           rcases ha b' hb' with h | h
           ·exact HAo.out b' h
           ·exact Nat.le_trans hzX (Nat.le_trans hG.size h)⟩
         | 18, _, ho =>
          injection ho with ho; subst ho
          exact .inl ⟨rfl, op_val _ (by simp [execOp, Act.eval, hr3, go_sem]) ⟨_, rfl, Below.refl _ _, rfl⟩⟩
         | n_ + 19, hi, _ => omega
        ·intro o2 u W ho hG hw
         obtain ⟨A2, m2, c2, e0, hs, ha⟩ := hw 17 82 (by decide) (by kernel_rfl)
         have e1 : u 83 = .pointer (some ⟨g3, 1, none⟩) := hw 18 83 (by decide) (by kernel_rfl)
         have hr3W := (hG.block _ (Array.getElem?_eq_some_iff.1 HR3.out).1).trans HR3.out
         have hr2W := (hG.block _ (Array.getElem?_eq_some_iff.1 HR2.out).1).trans HR2.out
         have hr1W := (hG.block _ (Array.getElem?_eq_some_iff.1 HR1.out).1).trans HR1.out
         have hr5W := (hG.block _ (Array.getElem?_eq_some_iff.1 HR5.out).1).trans HR5.out
         have hne : ∀ b' ∈ blkOf A2, b' ≠ g3 := fun b' hb' => by have := ha b' hb'; omega
         have hm2 : m2 = (putE (putsE es) ⟨fr, ux, true⟩).length := hs.1.symm
         have hmk : m2 ≤ fs + 1 := by rw [hm2]; have := putE_len (putsE es) ⟨fr, ux, true⟩; have := (HSl.out).1; omega
         have HSl' : Hid (SliceIs Enc.edge (W.setCell ⟨g3, 1, none⟩ (.slice A2 m2 c2)) (W.setCell ⟨g3, 1, none⟩ (.slice A2 m2 c2)).heap.size A2 m2 c2 (putsE (es ++ [⟨fr, ux, true⟩]))) := by
          have h1 := hs.set_other (o := 1) (val := .slice A2 m2 c2) hne
          show SliceIs _ _ _ _ _ _ _
          rw [putsE_snoc]
          simpa using h1
         have HR3' : Hid ((W.setCell ⟨g3, 1, none⟩ (.slice A2 m2 c2)).heap[g3]? = some (.cells #[.int .i64 an, .slice A2 m2 c2] 35 (0, 0))) := by
          show _ = _
          rw [set_cell8 hr3W]; rfl
         have HR2' : Hid ((W.setCell ⟨g3, 1, none⟩ (.slice A2 m2 c2)).heap[g2]? = some (.cells #[.int .i64 0, .slice none 0 0] 35 (0, 0))) := (World.heap_setCells_other' (show g2 ≠ g3 from by omega)).trans hr2W
         have HR1' : Hid ((W.setCell ⟨g3, 1, none⟩ (.slice A2 m2 c2)).heap[g1]? = some (.cells #[.slice aA an ac, .slice (some ⟨rb, ro, none⟩) bn bc] 40 (0, 0))) := (World.heap_setCells_other' (show g1 ≠ g3 from by omega)).trans hr1W
         have HR5' : Hid ((W.setCell ⟨g3, 1, none⟩ (.slice A2 m2 c2)).heap[g5]? = some (.cells (ruleC y ⟨a_A, a_n, a_c⟩ ⟨some ⟨bb, o, none⟩, m_n, m_c⟩).toArray 103 (0, 0))) := (World.heap_setCells_other' (show g5 ≠ g3 from by omega)).trans hr5W
         have HB' : Hid (Below g1 w (W.setCell ⟨g3, 1, none⟩ (.slice A2 m2 c2))) := (HBX.out.trans (hG.mono (by omega))).setCell (show g1 ≤ g3 from by omega) _
         have HA' : Hid (∀ b' ∈ blkOf A2, vz ≤ b') := ha
         have hz' : vz ≤ (W.setCell ⟨g3, 1, none⟩ (.slice A2 m2 c2)).heap.size := by have := hG.size; simp; omega
         have HE' : Hid (es ++ [(⟨fr, ux, true⟩ : GEdge)] = es0 ++ (y.body.take (j + 1)).flatMap (edgeY x y)) := by
          show _ = _
          rw [HT.out, HYes.out, ← List.append_assoc, ← HEs.out]
          simp [hk2, hag]
         have hop : o2.op = .store 33 (.tmp 83) (.tmp 82) := by injection ho with ho; subst ho; rfl
         have hds : o2.dst = none := by injection ho with ho; subst ho; rfl
         clear ho
         simp only [List.foldl_cons, List.foldl_nil, Act.put, List.setIfInBounds_toArray, List.set_cons_zero, List.set_cons_succ]
         rw [e0, e1]
         have hst := run_store1 (P := Tryz.prog) (ty := 33) (g := g3) (q := 1) (A := A2) (n := m2) (c := c2) (by kernel_rfl) hr3W (by simp)
         refine op_skip (w' := W.setCell ⟨g3, 1, none⟩ (.slice A2 m2 c2)) (by simp [execOp, hop, Act.eval, hst]) ?_
         rw [hds]
         generalize W.setCell ⟨g3, 1, none⟩ (.slice A2 m2 c2) = W9 at *
         clear hs ha e0 e1 hr2W hr1W hr3W hr5W hne hm2 hw hG HR2 HR1 HR3 HR5 HBX HSl HPut HT HAo HYes hop hds hst y2 y4 z3 q0
         simp only [Act.put]
         go_wp2_with fail
         go_roundw
         case rel => exact ⟨j + 1, A2, m2, c2, _, by omega, by go_num, by omega, HE', HR3', HR2', HR1', HR5', HSl', HA', HB', hz'⟩
         case measure => simp [intOf]; omega
       ·skip
        have HPut : Hid (∀ W, Below X.heap.size X W → Calls Tryz.prog 16 #[.slice Ao fs co, (GEdge.v ⟨fr, ux, false⟩)] W (RPutP Ao (putsE es) ⟨fr, ux, false⟩ W)) := HPut0.out false
        have HEs : Hid (es = es0 ++ (y.body.take j).flatMap (edgeY x y)) := HEs9.out
        clear HPut0
        refine drawnH mixed 19 85 [65, 66, 67, 68, 69, 70, 71, 72, 73, 74, 75, 76, 77, 78, 79, 80, 81, 82, 83] [some (.pointer (some ⟨g3, 1, none⟩)), some (.slice Ao fs co), some (.int .i64 fr), some (.int .i64 ux), some (.pointer (some ⟨g5, 2, none⟩)), some (.int .i64 y.agg), some (.bool false), some (.bool false), some (.pointer (some ⟨g5, 4, none⟩)), some (.slice (some ⟨bb, o, none⟩) m_n m_c), some (.int .i64 (j : Int)), some (.pointer (some ⟨bb, o + j * 17, none⟩)), some (.pointer (some ⟨bb, o + j * 17, none⟩)), some (.int .i64 z.k), some (.bool false), some (.bool false), some ((GEdge.v ⟨fr, ux, false⟩)), none, some (.pointer (some ⟨g3, 1, none⟩))] (fun i v W => ∃ A2 m2 c2, v = .slice A2 m2 c2 ∧ SliceIs Enc.edge W W.heap.size A2 m2 c2 (putE (putsE es) ⟨fr, ux, false⟩) ∧ ∀ b' ∈ blkOf A2, vz ≤ b') rfl (by kernel_rfl) (by kernel_rfl) rfl (fun i v W W' h hb => by obtain ⟨A2, m2, c2, h1, h2, h3⟩ := h; exact ⟨A2, m2, c2, h1, h2.keep hb, h3⟩) ?_ ?_
        ·intro i o2 a2 W hi ho hd hold hG hw
         have hr1 : a2.tmps[1]? = some (.pointer (some ⟨g1, 0, none⟩)) := hold 1 (by kernel_rfl)
         have hr3 : a2.tmps[3]? = some (.pointer (some ⟨g3, 0, none⟩)) := hold 3 (by kernel_rfl)
         have hr5 : a2.tmps[5]? = some (.pointer (some ⟨g5, 0, none⟩)) := hold 5 (by kernel_rfl)
         have hr6 : a2.tmps[6]? = some (.int .i64 (j : Int)) := hold 6 (by kernel_rfl)
         have hr7 : a2.tmps[7]? = some (.int .i64 fr) := hold 7 (by kernel_rfl)
         have hr8 : a2.tmps[8]? = some (.int .i64 ux) := hold 8 (by kernel_rfl)
         clear hold
         match i, hi, ho with
         | 0, _, ho =>
          injection ho with ho; subst ho
          exact .inl ⟨rfl, op_val _ (by simp [execOp, Act.eval, hr3, go_sem]) ⟨_, rfl, Below.refl _ _, rfl⟩⟩
         | 1, _, ho =>
          obtain ⟨v0, h0, e0⟩ := hw 0 65 (by kernel_rfl)
          obtain rfl : v0 = .pointer (some ⟨g3, 1, none⟩) := e0
          injection ho with ho; subst ho
          exact .inl ⟨rfl, op_val _ (by simp [execOp, Act.eval, h0, run_load1 Tryz.underlying33 (below_cell hG z3)]) ⟨_, rfl, Below.refl _ _, rfl⟩⟩
         | 2, _, ho =>
          injection ho with ho; subst ho
          exact .inl ⟨rfl, op_val _ (by simp [execOp, Act.eval, hr7, go_sem]) ⟨_, rfl, Below.refl _ _, rfl⟩⟩
         | 3, _, ho =>
          injection ho with ho; subst ho
          exact .inl ⟨rfl, op_val _ (by simp [execOp, Act.eval, hr8, go_sem]) ⟨_, rfl, Below.refl _ _, rfl⟩⟩
         | 4, _, ho =>
          injection ho with ho; subst ho
          exact .inl ⟨rfl, op_val _ (by simp [execOp, Act.eval, hr5, go_sem]) ⟨_, rfl, Below.refl _ _, rfl⟩⟩
         | 5, _, ho =>
          obtain ⟨v4, h4, e4⟩ := hw 4 69 (by kernel_rfl)
          obtain rfl : v4 = .pointer (some ⟨g5, 2, none⟩) := e4
          injection ho with ho; subst ho
          exact .inl ⟨rfl, op_val _ (by simp [execOp, Act.eval, h4, go_sem, below_cell hG y2]) ⟨_, rfl, Below.refl _ _, rfl⟩⟩
         | 6, _, ho =>
          obtain ⟨v5, h5, e5⟩ := hw 5 70 (by kernel_rfl)
          obtain rfl : v5 = .int .i64 y.agg := e5
          injection ho with ho; subst ho
          exact .inl ⟨rfl, op_val _ (by simp [execOp, Act.eval, h5, go_sem, hag]) ⟨_, rfl, Below.refl _ _, rfl⟩⟩
         | 7, _, ho =>
          obtain ⟨v6, h6, e6⟩ := hw 6 71 (by kernel_rfl)
          obtain rfl : v6 = .bool false := e6
          injection ho with ho; subst ho
          exact .inl ⟨rfl, op_val _ (by simp [execOp, Act.eval, h6, go_sem]) ⟨_, rfl, Below.refl _ _, rfl⟩⟩
         | 8, _, ho =>
          obtain ⟨v7, h7, e7⟩ := hw 7 72 (by kernel_rfl)
          obtain rfl : v7 = .bool false := e7
          injection ho with ho; subst ho
          exact .inl ⟨((wanted_of rfl (by kernel_rfl) h7).trans rfl), op_val _ (by simp [execOp, Act.eval, hr5, go_sem]) ⟨_, rfl, Below.refl _ _, rfl⟩⟩
         | 9, _, ho =>
          obtain ⟨v8, h8, e8⟩ := hw 8 73 (by kernel_rfl)
          obtain rfl : v8 = .pointer (some ⟨g5, 4, none⟩) := e8
          obtain ⟨v7, h7, e7⟩ := hw 7 72 (by kernel_rfl)
          obtain rfl : v7 = .bool false := e7
          injection ho with ho; subst ho
          exact .inl ⟨((wanted_of rfl (by kernel_rfl) h7).trans rfl), op_val _ (by simp [execOp, Act.eval, h8, run_load1 Tryz.underlying101 (below_cell hG y4)]) ⟨_, rfl, Below.refl _ _, rfl⟩⟩
         | 10, _, ho =>
          obtain ⟨v7, h7, e7⟩ := hw 7 72 (by kernel_rfl)
          obtain rfl : v7 = .bool false := e7
          injection ho with ho; subst ho
          exact .inl ⟨((wanted_of rfl (by kernel_rfl) h7).trans rfl), op_val _ (by simp [execOp, Act.eval, hr6, go_sem]) ⟨_, rfl, Below.refl _ _, rfl⟩⟩
         | 11, _, ho =>
          obtain ⟨v9, h9, e9⟩ := hw 9 74 (by kernel_rfl)
          obtain rfl : v9 = .slice (some ⟨bb, o, none⟩) m_n m_c := e9
          obtain ⟨v10, h10, e10⟩ := hw 10 75 (by kernel_rfl)
          obtain rfl : v10 = .int .i64 (j : Int) := e10
          obtain ⟨v7, h7, e7⟩ := hw 7 72 (by kernel_rfl)
          obtain rfl : v7 = .bool false := e7
          injection ho with ho; subst ho
          exact .inl ⟨((wanted_of rfl (by kernel_rfl) h7).trans rfl), op_val _ (by simp [execOp, Act.eval, h9, h10, go_sem, j0, j1]) ⟨_, rfl, Below.refl _ _, rfl⟩⟩
         | 12, _, ho =>
          obtain ⟨v11, h11, e11⟩ := hw 11 76 (by kernel_rfl)
          obtain rfl : v11 = .pointer (some ⟨bb, o + j * 17, none⟩) := e11
          obtain ⟨v7, h7, e7⟩ := hw 7 72 (by kernel_rfl)
          obtain rfl : v7 = .bool false := e7
          injection ho with ho; subst ho
          exact .inl ⟨((wanted_of rfl (by kernel_rfl) h7).trans rfl), op_val _ (by simp [execOp, Act.eval, h11, go_sem]) ⟨_, rfl, Below.refl _ _, rfl⟩⟩
         | 13, _, ho =>
          obtain ⟨v12, h12, e12⟩ := hw 12 77 (by kernel_rfl)
          obtain rfl : v12 = .pointer (some ⟨bb, o + j * 17, none⟩) := e12
          obtain ⟨v7, h7, e7⟩ := hw 7 72 (by kernel_rfl)
          obtain rfl : v7 = .bool false := e7
          injection ho with ho; subst ho
          exact .inl ⟨((wanted_of rfl (by kernel_rfl) h7).trans rfl), op_val _ (by simp [execOp, Act.eval, h12, go_sem, below_cell hG q0]) ⟨_, rfl, Below.refl _ _, rfl⟩⟩
         | 14, _, ho =>
          obtain ⟨v13, h13, e13⟩ := hw 13 78 (by kernel_rfl)
          obtain rfl : v13 = .int .i64 z.k := e13
          obtain ⟨v7, h7, e7⟩ := hw 7 72 (by kernel_rfl)
          obtain rfl : v7 = .bool false := e7
          injection ho with ho; subst ho
          exact .inl ⟨((wanted_of rfl (by kernel_rfl) h7).trans rfl), op_val _ (by simp [execOp, Act.eval, h13, go_sem, hk2]) ⟨_, rfl, Below.refl _ _, rfl⟩⟩
         | 15, _, ho =>
          obtain ⟨v7, h7, e7⟩ := hw 7 72 (by kernel_rfl)
          obtain rfl : v7 = .bool false := e7
          obtain ⟨v14, h14, e14⟩ := hw 14 79 (by kernel_rfl)
          obtain rfl : v14 = .bool false := e14
          injection ho with ho; subst ho
          exact .inl ⟨rfl, op_val _ (by simp [execOp, Act.eval, h7, h14, go_sem]) ⟨_, rfl, Below.refl _ _, rfl⟩⟩
         | 16, _, ho =>
          obtain ⟨v2, h2, e2⟩ := hw 2 67 (by kernel_rfl)
          obtain rfl : v2 = .int .i64 fr := e2
          obtain ⟨v3, h3, e3⟩ := hw 3 68 (by kernel_rfl)
          obtain rfl : v3 = .int .i64 ux := e3
          obtain ⟨v15, h15, e15⟩ := hw 15 80 (by kernel_rfl)
          obtain rfl : v15 = .bool false := e15
          injection ho with ho; subst ho
          exact .inl ⟨rfl, op_build 49 _ rfl [(0, .int .i64 fr), (1, .int .i64 ux), (2, .bool false)] (GEdge.cells ⟨fr, ux, false⟩).toArray (by simp [Act.eval, h2, h3, h15]) (by kernel_rfl) ⟨_, rfl, Below.refl _ _, rfl⟩⟩
         | 17, _, ho =>
          obtain ⟨v1, h1, e1⟩ := hw 1 66 (by kernel_rfl)
          obtain rfl : v1 = .slice Ao fs co := e1
          obtain ⟨v16, h16, e16⟩ := hw 16 81 (by kernel_rfl)
          obtain rfl : v16 = (GEdge.v ⟨fr, ux, false⟩) := e16
          injection ho with ho; subst ho
          refine .inl ⟨rfl, op_call 16 _ rfl rfl #[.slice Ao fs co, (GEdge.v ⟨fr, ux, false⟩)] (by simp [Act.eval, h1, h16]) _ Tryz.func16 (by kernel_rfl) (by kernel_rfl) ((HPut.out W hG).mono ?_)⟩
          rintro r w' ⟨A2, m2, c2, rfl, hs, hb, ha⟩
          exact ⟨_, rfl, _, rfl, hb, A2, m2, c2, rfl, hs, fun b' hb' => by
           rcases ha b' hb' with h | h
           ·exact HAo.out b' h
           ·exact Nat.le_trans hzX (Nat.le_trans hG.size h)⟩
         | 18, _, ho =>
          injection ho with ho; subst ho
          exact .inl ⟨rfl, op_val _ (by simp [execOp, Act.eval, hr3, go_sem]) ⟨_, rfl, Below.refl _ _, rfl⟩⟩
         | n_ + 19, hi, _ => omega
        ·intro o2 u W ho hG hw
         obtain ⟨A2, m2, c2, e0, hs, ha⟩ := hw 17 82 (by decide) (by kernel_rfl)
         have e1 : u 83 = .pointer (some ⟨g3, 1, none⟩) := hw 18 83 (by decide) (by kernel_rfl)
         have hr3W := (hG.block _ (Array.getElem?_eq_some_iff.1 HR3.out).1).trans HR3.out
         have hr2W := (hG.block _ (Array.getElem?_eq_some_iff.1 HR2.out).1).trans HR2.out
         have hr1W := (hG.block _ (Array.getElem?_eq_some_iff.1 HR1.out).1).trans HR1.out
         have hr5W := (hG.block _ (Array.getElem?_eq_some_iff.1 HR5.out).1).trans HR5.out
         have hne : ∀ b' ∈ blkOf A2, b' ≠ g3 := fun b' hb' => by have := ha b' hb'; omega
         have hm2 : m2 = (putE (putsE es) ⟨fr, ux, false⟩).length := hs.1.symm
         have hmk : m2 ≤ fs + 1 := by rw [hm2]; have := putE_len (putsE es) ⟨fr, ux, false⟩; have := (HSl.out).1; omega
         have HSl' : Hid (SliceIs Enc.edge (W.setCell ⟨g3, 1, none⟩ (.slice A2 m2 c2)) (W.setCell ⟨g3, 1, none⟩ (.slice A2 m2 c2)).heap.size A2 m2 c2 (putsE (es ++ [⟨fr, ux, false⟩]))) := by
          have h1 := hs.set_other (o := 1) (val := .slice A2 m2 c2) hne
          show SliceIs _ _ _ _ _ _ _
          rw [putsE_snoc]
          simpa using h1
         have HR3' : Hid ((W.setCell ⟨g3, 1, none⟩ (.slice A2 m2 c2)).heap[g3]? = some (.cells #[.int .i64 an, .slice A2 m2 c2] 35 (0, 0))) := by
          show _ = _
          rw [set_cell8 hr3W]; rfl
         have HR2' : Hid ((W.setCell ⟨g3, 1, none⟩ (.slice A2 m2 c2)).heap[g2]? = some (.cells #[.int .i64 0, .slice none 0 0] 35 (0, 0))) := (World.heap_setCells_other' (show g2 ≠ g3 from by omega)).trans hr2W
         have HR1' : Hid ((W.setCell ⟨g3, 1, none⟩ (.slice A2 m2 c2)).heap[g1]? = some (.cells #[.slice aA an ac, .slice (some ⟨rb, ro, none⟩) bn bc] 40 (0, 0))) := (World.heap_setCells_other' (show g1 ≠ g3 from by omega)).trans hr1W
         have HR5' : Hid ((W.setCell ⟨g3, 1, none⟩ (.slice A2 m2 c2)).heap[g5]? = some (.cells (ruleC y ⟨a_A, a_n, a_c⟩ ⟨some ⟨bb, o, none⟩, m_n, m_c⟩).toArray 103 (0, 0))) := (World.heap_setCells_other' (show g5 ≠ g3 from by omega)).trans hr5W
         have HB' : Hid (Below g1 w (W.setCell ⟨g3, 1, none⟩ (.slice A2 m2 c2))) := (HBX.out.trans (hG.mono (by omega))).setCell (show g1 ≤ g3 from by omega) _
         have HA' : Hid (∀ b' ∈ blkOf A2, vz ≤ b') := ha
         have hz' : vz ≤ (W.setCell ⟨g3, 1, none⟩ (.slice A2 m2 c2)).heap.size := by have := hG.size; simp; omega
         have HE' : Hid (es ++ [(⟨fr, ux, false⟩ : GEdge)] = es0 ++ (y.body.take (j + 1)).flatMap (edgeY x y)) := by
          show _ = _
          rw [HT.out, HYes.out, ← List.append_assoc, ← HEs.out]
          simp [hk2, hag]
         have hop : o2.op = .store 33 (.tmp 83) (.tmp 82) := by injection ho with ho; subst ho; rfl
         have hds : o2.dst = none := by injection ho with ho; subst ho; rfl
         clear ho
         simp only [List.foldl_cons, List.foldl_nil, Act.put, List.setIfInBounds_toArray, List.set_cons_zero, List.set_cons_succ]
         rw [e0, e1]
         have hst := run_store1 (P := Tryz.prog) (ty := 33) (g := g3) (q := 1) (A := A2) (n := m2) (c := c2) (by kernel_rfl) hr3W (by simp)
         refine op_skip (w' := W.setCell ⟨g3, 1, none⟩ (.slice A2 m2 c2)) (by simp [execOp, hop, Act.eval, hst]) ?_
         rw [hds]
         generalize W.setCell ⟨g3, 1, none⟩ (.slice A2 m2 c2) = W9 at *
         clear hs ha e0 e1 hr2W hr1W hr3W hr5W hne hm2 hw hG HR2 HR1 HR3 HR5 HBX HSl HPut HT HAo HYes hop hds hst y2 y4 z3 q0
         simp only [Act.put]
         go_wp2_with fail
         go_roundw
         case rel => exact ⟨j + 1, A2, m2, c2, _, by omega, by go_num, by omega, HE', HR3', HR2', HR1', HR5', HSl', HA', HB', hz'⟩
         case measure => simp [intOf]; omega
    ·obtain rfl : m_n = j := by omega
     have j1 : ¬ (m_n : Int) < (m_n : Int) := by omega
     have HE3 : Hid (es = (x.rules.take (k + 1)).flatMap (bodyE x)) := by
      show _ = _
      rw [flat_snoc _ hy.out, ← HEs.out, HE2.out, List.take_of_length_le (by rw [Hmn.out]; exact Nat.le_refl _)]
      rfl
     clear y0 y2
     go_wp2_with fail
     go_roundw
     case rel => exact ⟨k + 1, Ao, fs, co, es, by omega, by go_num, by omega, HE3, HR3, HR2, HR1, HSl, HAo, HB, hz⟩
     case measure => simp [intOf]; omega
  ·have i1 : ¬ (k : Int) < (bn : Int) := by omega
   obtain rfl : k = bn := by omega
   have d0 : wr.cell? ⟨g3, 0, none⟩ = some (.int .i64 an) := (cell_of_row _ _ 0 _ _ _ HR3.out).trans rfl
   have d1 : wr.cell? ⟨g3, 1, none⟩ = some (.slice Ao fs co) := (cell_of_row _ _ 1 _ _ _ HR3.out).trans rfl
   have hrow1 := HR2.out
   have f0 : wr.cell? ⟨g2, 0, none⟩ = some (.int .i64 0) := (cell_of_row _ _ 0 _ _ _ hrow1).trans rfl
   have f1 : wr.cell? ⟨g2, 1, none⟩ = some (.slice none 0 0) := (cell_of_row _ _ 1 _ _ _ hrow1).trans rfl
   have z0 : wr.frozen? ⟨g2, 0, none⟩ = false := frozen_of_row _ _ _ _ _ hrow1
   have z1 : wr.frozen? ⟨g2, 1, none⟩ = false := frozen_of_row _ _ _ _ _ hrow1
   have hne : ∀ b' ∈ blkOf Ao, b' ≠ g2 := fun b' hb' => by have := HAo.out b' hb'; omega
   have hsl := (HSl.out.set_other (o := 0) (val := .int .i64 an) hne).set_other (o := 1) (val := .slice Ao fs co) hne
   have hese : es = ofL x := by rw [HEs.out, List.take_of_length_le (by rw [Hbl.out]; exact Nat.le_refl _)]; rfl
   rw [hese] at hsl
   have HE : Hid (P (.returned (.agg #[.int .i64 an, .slice Ao fs co])) ((wr.setCell ⟨g2, 0, none⟩ (.int .i64 an)).setCell ⟨g2, 1, none⟩ (.slice Ao fs co))) :=
    HFin2.out _ _ _ _ (by simpa using hsl) ((HB.out.setCell (show g1 ≤ g2 by omega) _).setCell (show g1 ≤ g2 by omega) _)
   have q0 : ((wr.setCell ⟨g2, 0, none⟩ (.int .i64 an)).setCell ⟨g2, 1, none⟩ (.slice Ao fs co)).cell? ⟨g2, 0, none⟩ = some (.int .i64 an) := by
    rw [World.cell?_setCell_other _ _ _ _ (by simp)]; exact World.cell?_setCell_same _ _ _ f0
   have q1 : ((wr.setCell ⟨g2, 0, none⟩ (.int .i64 an)).setCell ⟨g2, 1, none⟩ (.slice Ao fs co)).cell? ⟨g2, 1, none⟩ = some (.slice Ao fs co) :=
    World.cell?_setCell_same _ _ _ ((World.cell?_setCell_other _ _ _ _ (by simp)).trans f1)
   clear hsl hne HSl HAo HB HR2 HR1 HR3 hrow1 hese HEs
   go_wp2_with fail
   refine bodyPost_ret (v := .agg #[.int .i64 an, .slice Ao fs co]) ?_ rfl HE.out
   simp [results, Tryz.results11, go_sem, q0, q1]
end Go.Proofs.YtgphngjniplonaaGreatDoor
