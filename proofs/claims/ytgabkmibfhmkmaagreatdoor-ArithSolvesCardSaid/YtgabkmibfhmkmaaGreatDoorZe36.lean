/- My own texts ArRE, as far as this claim needs them. -/
import Derived.Test.YtgabkmibfhmkmaaGreatDoorZe30
set_option linter.unusedVariables false
set_option linter.unusedSimpArgs false
namespace Go.Proofs.YtgabkmibfhmkmaaGreatDoor
open Go.RowKit
theorem row_set {w : World} {b i : Nat} {cs : Array Value} {t : TypeId} {fr : Nat × Nat} (v : Value) (h : w.heap[b]? = some (.cells cs t fr)) : (w.setCell ⟨b, i, none⟩ v).heap[b]? = some (.cells (cs.setIfInBounds i v) t fr) := by
  simp [World.setCell, Array.getElem?_modify, h]
theorem row_set_ne {w : World} {b b' i : Nat} (v : Value) (h : b' ≠ b) : (w.setCell ⟨b, i, none⟩ v).heap[b']? = w.heap[b']? := World.heap_setCells_other' h
abbrev errI (e : Int) : Value := .int .i64 e
set_option maxRecDepth 100000 in
set_option maxHeartbeats 1000000 in
theorem refEvalLeaf_any (B : Option Addr) (bn bc : Nat) (l : List GTold) (x : GExp) (A : Option Addr) (n c : Nat) (w : World) (h0 : x.op = 0) (hv : x.t.v.ok) (hl : SliceIs Enc.told w w.heap.size B bn bc l) : Calls Tryz.prog 102 #[expV x A n c, .slice B bn bc] w (TermErr (termS (getT l) x.t) errI w) := by
  have hba : Below w.heap.size w ((w.alloc (.cells (expC x A n c).toArray 49)).alloc (.cells #[.int .i64 0, .int .i64 0, .string ⟨#[]⟩] 28)) := belowA (belowA (Below.refl _ _) _) _
  have HC := Lib.hid (refAterm_any x.t B bn bc l _ (hl.keep hba) hv (getT_ok hl))
  have HB := Lib.hid hba
  have q0 : (x.op == 0) = true := by simp [h0]
  clear hba hl h0
  unfold TermErr at HC ⊢
  generalize termS (getT l) x.t = p at *
  obtain ⟨v, er⟩ := p
  dsimp only at HC ⊢
  go_enter Tryz.func102, Tryz.ntmps102
  go_wp2_with fail
  refine HC.out.mono ?_
  rintro e w1 ⟨rfl, hb⟩
  have HB1 := Lib.hid (below_next HB.out hb)
  obtain ⟨hc, hf⟩ := bcell hb
  have hz := hb.size
  simp only [World.size_alloc, Nat.add_one_le_iff] at hz hc hf
  clear hb
  go_wp2_with fail
  exact bodyPost_ret (v := .tuple #[v.v, .int .i64 er]) (by simp [results, Tryz.results102, go_sem, hc]) rfl ⟨rfl, ((HB1.out.setCell (by simp) _).setCell (by simp) _).setCell (by simp) _⟩
theorem numV_err {p : GV × Int} (h : p.2 ≠ 0) : numV p = (0, p.2) := by unfold numV; rw [if_pos h]
theorem numV_kind {p : GV × Int} (h : p.2 = 0) (hk : p.1.k ≠ 1) : numV p = (0, 7) := by unfold numV; rw [if_neg (by simpa using h), if_pos hk]
theorem numV_num {p : GV × Int} (h : p.2 = 0) (hk : p.1.k = 1) : numV p = (p.1.n, 0) := by unfold numV; rw [if_neg (by simpa using h), if_neg (by simpa using hk)]
/-- the two numbers under way -/
def twoN (j : Nat) (i1 i2 : Int) : Array Value := if j = 0 then #[.int .i64 0, .int .i64 0] else if j = 1 then #[.int .i64 i1, .int .i64 0] else #[.int .i64 i1, .int .i64 i2]
set_option maxRecDepth 100000 in
set_option maxHeartbeats 4000000 in
theorem refEval_any (B : Option Addr) (bn bc : Nat) (l : List GTold) : ∀ (k : Nat) (x : GExp) (A : Option Addr) (n c d : Nat) (w : World), rightE k x = true → SliceIs (Enc.exp d) w w.heap.size A n c x.kids → x.t.v.ok → SliceIs Enc.told w w.heap.size B bn bc l → Calls Tryz.prog 102 #[expV x A n c, .slice B bn bc] w (TermErr (evalS (getT l) k x) errI w) := by
  intro k
  induction k with
  | zero =>
    intro x A n c d w hr hk hv hl
    have h0 : x.op = 0 := by
      by_cases h0 : x.op = 0
      · exact h0
      · rw [rightE_flat h0] at hr; cases hr
    rw [evalS_leaf h0]
    exact refEvalLeaf_any B bn bc l x A n c w h0 hv hl
  | succ k ih =>
    intro x A n c d w hr hk hv hl
    by_cases h0 : x.op = 0
    · rw [evalS_leaf h0]
      exact refEvalLeaf_any B bn bc l x A n c w h0 hv hl
    have IH := Lib.hid ih
    clear ih
    obtain ⟨y, z, hks, hry, hrz, ho1, ho3⟩ : ∃ y z, x.kids = [y, z] ∧ rightE k y = true ∧ rightE k z = true ∧ 1 ≤ x.op ∧ x.op ≤ 3 := by
      rw [rightE, if_neg h0, Bool.and_eq_true] at hr
      obtain ⟨h1, h2⟩ := hr
      unfold opE at h1
      simp only [Bool.and_eq_true, decide_eq_true_eq] at h1
      split at h2
      · rename_i a b hk
        rw [Bool.and_eq_true] at h2
        exact ⟨a, b, hk, h2.1, h2.2, h1.1.1, h1.1.2⟩
      · cases h2
    have hev : evalS (getT l) (k + 1) x = if (numV (evalS (getT l) k y)).2 ≠ 0 then (gv0, (numV (evalS (getT l) k y)).2) else if (numV (evalS (getT l) k z)).2 ≠ 0 then (gv0, (numV (evalS (getT l) k z)).2) else ofW (opN x.op (numV (evalS (getT l) k y)).1 (numV (evalS (getT l) k z)).1) := evalS_two h0 hks
    have hn2 : n = 2 := by have := hk.1; rw [hks] at this; exact this.symm
    subst hn2
    obtain ⟨b, o, y', Ay, ny, cy, dy, rfl, hbb, hky, hdy, y0, y1, y2, y3, y4, y5, -, -, hvy, hkky⟩ := hk.exp_at (i := 0) (by omega)
    obtain ⟨b', o', z', Az, nz, cz, dz, hAz, hbb', hkz, hdz, z0, z1, z2, z3, z4, z5, -, -, hvz, hkkz⟩ := hk.exp_at (i := 1) (by omega)
    obtain rfl : y = y' := by have := hky.out; rw [hks] at this; simpa using this
    obtain rfl : z = z' := by have := hkz.out; rw [hks] at this; simpa using this
    injection hAz with hAz
    injection hAz with e1 e2 _
    subst e1 e2
    simp only [Nat.zero_mul, Nat.add_zero, Nat.one_mul] at y0 y1 y2 y3 y4 y5 z0 z1 z2 z3 z4 z5
    have CY := Lib.hid (fun (W : World) (hb : Below w.heap.size w W) => IH.out y Ay ny cy dy W hry (hkky.keep hb) hvy (hl.keep hb))
    have CZ := Lib.hid (fun (W : World) (hb : Below w.heap.size w W) => IH.out z Az nz cz dz W hrz (hkkz.keep hb) hvz (hl.keep hb))
    have HY : Hid (∀ W, Below w.heap.size w W → W.cell? ⟨b, o, none⟩ = some (.int .i64 y.op) ∧ W.cell? ⟨b, o + 1, none⟩ = some (.string y.t.x) ∧ W.cell? ⟨b, o + 2, none⟩ = some (.int .i64 y.t.v.k) ∧ W.cell? ⟨b, o + 3, none⟩ = some (.int .i64 y.t.v.n) ∧ W.cell? ⟨b, o + 4, none⟩ = some (.string y.t.v.s) ∧ W.cell? ⟨b, o + 5, none⟩ = some (.slice Ay ny cy)) :=
      fun W h => ⟨below_cell h y0, below_cell h y1, below_cell h y2, below_cell h y3, below_cell h y4, below_cell h y5⟩
    have HZ : Hid (∀ W, Below w.heap.size w W → W.cell? ⟨b, o + 6, none⟩ = some (.int .i64 z.op) ∧ W.cell? ⟨b, o + 6 + 1, none⟩ = some (.string z.t.x) ∧ W.cell? ⟨b, o + 6 + 2, none⟩ = some (.int .i64 z.t.v.k) ∧ W.cell? ⟨b, o + 6 + 3, none⟩ = some (.int .i64 z.t.v.n) ∧ W.cell? ⟨b, o + 6 + 4, none⟩ = some (.string z.t.v.s) ∧ W.cell? ⟨b, o + 6 + 5, none⟩ = some (.slice Az nz cz)) :=
      fun W h => ⟨below_cell h z0, below_cell h z1, below_cell h z2, below_cell h z3, below_cell h z4, below_cell h z5⟩
    have bd1 := numV_bnd (f := getT l) (k := k) (e := y)
    have bd2 := numV_bnd (f := getT l) (k := k) (e := z)
    have q0 : (x.op == 0) = false := by simp [h0]
    obtain ⟨P, HP⟩ : ∃ P : Ending → World → Prop, Hid (P = TermErr (evalS (getT l) (k + 1) x) errI w) := ⟨_, rfl⟩
    rw [← HP.out]
    have HPost : Hid (∀ p : GV × Int, evalS (getT l) (k + 1) x = p → ∀ w', Below w.heap.size w w' → P (.returned (.tuple #[p.1.v, .int .i64 p.2])) w') := fun p hp w' hb => by rw [HP.out, hp]; exact ⟨rfl, hb⟩
    clear hky hkz hdy hdz hkky hkkz hks hry hrz hr hk hl y0 y1 y2 y3 y4 y5 z0 z1 z2 z3 z4 z5 hbb hbb' IH h0 HP hv hvy hvz
    unfold TermErr at CY CZ
    generalize evalS (getT l) k y = p1 at *
    generalize evalS (getT l) k z = p2 at *
    obtain ⟨v1, e1⟩ := p1
    obtain ⟨v2, e2⟩ := p2
    dsimp only at CY CZ
    have HEV := Lib.hid hev
    have Hbd := Lib.hid (And.intro bd1 bd2)
    clear hev bd1 bd2
    have r3 : (((w.alloc (.cells (expC x (some ⟨b, o, none⟩) 2 c).toArray 49)).alloc (.cells #[.int .i64 0, .int .i64 0, .string ⟨#[]⟩] 28)).alloc (.cells #[.int .i64 0, .int .i64 0] 3)).heap[w.heap.size + 2]? = some (.cells #[.int .i64 0, .int .i64 0] 3 (0, 0)) := heapNew (by simp)
    have r2 : (((w.alloc (.cells (expC x (some ⟨b, o, none⟩) 2 c).toArray 49)).alloc (.cells #[.int .i64 0, .int .i64 0, .string ⟨#[]⟩] 28)).alloc (.cells #[.int .i64 0, .int .i64 0] 3)).heap[w.heap.size + 1]? = some (.cells #[.int .i64 0, .int .i64 0, .string ⟨#[]⟩] 28 (0, 0)) := heapOld (heapNew (by simp))
    have r1 : (((w.alloc (.cells (expC x (some ⟨b, o, none⟩) 2 c).toArray 49)).alloc (.cells #[.int .i64 0, .int .i64 0, .string ⟨#[]⟩] 28)).alloc (.cells #[.int .i64 0, .int .i64 0] 3)).heap[w.heap.size]? = some (.cells (expC x (some ⟨b, o, none⟩) 2 c).toArray 49 (0, 0)) := heapOld (heapOld (heapNew rfl))
    have hb3 : Below w.heap.size w (((w.alloc (.cells (expC x (some ⟨b, o, none⟩) 2 c).toArray 49)).alloc (.cells #[.int .i64 0, .int .i64 0, .string ⟨#[]⟩] 28)).alloc (.cells #[.int .i64 0, .int .i64 0] 3)) := belowA (belowA (belowA (Below.refl _ _) _) _) _
    go_enter Tryz.func102, Tryz.ntmps102
    go_wp2_with fail
    try simp only [Nat.add_assoc, Nat.reduceAdd]
    generalize ((w.alloc _).alloc _).alloc _ = w3 at *
    have Hw3 := Lib.hid (And.intro r1 (And.intro r2 (And.intro r3 hb3)))
    clear r1 r2 r3 hb3
    go_loopw [7] (fun i wr => ∃ j : Nat, j ≤ 2 ∧ i = .int .i64 j ∧ Hid ((1 ≤ j → e1 = 0 ∧ v1.k = 1) ∧ (2 ≤ j → e2 = 0 ∧ v2.k = 1)) ∧ wr.heap[w.heap.size]? = some (.cells (expC x (some ⟨b, o, none⟩) 2 c).toArray 49 (0, 0)) ∧ wr.heap[w.heap.size + 1]? = some (.cells #[.int .i64 0, .int .i64 0, .string ⟨#[]⟩] 28 (0, 0)) ∧ wr.heap[w.heap.size + 2]? = some (.cells (twoN j v1.n v2.n) 3 (0, 0)) ∧ Below w.heap.size w wr) (fun i _ => 2 - (intOf i).toNat)
    case atStart => exact ⟨0, by omega, rfl, ⟨fun h => by omega, fun h => by omega⟩, Hw3.out.1, Hw3.out.2.1, Hw3.out.2.2.1, Hw3.out.2.2.2⟩
    case round =>
      obtain ⟨j, hj, rfl, Hpre, h1, h2, h3, hbr⟩ := hrel
      have hj3 : j = 0 ∨ j = 1 ∨ j = 2 := by omega
      rcases hj3 with rfl | rfl | rfl
      · have i0 : (0 : Int) < 2 := by omega
        have hlt3 : w.heap.size + 2 < wr.heap.size := (Array.getElem?_eq_some_iff.1 h3).1
        obtain ⟨x0, x1, x2, x3, x4, x5⟩ := facts6 h1
        obtain ⟨u0, u1, u2, u3, u4, u5⟩ := HY.out wr hbr
        have HC := Lib.hid (CY.out wr hbr)
        by_cases he : e1 = 0
        rotate_left
        · have q4 : (e1 != 0) = true := by simp [he]
          have HG := Lib.hid (HPost.out (gv0, e1) (by
            rw [HEV.out, numV_err (p := (v1, e1)) he]
            simp [he]))
          clear he HPost HEV Hpre
          go_wp2_with fail
          refine HC.out.mono ?_
          rintro r w1 ⟨rfl, hb1⟩
          have HB1 := Lib.hid (below_next hbr hb1)
          have hh2 := (hb1.block _ (by omega)).trans h2
          obtain ⟨s0, s1, s2⟩ := facts3 hh2
          obtain ⟨f0, f1, f2⟩ := frz3 hh2
          have hlt4 : w.heap.size + 2 < w1.heap.size := by have := hb1.size; omega
          have hz1 : w.heap.size + 1 < w1.heap.size := by omega
          clear hb1 x0 x1 x2 x3 x4 x5 u0 u1 u2 u3 u4 u5
          go_wp2_with fail
          first
            | exact HG.out _ (belowA (((HB1.out.setCell (by simp) _).setCell (by simp) _).setCell (by simp) _) _)
            | exact bodyPost_ret (v := .tuple #[gv0.v, .int .i64 e1]) (by simp [results, Tryz.results102, go_sem, gv0, hz1, s0, s1, s2]) rfl (HG.out _ (belowA (((HB1.out.setCell (by simp) _).setCell (by simp) _).setCell (by simp) _) _))
        subst he
        by_cases hk : v1.k = 1
        rotate_left
        · have q4 : (v1.k != 1) = true := by simp [hk]
          have HG := Lib.hid (HPost.out (gv0, 7) (by
            rw [HEV.out, numV_kind (p := (v1, 0)) rfl hk]
            simp))
          clear hk HPost HEV Hpre
          go_wp2_with fail
          refine HC.out.mono ?_
          rintro r w1 ⟨rfl, hb1⟩
          have HB1 := Lib.hid (below_next hbr hb1)
          have hh2 := (hb1.block _ (by omega)).trans h2
          obtain ⟨s0, s1, s2⟩ := facts3 hh2
          obtain ⟨f0, f1, f2⟩ := frz3 hh2
          have hlt4 : w.heap.size + 2 < w1.heap.size := by have := hb1.size; omega
          have hz1 : w.heap.size + 1 < w1.heap.size := by omega
          clear hb1 x0 x1 x2 x3 x4 x5 u0 u1 u2 u3 u4 u5
          go_wp2_with fail
          first
            | exact HG.out _ (belowA (((HB1.out.setCell (by simp) _).setCell (by simp) _).setCell (by simp) _) _)
            | exact bodyPost_ret (v := .tuple #[gv0.v, .int .i64 7]) (by simp [results, Tryz.results102, go_sem, gv0, hz1, s0, s1, s2]) rfl (HG.out _ (belowA (((HB1.out.setCell (by simp) _).setCell (by simp) _).setCell (by simp) _) _))
        have q4 : (v1.k != 1) = false := by simp [hk]
        have Hk := Lib.hid hk
        clear hk
        go_wp2_with fail
        refine HC.out.mono ?_
        rintro r w1 ⟨rfl, hb1⟩
        have HB1 := Lib.hid (below_next hbr hb1)
        have hh1 := Lib.hid ((hb1.block _ (by omega)).trans h1)
        have hh2 := Lib.hid ((hb1.block _ (by omega)).trans h2)
        have hh3 := Lib.hid ((hb1.block _ (by omega)).trans h3)
        have nn := hh3.out
        simp only [twoN] at nn
        obtain ⟨s0, s1⟩ := facts2 nn
        have f0 : w1.frozen? ⟨w.heap.size + 2, 0, none⟩ = false := frozen_of_row _ _ _ _ _ nn
        have hlt4 : w.heap.size + 2 < w1.heap.size := by have := hb1.size; omega
        have hz1 : w.heap.size + 1 < w1.heap.size := by omega
        clear hb1 x0 x1 x2 x3 x4 x5 u0 u1 u2 u3 u4 u5 nn h1 h2 h3
        go_wp2_with fail
        have hR3 := heapOld (o := .cells #[.int .i64 v1.k, .int .i64 v1.n, .string v1.s] 28) (row_set (i := 0) (.int .i64 v1.n) hh3.out)
        have hR1 := heapOld (o := .cells #[.int .i64 v1.k, .int .i64 v1.n, .string v1.s] 28) ((row_set_ne (i := 0) (b := w.heap.size + 2) (.int .i64 v1.n) (by omega)).trans hh1.out)
        have hR2 := heapOld (o := .cells #[.int .i64 v1.k, .int .i64 v1.n, .string v1.s] 28) ((row_set_ne (i := 0) (b := w.heap.size + 2) (.int .i64 v1.n) (by omega)).trans hh2.out)
        have hBw := belowA (HB1.out.setCell (p := ⟨w.heap.size + 2, 0, none⟩) (by simp) (.int .i64 v1.n)) (.cells #[.int .i64 v1.k, .int .i64 v1.n, .string v1.s] 28)
        refine ⟨⟨1, by omega, by simp, ?_, hR1, hR2, ?_, hBw⟩, ?_⟩
        · exact ⟨(fun _ => ⟨by simp, Hk.out⟩), (fun h => by omega)⟩
        · rw [hR3]; simp [twoN]
        · simp [intOf]
      · obtain ⟨he1, hk1⟩ := Hpre.out.1 (by omega)
        subst he1
        have Hk1 := Lib.hid hk1
        clear hk1
        have i0 : (1 : Int) < 2 := by omega
        have hlt3 : w.heap.size + 2 < wr.heap.size := (Array.getElem?_eq_some_iff.1 h3).1
        obtain ⟨x0, x1, x2, x3, x4, x5⟩ := facts6 h1
        obtain ⟨u0, u1, u2, u3, u4, u5⟩ := HZ.out wr hbr
        have HC := Lib.hid (CZ.out wr hbr)
        by_cases he : e2 = 0
        rotate_left
        · have q4 : (e2 != 0) = true := by simp [he]
          have HG := Lib.hid (HPost.out (gv0, e2) (by
            rw [HEV.out, numV_num (p := (v1, 0)) rfl Hk1.out, numV_err (p := (v2, e2)) he]
            simp [he]))
          clear he HPost HEV Hpre
          go_wp2_with fail
          refine HC.out.mono ?_
          rintro r w1 ⟨rfl, hb1⟩
          have HB1 := Lib.hid (below_next hbr hb1)
          have hh2 := (hb1.block _ (by omega)).trans h2
          obtain ⟨s0, s1, s2⟩ := facts3 hh2
          obtain ⟨f0, f1, f2⟩ := frz3 hh2
          have hlt4 : w.heap.size + 2 < w1.heap.size := by have := hb1.size; omega
          have hz1 : w.heap.size + 1 < w1.heap.size := by omega
          clear hb1 x0 x1 x2 x3 x4 x5 u0 u1 u2 u3 u4 u5
          go_wp2_with fail
          first
            | exact HG.out _ (belowA (((HB1.out.setCell (by simp) _).setCell (by simp) _).setCell (by simp) _) _)
            | exact bodyPost_ret (v := .tuple #[gv0.v, .int .i64 e2]) (by simp [results, Tryz.results102, go_sem, gv0, hz1, s0, s1, s2]) rfl (HG.out _ (belowA (((HB1.out.setCell (by simp) _).setCell (by simp) _).setCell (by simp) _) _))
        subst he
        by_cases hk : v2.k = 1
        rotate_left
        · have q4 : (v2.k != 1) = true := by simp [hk]
          have HG := Lib.hid (HPost.out (gv0, 7) (by
            rw [HEV.out, numV_num (p := (v1, 0)) rfl Hk1.out, numV_kind (p := (v2, 0)) rfl hk]
            simp))
          clear hk HPost HEV Hpre
          go_wp2_with fail
          refine HC.out.mono ?_
          rintro r w1 ⟨rfl, hb1⟩
          have HB1 := Lib.hid (below_next hbr hb1)
          have hh2 := (hb1.block _ (by omega)).trans h2
          obtain ⟨s0, s1, s2⟩ := facts3 hh2
          obtain ⟨f0, f1, f2⟩ := frz3 hh2
          have hlt4 : w.heap.size + 2 < w1.heap.size := by have := hb1.size; omega
          have hz1 : w.heap.size + 1 < w1.heap.size := by omega
          clear hb1 x0 x1 x2 x3 x4 x5 u0 u1 u2 u3 u4 u5
          go_wp2_with fail
          first
            | exact HG.out _ (belowA (((HB1.out.setCell (by simp) _).setCell (by simp) _).setCell (by simp) _) _)
            | exact bodyPost_ret (v := .tuple #[gv0.v, .int .i64 7]) (by simp [results, Tryz.results102, go_sem, gv0, hz1, s0, s1, s2]) rfl (HG.out _ (belowA (((HB1.out.setCell (by simp) _).setCell (by simp) _).setCell (by simp) _) _))
        have q4 : (v2.k != 1) = false := by simp [hk]
        have Hk := Lib.hid hk
        clear hk
        go_wp2_with fail
        refine HC.out.mono ?_
        rintro r w1 ⟨rfl, hb1⟩
        have HB1 := Lib.hid (below_next hbr hb1)
        have hh1 := Lib.hid ((hb1.block _ (by omega)).trans h1)
        have hh2 := Lib.hid ((hb1.block _ (by omega)).trans h2)
        have hh3 := Lib.hid ((hb1.block _ (by omega)).trans h3)
        have nn := hh3.out
        simp only [twoN] at nn
        obtain ⟨s0, s1⟩ := facts2 nn
        have f0 : w1.frozen? ⟨w.heap.size + 2, 1, none⟩ = false := frozen_of_row _ _ _ _ _ nn
        have hlt4 : w.heap.size + 2 < w1.heap.size := by have := hb1.size; omega
        have hz1 : w.heap.size + 1 < w1.heap.size := by omega
        clear hb1 x0 x1 x2 x3 x4 x5 u0 u1 u2 u3 u4 u5 nn h1 h2 h3
        go_wp2_with fail
        have hR3 := heapOld (o := .cells #[.int .i64 v2.k, .int .i64 v2.n, .string v2.s] 28) (row_set (i := 1) (.int .i64 v2.n) hh3.out)
        have hR1 := heapOld (o := .cells #[.int .i64 v2.k, .int .i64 v2.n, .string v2.s] 28) ((row_set_ne (i := 1) (b := w.heap.size + 2) (.int .i64 v2.n) (by omega)).trans hh1.out)
        have hR2 := heapOld (o := .cells #[.int .i64 v2.k, .int .i64 v2.n, .string v2.s] 28) ((row_set_ne (i := 1) (b := w.heap.size + 2) (.int .i64 v2.n) (by omega)).trans hh2.out)
        have hBw := belowA (HB1.out.setCell (p := ⟨w.heap.size + 2, 1, none⟩) (by simp) (.int .i64 v2.n)) (.cells #[.int .i64 v2.k, .int .i64 v2.n, .string v2.s] 28)
        refine ⟨⟨2, by omega, by simp, ?_, hR1, hR2, ?_, hBw⟩, ?_⟩
        · exact ⟨(fun _ => ⟨by simp, Hk1.out⟩), (fun _ => ⟨by simp, Hk.out⟩)⟩
        · rw [hR3]; simp [twoN]
        · simp [intOf]
      · obtain ⟨he1, hk1⟩ := Hpre.out.1 (by omega)
        obtain ⟨he2, hk2⟩ := Hpre.out.2 (by omega)
        subst he1 he2
        have hev := HEV.out
        have hbd := Hbd.out
        rw [numV_num (p := (v1, 0)) rfl hk1, numV_num (p := (v2, 0)) rfl hk2] at hev hbd
        dsimp only at hev hbd
        rw [if_neg (by simp), if_neg (by simp)] at hev
        have hob := opN_bnd (o := x.op) hbd.1 hbd.2
        have hmul := mul_bnd (m := 2147483647) hbd.1.1 hbd.1.2 hbd.2.1 hbd.2.2
        have hm1 : wrap64 (v1.n * v2.n) = v1.n * v2.n := by generalize v1.n * v2.n = pp at *; unfold wrap64; omega
        have hops : x.op = 1 ∨ x.op = 2 ∨ x.op = 3 := by omega
        obtain ⟨N, hN⟩ : ∃ N, opN x.op v1.n v2.n = N := ⟨_, rfl⟩
        have hq : ((x.op == 1) = true ∧ (x.op == 2) = false ∧ v1.n + v2.n = N) ∨ ((x.op == 1) = false ∧ (x.op == 2) = true ∧ v1.n - v2.n = N) ∨ ((x.op == 1) = false ∧ (x.op == 2) = false ∧ v1.n * v2.n = N) := by
          rcases hops with hop | hop | hop
          · exact .inl ⟨by simp [hop], by simp [hop], by rw [← hN, hop]; rfl⟩
          · exact .inr (.inl ⟨by simp [hop], by simp [hop], by rw [← hN, hop]; rfl⟩)
          · exact .inr (.inr ⟨by simp [hop], by simp [hop], by rw [← hN, hop]; rfl⟩)
        rw [hN] at hev hob
        have hwN : wrap64 N = N := by unfold wrap64; omega
        obtain ⟨x0, x1, x2, x3, x4, x5⟩ := facts6 h1
        obtain ⟨s0, s1, s2⟩ := facts3 h2
        obtain ⟨f0, f1, f2⟩ := frz3 h2
        have nn := h3
        simp only [twoN] at nn
        obtain ⟨n0, n1⟩ := facts2 nn
        have HBR := Lib.hid hbr
        have i0 : ¬ (2 : Int) < 2 := by omega
        have hz1 : w.heap.size + 1 < wr.heap.size := (Array.getElem?_eq_some_iff.1 h2).1
        have Hm := Lib.hid hm1
        have Hbd2 := Lib.hid hbd
        clear hk1 hk2 HEV Hbd Hpre hN hops nn h1 h2 h3 hbr hbd hmul hm1
        cases hbn : bndI N with
        | true =>
          have HG := Lib.hid (HPost.out (⟨1, N, ⟨#[]⟩⟩, 0) (by rw [hev, ofW, if_pos hbn]))
          unfold bndI at hbn
          simp only [Bool.and_eq_true, decide_eq_true_eq] at hbn
          obtain ⟨g1, g2⟩ := hbn
          have g3 : ¬ (2147483647 : Int) < N := by omega
          have g4 : ¬ N < -2147483647 := by omega
          clear HPost hev hob g1 g2
          rcases hq with ⟨q1, q2, hw⟩ | ⟨q1, q2, hw⟩ | ⟨q1, q2, hw⟩
          all_goals
            go_wp2_with fail
            go_quiet (fail)
            go_wp2_with fail
            try (go_quiet (fail))
            go_wp2_with fail
            first
              | exact HG.out _ (by repeat (first | exact HBR.out | exact Below.trans HBR.out (below_drewN _ _ _) | refine Below.setCell ?_ (by simp) _ | refine Below.trans ?_ (below_drewN _ _ _)))
              | exact bodyPost_ret (v := .tuple #[.agg #[.int .i64 1, .int .i64 N, .string ⟨#[]⟩], .int .i64 0]) (by simp [results, Tryz.results102, go_sem, gv0, s0, s1, s2]) rfl (HG.out _ (by repeat (first | exact HBR.out | exact Below.trans HBR.out (below_drewN _ _ _) | refine Below.setCell ?_ (by simp) _ | refine Below.trans ?_ (below_drewN _ _ _))))
        | false =>
          have HG := Lib.hid (HPost.out (gv0, 10) (by rw [hev, ofW, if_neg (by rw [hbn]; simp)]))
          unfold bndI at hbn
          clear HPost hev
          have gg : (2147483647 : Int) < N ∨ (¬ (2147483647 : Int) < N ∧ N < -2147483647) := by
            simp only [Bool.and_eq_false_iff, decide_eq_false_iff_not] at hbn
            omega
          clear hbn hob
          rcases gg with g3 | ⟨g3, g4⟩ <;> rcases hq with ⟨q1, q2, hw⟩ | ⟨q1, q2, hw⟩ | ⟨q1, q2, hw⟩
          all_goals
            go_wp2_with fail
            go_quiet (fail)
            go_wp2_with fail
            try (go_quiet (fail))
            go_wp2_with fail
            first
              | exact HG.out _ (by repeat (first | exact HBR.out | exact Below.trans HBR.out (below_drewN _ _ _) | refine Below.setCell ?_ (by simp) _ | refine Below.trans ?_ (below_drewN _ _ _)))
              | exact bodyPost_ret (v := .tuple #[gv0.v, .int .i64 10]) (by simp [results, Tryz.results102, go_sem, gv0, s0, s1, s2]) rfl (HG.out _ (by repeat (first | exact HBR.out | exact Below.trans HBR.out (below_drewN _ _ _) | refine Below.setCell ?_ (by simp) _ | refine Below.trans ?_ (below_drewN _ _ _))))
end Go.Proofs.YtgabkmibfhmkmaaGreatDoor
