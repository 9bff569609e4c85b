/- My own texts ArE, ArH, as far as this claim needs them. -/
import Derived.Test.YtgabkmibfhmkmaaGreatDoorZe14
import Derived.Test.YtgabkmibfhmkmaaGreatDoorZe29
set_option linter.unusedVariables false
set_option linter.unusedSimpArgs false
namespace Go.Proofs.YtgabkmibfhmkmaaGreatDoor
open Go.RowKit
set_option maxRecDepth 100000 in
set_option maxHeartbeats 400000 in
theorem ofw_any (n : Int) (w : World) : Calls Tryz.prog 181 #[.int .i64 n] w (TermErr (ofW n) (errV 66) w) := by
  have hb := fun w => bounded_any n w
  cases h : bndI n with
  | true =>
    have HE : Hid (ofW n = (⟨1, n, ⟨#[]⟩⟩, 0)) := by show _ = _; rw [ofW, if_pos h]
    rw [show (decide (-2147483647 ≤ n) && decide (n ≤ 2147483647)) = true from h] at hb
    have hb := Lib.hid hb
    clear h
    go_enter Tryz.func181, Tryz.ntmps181
    go_wp2_with fail
    refine (hb.out _).mono ?_
    rintro e w1 ⟨rfl, hq1⟩
    obtain ⟨hc, hf⟩ := bcell hq1
    have hz := hq1.size
    simp only [World.size_alloc, Nat.add_one_le_iff] at hz hc hf
    go_wp2_with fail
    exact bodyPost_ret (v := .tuple #[.agg #[.int .i64 1, .int .i64 n, .string ⟨#[]⟩], .nilIface]) (by simp [results, Tryz.results181, go_sem, hc]) rfl ⟨by rw [HE.out]; rfl, (((below_next (belowA (Below.refl _ w) _) hq1).setCell (Nat.le_refl _) _).setCell (Nat.le_refl _) _).setCell (Nat.le_refl _) _⟩
  | false =>
    have HE : Hid (ofW n = (gv0, 10)) := by show _ = _; rw [ofW, if_neg (by rw [h]; simp)]
    rw [show (decide (-2147483647 ≤ n) && decide (n ≤ 2147483647)) = false from h] at hb
    have hb := Lib.hid hb
    clear h
    go_enter Tryz.func181, Tryz.ntmps181
    go_wp2_with fail
    refine (hb.out _).mono ?_
    rintro e w1 ⟨rfl, hq1⟩
    obtain ⟨hc, hf⟩ := bcell hq1
    have hz := hq1.size
    simp only [World.size_alloc, Nat.add_one_le_iff] at hz hc hf
    go_wp2_with fail
    exact bodyPost_ret (v := .tuple #[gv0.v, .iface 66 (.int .i64 10)]) (by simp [results, Tryz.results181, go_sem, hc, gv0]) rfl ⟨by rw [HE.out]; rfl, (((below_next (belowA (Below.refl _ w) _) hq1).setCell (Nat.le_refl _) _).setCell (Nat.le_refl _) _).setCell (Nat.le_refl _) _⟩
theorem frz3 {w : World} {b : Nat} {cs : Array Value} {T : TypeId} (h : w.heap[b]? = some (.cells cs T (0, 0))) : w.frozen? ⟨b, 0, none⟩ = false ∧ w.frozen? ⟨b, 1, none⟩ = false ∧ w.frozen? ⟨b, 2, none⟩ = false :=
  ⟨frozen_of_row _ _ _ _ _ h, frozen_of_row _ _ _ _ _ h, frozen_of_row _ _ _ _ _ h⟩
def NumP (q : Int × Int) (w : World) (e : Ending) (w' : World) : Prop := e = .returned (.tuple #[.int .i64 q.1, errV 66 q.2]) ∧ Below w.heap.size w w'
set_option maxRecDepth 100000 in
set_option maxHeartbeats 1000000 in
theorem number_any (p : GV × Int) (x : GExp) (A : Option Addr) (n c : Nat) (m : Value) (w : World) (H : ∀ W, Below w.heap.size w W → Calls Tryz.prog 97 #[expV x A n c, m] W (TermErr p (errV 66) W)) :
    Calls Tryz.prog 180 #[expV x A n c, m] w (NumP (numV p) w) := by
  obtain ⟨v, er⟩ := p
  have hba : Below w.heap.size w (w.alloc (.cells (expC x A n c).toArray 33)) := belowA (Below.refl _ _) _
  have HC := Lib.hid (H _ hba)
  have HB := Lib.hid hba
  clear H hba
  by_cases he : er = 0
  · subst he
    by_cases hk : v.k = 1
    · have HE : Hid (numV (v, 0) = (v.n, 0)) := by show _ = _; simp [numV, hk]
      have q0 : (v.k != 1) = false := by simp [hk]
      clear hk
      go_enter Tryz.func180, Tryz.ntmps180
      go_wp2_with fail
      refine HC.out.mono ?_
      rintro e w1 ⟨rfl, hb⟩
      have HB1 := Lib.hid (below_next HB.out hb)
      have hz := hb.size
      clear hb
      simp only [errV, if_true]
      go_wp2_with fail
      exact bodyPost_ret (v := .tuple #[.int .i64 v.n, .nilIface]) (by simp [results, Tryz.results180, go_sem]) rfl ⟨by rw [HE.out]; rfl, belowA HB1.out _⟩
    · have HE : Hid (numV (v, 0) = (0, 7)) := by show _ = _; simp [numV, hk]
      have q0 : (v.k != 1) = true := by simp [hk]
      clear hk
      go_enter Tryz.func180, Tryz.ntmps180
      go_wp2_with fail
      refine HC.out.mono ?_
      rintro e w1 ⟨rfl, hb⟩
      have HB1 := Lib.hid (below_next HB.out hb)
      have hz := hb.size
      clear hb
      simp only [errV, if_true]
      go_wp2_with fail
      exact bodyPost_ret (v := .tuple #[.int .i64 0, .iface 66 (.int .i64 7)]) (by simp [results, Tryz.results180, go_sem]) rfl ⟨by rw [HE.out]; rfl, belowA HB1.out _⟩
  · have HE : Hid (numV (v, er) = (0, er)) := by show _ = _; simp [numV, he]
    have he2 : errV 66 er = .iface 66 (.int .i64 er) := by unfold errV; rw [if_neg he]
    unfold TermErr at HC
    simp only [he2] at HC
    have He2 := Lib.hid he2
    clear he he2
    go_enter Tryz.func180, Tryz.ntmps180
    go_wp2_with fail
    refine HC.out.mono ?_
    rintro e w1 ⟨rfl, hb⟩
    have HB1 := Lib.hid (below_next HB.out hb)
    have hz := hb.size
    clear hb
    go_wp2_with fail
    exact bodyPost_ret (v := .tuple #[.int .i64 0, .iface 66 (.int .i64 er)]) (by simp [results, Tryz.results180, go_sem]) rfl ⟨by rw [HE.out, ← He2.out], belowA HB1.out _⟩
set_option maxRecDepth 100000 in
set_option maxHeartbeats 1000000 in
theorem evalLeaf_any (m : Value) (f : ByteArray → Option GV) (x : GExp) (A : Option Addr) (n c : Nat) (w : World) (h0 : x.op = 0) (hm : EnvIs w m f) : Calls Tryz.prog 97 #[expV x A n c, m] w (TermErr (termS f x.t) (errV 66) w) := by
  have hba : Below w.heap.size w ((w.alloc (.cells (expC x A n c).toArray 33)).alloc (.cells #[.int .i64 0, .int .i64 0, .string ⟨#[]⟩] 28)) := belowA (belowA (Below.refl _ _) _) _
  have HC := Lib.hid (aterm_any m f x.t _ (hm.below hba))
  have HB := Lib.hid hba
  have q0 : (x.op == 0) = true := by simp [h0]
  clear hba hm h0
  unfold TermErr at HC ⊢
  generalize termS f x.t = p at *
  generalize errV 66 p.2 = ev at *
  obtain ⟨v, er⟩ := p
  go_enter Tryz.func97, Tryz.ntmps97
  go_wp2_with fail
  refine HC.out.mono ?_
  rintro e w1 ⟨rfl, hb⟩
  have HB1 := Lib.hid (below_next HB.out hb)
  obtain ⟨hc, hf⟩ := bcell hb
  have hz := hb.size
  simp only [World.size_alloc, Nat.add_one_le_iff] at hz hc hf
  clear hb
  go_wp2_with fail
  exact bodyPost_ret (v := .tuple #[v.v, ev]) (by simp [results, Tryz.results97, go_sem, hc]) rfl ⟨rfl, ((HB1.out.setCell (by simp) _).setCell (by simp) _).setCell (by simp) _⟩
set_option maxRecDepth 100000 in
set_option maxHeartbeats 4000000 in
theorem eval_any (m : Value) (f : ByteArray → Option GV) : ∀ (k : Nat) (x : GExp) (A : Option Addr) (n c d : Nat) (w : World), rightE k x = true → SliceIs (Enc.exp d) w w.heap.size A n c x.kids → EnvIs w m f → Calls Tryz.prog 97 #[expV x A n c, m] w (TermErr (evalS f k x) (errV 66) w) := by
  intro k
  induction k with
  | zero =>
    intro x A n c d w hr hk hm
    have h0 : x.op = 0 := by
      by_cases h0 : x.op = 0
      · exact h0
      · rw [rightE_flat h0] at hr; cases hr
    rw [evalS_leaf h0]
    exact evalLeaf_any m f x A n c w h0 hm
  | succ k ih =>
    intro x A n c d w hr hk hm
    by_cases h0 : x.op = 0
    · rw [evalS_leaf h0]
      exact evalLeaf_any m f x A n c w h0 hm
    have IH := Lib.hid ih
    clear ih
    obtain ⟨y, z, hks, hry, hrz, ho1, ho3⟩ : ∃ y z, x.kids = [y, z] ∧ rightE k y = true ∧ rightE k z = true ∧ 1 ≤ x.op ∧ x.op ≤ 3 := by
      rw [rightE, if_neg h0, Bool.and_eq_true] at hr
      obtain ⟨h1, h2⟩ := hr
      unfold opE at h1
      simp only [Bool.and_eq_true, decide_eq_true_eq] at h1
      split at h2
      · rename_i a b hk
        rw [Bool.and_eq_true] at h2
        exact ⟨a, b, hk, h2.1, h2.2, h1.1.1, h1.1.2⟩
      · cases h2
    have HEV : Hid (evalS f (k + 1) x = if (numV (evalS f k y)).2 ≠ 0 then (gv0, (numV (evalS f k y)).2) else if (numV (evalS f k z)).2 ≠ 0 then (gv0, (numV (evalS f k z)).2) else ofW (opN x.op (numV (evalS f k y)).1 (numV (evalS f k z)).1)) := evalS_two h0 hks
    have hn2 : n = 2 := by have := hk.1; rw [hks] at this; exact this.symm
    subst hn2
    obtain ⟨b, o, y', Ay, ny, cy, dy, rfl, hbb, hky, hdy, y0, y1, y2, y3, y4, y5, -, -, -, hkky⟩ := hk.exp_at (i := 0) (by omega)
    obtain ⟨b', o', z', Az, nz, cz, dz, hAz, hbb', hkz, hdz, z0, z1, z2, z3, z4, z5, -, -, -, hkkz⟩ := hk.exp_at (i := 1) (by omega)
    obtain rfl : y = y' := by have := hky.out; rw [hks] at this; simpa using this
    obtain rfl : z = z' := by have := hkz.out; rw [hks] at this; simpa using this
    injection hAz with hAz
    injection hAz with e1 e2 _
    subst e1 e2
    simp only [Nat.zero_mul, Nat.add_zero, Nat.one_mul] at y0 y1 y2 y3 y4 y5 z0 z1 z2 z3 z4 z5
    have hba : Below w.heap.size w ((w.alloc (.cells (expC x (some ⟨b, o, none⟩) 2 c).toArray 33)).alloc (.cells #[.int .i64 0, .int .i64 0, .string ⟨#[]⟩] 28)) := belowA (belowA (Below.refl _ _) _) _
    have hrow : ((w.alloc (.cells (expC x (some ⟨b, o, none⟩) 2 c).toArray 33)).alloc (.cells #[.int .i64 0, .int .i64 0, .string ⟨#[]⟩] 28)).heap[w.heap.size]? = some (.cells (expC x (some ⟨b, o, none⟩) 2 c).toArray 33 (0, 0)) := heapOld (heapNew rfl)
    have CY := Lib.hid (fun (W : World) (hb : Below w.heap.size w W) => number_any (evalS f k y) y Ay ny cy m W (fun W' hb' => IH.out y Ay ny cy dy W' hry ((hkky.keep hb).keep hb') ((hm.below hb).below hb')))
    have CZ := Lib.hid (fun (W : World) (hb : Below w.heap.size w W) => number_any (evalS f k z) z Az nz cz m W (fun W' hb' => IH.out z Az nz cz dz W' hrz ((hkkz.keep hb).keep hb') ((hm.below hb).below hb')))
    have HY : Hid (∀ W, Below w.heap.size w W → W.cell? ⟨b, o, none⟩ = some (.int .i64 y.op) ∧ W.cell? ⟨b, o + 1, none⟩ = some (.string y.t.x) ∧ W.cell? ⟨b, o + 2, none⟩ = some (.int .i64 y.t.v.k) ∧ W.cell? ⟨b, o + 3, none⟩ = some (.int .i64 y.t.v.n) ∧ W.cell? ⟨b, o + 4, none⟩ = some (.string y.t.v.s) ∧ W.cell? ⟨b, o + 5, none⟩ = some (.slice Ay ny cy)) :=
      fun W h => ⟨below_cell h y0, below_cell h y1, below_cell h y2, below_cell h y3, below_cell h y4, below_cell h y5⟩
    have HZ : Hid (∀ W, Below w.heap.size w W → W.cell? ⟨b, o + 6, none⟩ = some (.int .i64 z.op) ∧ W.cell? ⟨b, o + 6 + 1, none⟩ = some (.string z.t.x) ∧ W.cell? ⟨b, o + 6 + 2, none⟩ = some (.int .i64 z.t.v.k) ∧ W.cell? ⟨b, o + 6 + 3, none⟩ = some (.int .i64 z.t.v.n) ∧ W.cell? ⟨b, o + 6 + 4, none⟩ = some (.string z.t.v.s) ∧ W.cell? ⟨b, o + 6 + 5, none⟩ = some (.slice Az nz cz)) :=
      fun W h => ⟨below_cell h z0, below_cell h z1, below_cell h z2, below_cell h z3, below_cell h z4, below_cell h z5⟩
    have bnd1 := Lib.hid (numV_bnd (f := f) (k := k) (e := y))
    have bnd2 := Lib.hid (numV_bnd (f := f) (k := k) (e := z))
    have q0 : (x.op == 0) = false := by simp [h0]
    obtain ⟨P, HP⟩ : ∃ P : Ending → World → Prop, Hid (P = TermErr (evalS f (k + 1) x) (errV 66) w) := ⟨_, rfl⟩
    rw [← HP.out]
    have HPost : Hid (∀ p : GV × Int, evalS f (k + 1) x = p → ∀ w', Below w.heap.size w w' → P (.returned (.tuple #[p.1.v, errV 66 p.2])) w') := fun p hp w' hb => by rw [HP.out, hp]; exact ⟨rfl, hb⟩
    clear hky hkz hdy hdz hkky hkkz hks hry hrz hr hk hm y0 y1 y2 y3 y4 y5 z0 z1 z2 z3 z4 z5 hbb hbb' IH h0 HP
    generalize hp1 : numV (evalS f k y) = p1 at *
    generalize hp2 : numV (evalS f k z) = p2 at *
    clear hp1 hp2
    obtain ⟨i1, e1⟩ := p1
    obtain ⟨i2, e2⟩ := p2
    have hev := HEV.out
    have bd1 := bnd1.out
    have bd2 := bnd2.out
    dsimp only at hev bd1 bd2
    have CY1 := CY.out
    have CZ1 := CZ.out
    unfold NumP at CY1 CZ1
    dsimp only at CY1 CZ1
    clear HEV CY CZ bnd1 bnd2
    generalize hwb : (w.alloc (.cells (expC x (some ⟨b, o, none⟩) 2 c).toArray 33)).alloc (.cells #[.int .i64 0, .int .i64 0, .string ⟨#[]⟩] 28) = wb at *
    have hlt : w.heap.size + 2 ≤ wb.heap.size := by rw [← hwb]; simp
    have HROW : Hid (∀ W, Below wb.heap.size wb W → W.heap[w.heap.size]? = some (.cells (expC x (some ⟨b, o, none⟩) 2 c).toArray 33 (0, 0))) := fun W h => (h.block _ (by omega)).trans hrow
    have hz3 : wb.heap[w.heap.size + 1]? = some (.cells #[.int .i64 0, .int .i64 0, .string ⟨#[]⟩] 28 (0, 0)) := by rw [← hwb]; exact heapNew (by simp)
    have HZ3 : Hid (∀ W, Below wb.heap.size wb W → W.heap[w.heap.size + 1]? = some (.cells #[.int .i64 0, .int .i64 0, .string ⟨#[]⟩] 28 (0, 0))) := fun W h => (h.block _ (by omega)).trans hz3
    have HBA := Lib.hid hba
    obtain ⟨r0, r1, r2, r3, r4, r5⟩ := facts6 hrow
    obtain ⟨v0, v1, v2, v3, v4, v5⟩ := HY.out wb hba
    clear hrow hz3 hba HY
    by_cases he1 : e1 = 0
    rotate_left
    · have HG := Lib.hid (HPost.out (gv0, e1) (by rw [hev, if_pos he1]))
      have ev : errV 66 e1 = .iface 66 (.int .i64 e1) := by unfold errV; rw [if_neg he1]
      dsimp only at HG
      rw [ev] at HG
      simp only [ev] at CY1
      have CY := Lib.hid CY1
      clear he1 ev hev CY1 CZ1 HPost HZ
      go_enter Tryz.func97, Tryz.ntmps97
      go_wp2_with fail
      try simp only [hwb]
      clear hwb
      go_wp2_with fail
      refine (CY.out _ HBA.out).mono ?_
      rintro e w1 ⟨rfl, hb1⟩
      have HB1 := Lib.hid (below_next HBA.out hb1)
      obtain ⟨s0, s1, s2⟩ := facts3 (HZ3.out _ hb1)
      obtain ⟨z0, z1, z2⟩ := frz3 (HZ3.out _ hb1)
      have hz1 : w.heap.size + 1 < w1.heap.size := by have := hb1.size; omega
      clear hb1
      go_wp2_with fail
      exact bodyPost_ret (v := .tuple #[gv0.v, .iface 66 (.int .i64 e1)]) (by simp [results, Tryz.results97, go_sem, gv0, s0, s1, s2]) rfl (HG.out _ (((HB1.out.setCell (by simp) _).setCell (by simp) _).setCell (by simp) _))
    subst he1
    rw [if_neg (by simp)] at hev
    simp only [errV, if_true] at CY1
    have CY := Lib.hid CY1
    clear CY1
    by_cases he2 : e2 = 0
    rotate_left
    · have HG := Lib.hid (HPost.out (gv0, e2) (by rw [hev, if_pos he2]))
      have ev : errV 66 e2 = .iface 66 (.int .i64 e2) := by unfold errV; rw [if_neg he2]
      dsimp only at HG
      rw [ev] at HG
      simp only [ev] at CZ1
      have CZ := Lib.hid CZ1
      clear he2 ev hev CZ1 HPost
      go_enter Tryz.func97, Tryz.ntmps97
      go_wp2_with fail
      try simp only [hwb]
      clear hwb
      go_wp2_with fail
      refine (CY.out _ HBA.out).mono ?_
      rintro e w1 ⟨rfl, hb1⟩
      obtain ⟨r0', r1', r2', r3', r4', r5'⟩ := facts6 (HROW.out _ hb1)
      obtain ⟨u0, u1, u2, u3, u4, u5⟩ := HZ.out w1 (below_next HBA.out hb1)
      have HB1 := Lib.hid hb1
      clear hb1 r0 r1 r2 r3 r4 r5 v0 v1 v2 v3 v4 v5
      go_wp2_with fail
      refine (CZ.out _ (below_next HBA.out HB1.out)).mono ?_
      rintro e w2 ⟨rfl, hb2⟩
      have hb12 := below_next HB1.out hb2
      have HB2 := Lib.hid (below_next HBA.out hb12)
      obtain ⟨s0, s1, s2⟩ := facts3 (HZ3.out _ hb12)
      obtain ⟨z0, z1, z2⟩ := frz3 (HZ3.out _ hb12)
      have hz1 : w.heap.size + 1 < w2.heap.size := by have := hb12.size; omega
      clear hb2 hb12
      go_wp2_with fail
      exact bodyPost_ret (v := .tuple #[gv0.v, .iface 66 (.int .i64 e2)]) (by simp [results, Tryz.results97, go_sem, gv0, s0, s1, s2]) rfl (HG.out _ (((HB2.out.setCell (by simp) _).setCell (by simp) _).setCell (by simp) _))
    subst he2
    rw [if_neg (by simp)] at hev
    simp only [errV, if_true] at CZ1
    have CZ := Lib.hid CZ1
    clear CZ1
    have hob := opN_bnd (o := x.op) bd1 bd2
    have HG := Lib.hid (HPost.out _ hev)
    clear HPost hev
    have hops : x.op = 1 ∨ x.op = 2 ∨ x.op = 3 := by omega
    obtain ⟨N, hN⟩ : ∃ N, opN x.op i1 i2 = N := ⟨_, rfl⟩
    rw [hN] at HG hob
    have CO := Lib.hid (fun W => ofw_any N W)
    unfold TermErr at CO
    generalize ofW N = pn at *
    obtain ⟨vn, en⟩ := pn
    dsimp only at CO HG
    generalize errV 66 en = en' at *
    have hq : ((x.op == 1) = true ∧ i1 + i2 = N) ∨ ((x.op == 1) = false ∧ (x.op == 2) = true ∧ i1 - i2 = N) ∨ ((x.op == 1) = false ∧ (x.op == 2) = false ∧ wrap64 (i1 * i2) = N) := by
      rcases hops with hop | hop | hop
      · exact .inl ⟨by simp [hop], by rw [← hN, hop]; rfl⟩
      · exact .inr (.inl ⟨by simp [hop], by simp [hop], by rw [← hN, hop]; rfl⟩)
      · refine .inr (.inr ⟨by simp [hop], by simp [hop], ?_⟩)
        have : opN x.op i1 i2 = i1 * i2 := by rw [hop]; rfl
        rw [← hN, this]; rw [← hN, this] at hob; generalize i1 * i2 = pp at *; unfold wrap64; omega
    clear hN hob ho1 ho3 hops
    rcases hq with ⟨q1, hw⟩ | ⟨q1, q2, hw⟩ | ⟨q1, q2, hw⟩
    all_goals
      go_enter Tryz.func97, Tryz.ntmps97
      go_wp2_with fail
      try simp only [hwb]
      clear hwb
      go_wp2_with fail
      refine (CY.out _ HBA.out).mono ?_
      rintro e w1 ⟨rfl, hb1⟩
      obtain ⟨r0', r1', r2', r3', r4', r5'⟩ := facts6 (HROW.out _ hb1)
      obtain ⟨u0, u1, u2, u3, u4, u5⟩ := HZ.out w1 (below_next HBA.out hb1)
      have HB1 := Lib.hid hb1
      clear hb1 r0 r1 r2 r3 r4 r5 v0 v1 v2 v3 v4 v5
      go_wp2_with fail
      refine (CZ.out _ (below_next HBA.out HB1.out)).mono ?_
      rintro e w2 ⟨rfl, hb2⟩
      have HB2 := Lib.hid (below_next HB1.out hb2)
      obtain ⟨t0, t1, t2, t3, t4, t5⟩ := facts6 (HROW.out _ HB2.out)
      clear hb2 r0' r1' r2' r3' r4' r5' u0 u1 u2 u3 u4 u5
      go_wp2_with fail
      refine (CO.out _).mono ?_
      rintro e w3 ⟨rfl, hb3⟩
      have hb13 := below_next HB2.out hb3
      have HB3 := Lib.hid (below_next HBA.out hb13)
      obtain ⟨s0, s1, s2⟩ := facts3 (HZ3.out _ hb13)
      obtain ⟨z0, z1, z2⟩ := frz3 (HZ3.out _ hb13)
      have hz1 : w.heap.size + 1 < w3.heap.size := by have := hb13.size; omega
      clear hb3 hb13
      go_wp2_with fail
      exact bodyPost_ret (v := .tuple #[vn.v, en']) (by simp [results, Tryz.results97, go_sem, s0, s1, s2]) rfl (HG.out _ (((HB3.out.setCell (by simp) _).setCell (by simp) _).setCell (by simp) _))
end Go.Proofs.YtgabkmibfhmkmaaGreatDoor

namespace Go.Proofs.YtgabkmibfhmkmaaGreatDoor
open Go.RowKit
def RetBE (q : Bool × Int) (err : Int → Value) (w : World) (e : Ending) (w' : World) : Prop := e = .returned (.tuple #[.bool q.1, err q.2]) ∧ Below w.heap.size w w'
set_option maxRecDepth 100000 in
set_option maxHeartbeats 4000000 in
theorem holds_any (op : Int) (a b : GV) (w : World) : Calls Tryz.prog 98 #[.int .i64 op, a.v, b.v] w (RetBE (holdsS op a b) (errV 66) w) := by
  obtain ⟨P, HP⟩ : ∃ P : Ending → World → Prop, Hid (P = RetBE (holdsS op a b) (errV 66) w) := ⟨_, rfl⟩
  rw [← HP.out]
  have HPost : Hid (∀ q : Bool × Int, holdsS op a b = q → ∀ w', Below w.heap.size w w' → P (.returned (.tuple #[.bool q.1, errV 66 q.2])) w') := fun p hp w' hb => by rw [HP.out, hp]; exact ⟨rfl, hb⟩
  clear HP
  have hba : Below w.heap.size w ((w.alloc (.cells #[.int .i64 a.k, .int .i64 a.n, .string a.s] 28)).alloc (.cells #[.int .i64 b.k, .int .i64 b.n, .string b.s] 28)) := belowA (belowA (Below.refl _ _) _) _
  have ra : ((w.alloc (.cells #[.int .i64 a.k, .int .i64 a.n, .string a.s] 28)).alloc (.cells #[.int .i64 b.k, .int .i64 b.n, .string b.s] 28)).heap[w.heap.size]? = some (.cells #[.int .i64 a.k, .int .i64 a.n, .string a.s] 28 (0, 0)) := heapOld (heapNew rfl)
  have rb : ((w.alloc (.cells #[.int .i64 a.k, .int .i64 a.n, .string a.s] 28)).alloc (.cells #[.int .i64 b.k, .int .i64 b.n, .string b.s] 28)).heap[w.heap.size + 1]? = some (.cells #[.int .i64 b.k, .int .i64 b.n, .string b.s] 28 (0, 0)) := heapNew (by simp)
  by_cases h1 : op < 1
  · have HG := Lib.hid (HPost.out (false, 2) (by simp [holdsS, h1]))
    clear HPost ra rb
    go_enter Tryz.func98, Tryz.ntmps98
    go_wp2_with fail
    try go_ret2
    exact HG.out _ hba
  by_cases h6 : 6 < op
  · have HG := Lib.hid (HPost.out (false, 2) (by simp [holdsS, h6]))
    clear HPost ra rb
    go_enter Tryz.func98, Tryz.ntmps98
    go_wp2_with fail
    try go_ret2
    exact HG.out _ hba
  have HA := Lib.hid (fun W => right_any a W)
  have HB := Lib.hid (fun W => right_any b W)
  generalize hwb : (w.alloc (.cells #[.int .i64 a.k, .int .i64 a.n, .string a.s] 28)).alloc (.cells #[.int .i64 b.k, .int .i64 b.n, .string b.s] 28) = wb at *
  have HF : Hid (∀ W, Below wb.heap.size wb W → (W.cell? ⟨w.heap.size, 0, none⟩ = some (.int .i64 a.k) ∧ W.cell? ⟨w.heap.size, 1, none⟩ = some (.int .i64 a.n) ∧ W.cell? ⟨w.heap.size, 2, none⟩ = some (.string a.s)) ∧ (W.cell? ⟨w.heap.size + 1, 0, none⟩ = some (.int .i64 b.k) ∧ W.cell? ⟨w.heap.size + 1, 1, none⟩ = some (.int .i64 b.n) ∧ W.cell? ⟨w.heap.size + 1, 2, none⟩ = some (.string b.s))) :=
    fun W h => ⟨facts3 ((h.block _ (Array.getElem?_eq_some_iff.1 ra).1).trans ra), facts3 ((h.block _ (Array.getElem?_eq_some_iff.1 rb).1).trans rb)⟩
  obtain ⟨⟨a0, a1, a2⟩, b0, b1, b2⟩ := HF.out wb (Below.refl _ _)
  clear ra rb
  have HBA := Lib.hid hba
  clear hba
  cases hra : rightB a with
  | false =>
    have HG := Lib.hid (HPost.out (false, 2) (by simp [holdsS, hra]))
    have HA2 := Lib.hid (hra ▸ HA.out)
    clear HPost HA HB hra
    go_enter Tryz.func98, Tryz.ntmps98
    go_wp2_with fail
    try simp only [hwb]
    go_wp2_with fail
    refine (HA2.out _).mono ?_
    rintro e w1 ⟨rfl, hb1⟩
    have HB1 := Lib.hid (below_next HBA.out hb1)
    clear hb1
    go_wp2_with fail
    try go_ret2
    exact HG.out _ HB1.out
  | true =>
    have HA2 := Lib.hid (hra ▸ HA.out)
    clear HA
    cases hrb : rightB b with
    | false =>
      have HG := Lib.hid (HPost.out (false, 2) (by simp [holdsS, hrb]))
      have HB2 := Lib.hid (hrb ▸ HB.out)
      clear HPost HB hra hrb
      go_enter Tryz.func98, Tryz.ntmps98
      go_wp2_with fail
      try simp only [hwb]
      go_wp2_with fail
      refine (HA2.out _).mono ?_
      rintro e w1 ⟨rfl, hb1⟩
      obtain ⟨⟨c0, c1, c2⟩, d0, d1, d2⟩ := HF.out w1 hb1
      have HB1 := Lib.hid hb1
      clear hb1
      go_wp2_with fail
      refine (HB2.out _).mono ?_
      rintro e w2 ⟨rfl, hb2⟩
      have HB3 := Lib.hid (below_next HBA.out (below_next HB1.out hb2))
      clear hb2
      go_wp2_with fail
      try go_ret2
      exact HG.out _ HB3.out
    | true =>
      have HB2 := Lib.hid (hrb ▸ HB.out)
      clear HB
      have HO : Hid (holdsS op a b = if 3 ≤ op ∧ (a.k ≠ 1 ∨ b.k ≠ 1) then (false, 7) else (cmpS op a b, 0)) := by show _ = _; simp [holdsS, h1, h6, hra, hrb]
      clear hra hrb
      have tail : ∀ (w2 : World) (a' : Act), True := fun _ _ => trivial
      by_cases h3 : 3 ≤ op
      · by_cases hka : a.k = 1
        · by_cases hkb : b.k = 1
          · have q1 : (a.k != 1) = false := by simp [hka]
            have q2 : (b.k != 1) = false := by simp [hkb]
            have HO2 : Hid (holdsS op a b = (cmpS op a b, 0)) := by show _ = _; rw [HO.out, if_neg (by simp [hka, hkb])]
            have ho : op = 3 ∨ op = 4 ∨ op = 5 ∨ op = 6 := by omega
            clear hka hkb HO
            rcases ho with rfl | rfl | rfl | rfl
            all_goals
              have HG := Lib.hid (fun w' hb => HPost.out _ HO2.out w' hb)
              clear HPost HO2
              go_enter Tryz.func98, Tryz.ntmps98
              go_wp2_with fail
              try simp only [hwb]
              go_wp2_with fail
              refine (HA2.out _).mono ?_
              rintro e w1 ⟨rfl, hb1⟩
              obtain ⟨⟨c0, c1, c2⟩, d0, d1, d2⟩ := HF.out w1 hb1
              have HB1 := Lib.hid hb1
              clear hb1
              go_wp2_with fail
              refine (HB2.out _).mono ?_
              rintro e w2 ⟨rfl, hb2⟩
              have HB3 := Lib.hid (below_next HBA.out (below_next HB1.out hb2))
              obtain ⟨⟨c3, c4, c5⟩, d3, d4, d5⟩ := HF.out w2 (below_next HB1.out hb2)
              clear hb2 c0 c1 c2 d0 d1 d2
              go_wp2_with fail
              try go_ret2
              exact HG.out _ HB3.out
          · have q1 : (a.k != 1) = false := by simp [hka]
            have q2 : (b.k != 1) = true := by simp [hkb]
            have HG := Lib.hid (HPost.out (false, 7) (by rw [HO.out, if_pos ⟨h3, .inr hkb⟩]))
            clear hka hkb HO HPost
            go_enter Tryz.func98, Tryz.ntmps98
            go_wp2_with fail
            try simp only [hwb]
            go_wp2_with fail
            refine (HA2.out _).mono ?_
            rintro e w1 ⟨rfl, hb1⟩
            obtain ⟨⟨c0, c1, c2⟩, d0, d1, d2⟩ := HF.out w1 hb1
            have HB1 := Lib.hid hb1
            clear hb1
            go_wp2_with fail
            refine (HB2.out _).mono ?_
            rintro e w2 ⟨rfl, hb2⟩
            have HB3 := Lib.hid (below_next HBA.out (below_next HB1.out hb2))
            obtain ⟨⟨c3, c4, c5⟩, d3, d4, d5⟩ := HF.out w2 (below_next HB1.out hb2)
            clear hb2 c0 c1 c2 d0 d1 d2
            go_wp2_with fail
            try go_ret2
            exact HG.out _ HB3.out
        · have q1 : (a.k != 1) = true := by simp [hka]
          have HG := Lib.hid (HPost.out (false, 7) (by rw [HO.out, if_pos ⟨h3, .inl hka⟩]))
          clear hka HO HPost
          go_enter Tryz.func98, Tryz.ntmps98
          go_wp2_with fail
          try simp only [hwb]
          go_wp2_with fail
          refine (HA2.out _).mono ?_
          rintro e w1 ⟨rfl, hb1⟩
          obtain ⟨⟨c0, c1, c2⟩, d0, d1, d2⟩ := HF.out w1 hb1
          have HB1 := Lib.hid hb1
          clear hb1
          go_wp2_with fail
          refine (HB2.out _).mono ?_
          rintro e w2 ⟨rfl, hb2⟩
          have HB3 := Lib.hid (below_next HBA.out (below_next HB1.out hb2))
          obtain ⟨⟨c3, c4, c5⟩, d3, d4, d5⟩ := HF.out w2 (below_next HB1.out hb2)
          clear hb2 c0 c1 c2 d0 d1 d2
          go_wp2_with fail
          try go_ret2
          exact HG.out _ HB3.out
      · have HO2 : Hid (holdsS op a b = (cmpS op a b, 0)) := by show _ = _; rw [HO.out, if_neg (by simp [h3])]
        have rn := fun W => run_neq_value a b W
        have rq := fun W => run_eql_value a b W
        have hbq : a.beq b = decide (a = b) := GV.beq_dec a b
        rw [hbq] at rn rq
        have ho : op = 1 ∨ op = 2 := by omega
        clear HO hbq
        rcases ho with rfl | rfl
        all_goals
          have HG := Lib.hid (fun w' hb => HPost.out _ HO2.out w' hb)
          clear HPost HO2
          go_enter Tryz.func98, Tryz.ntmps98
          go_wp2_with fail
          try simp only [hwb]
          go_wp2_with fail
          refine (HA2.out _).mono ?_
          rintro e w1 ⟨rfl, hb1⟩
          obtain ⟨⟨c0, c1, c2⟩, d0, d1, d2⟩ := HF.out w1 hb1
          have HB1 := Lib.hid hb1
          clear hb1
          go_wp2_with fail
          refine (HB2.out _).mono ?_
          rintro e w2 ⟨rfl, hb2⟩
          have HB3 := Lib.hid (below_next HBA.out (below_next HB1.out hb2))
          obtain ⟨⟨c3, c4, c5⟩, d3, d4, d5⟩ := HF.out w2 (below_next HB1.out hb2)
          clear hb2 c0 c1 c2 d0 d1 d2
          go_wp2_with fail
          try go_ret2
          refine cast ?_ (HG.out _ HB3.out)
          simp [cmpS, errV]
end Go.Proofs.YtgabkmibfhmkmaaGreatDoor
