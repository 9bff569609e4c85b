/- My own texts TRefL, TRefR, ShowRR, as far as this claim needs them. -/
import Derived.Test.YtgabkmibfhmkmaaGreatDoorZs5
import Derived.Test.YtgabkmibfhmkmaaGreatDoorZs13
import Derived.Test.YtgabkmibfhmkmaaGreatDoorZs14
set_option linter.unusedVariables false
set_option linter.unusedSimpArgs false
namespace Go.Proofs.YtgabkmibfhmkmaaGreatDoor
open Go.RowKit
set_option maxRecDepth 100000 in
set_option maxHeartbeats 4000000 in
theorem refRightLit_any (d : Nat) (x : GLit) (a p q : Hd) (w : World) (h : LitAt d w w.heap.size x a p q) : Calls Tryz.prog 39 #[.agg #[.int .i64 x.k, .string x.atom.rel, a.v, .int .i64 x.op, .int .i64 x.l.op, .string x.l.t.x, .int .i64 x.l.t.v.k, .int .i64 x.l.t.v.n, .string x.l.t.v.s, p.v, .int .i64 x.r.op, .string x.r.t.x, .int .i64 x.r.t.v.k, .int .i64 x.r.t.v.n, .string x.r.t.v.s, q.v, .int .i64 x.pos]] w (RetBool (rightLit x) w) := by
  obtain ⟨B, HB⟩ : ∃ B, Hid (B = rightLit x) := ⟨_, rfl⟩
  rw [← HB.out]
  have hrb : (w.alloc (.cells #[.int .i64 x.k, .string x.atom.rel, a.v, .int .i64 x.op, .int .i64 x.l.op, .string x.l.t.x, .int .i64 x.l.t.v.k, .int .i64 x.l.t.v.n, .string x.l.t.v.s, p.v, .int .i64 x.r.op, .string x.r.t.x, .int .i64 x.r.t.v.k, .int .i64 x.r.t.v.n, .string x.r.t.v.s, q.v, .int .i64 x.pos] 51)).heap[w.heap.size]? = some (.cells #[.int .i64 x.k, .string x.atom.rel, a.v, .int .i64 x.op, .int .i64 x.l.op, .string x.l.t.x, .int .i64 x.l.t.v.k, .int .i64 x.l.t.v.n, .string x.l.t.v.s, p.v, .int .i64 x.r.op, .string x.r.t.x, .int .i64 x.r.t.v.k, .int .i64 x.r.t.v.n, .string x.r.t.v.s, q.v, .int .i64 x.pos] 51 (0, 0)) := heapNew rfl
  have hba : Below w.heap.size w (w.alloc (.cells #[.int .i64 x.k, .string x.atom.rel, a.v, .int .i64 x.op, .int .i64 x.l.op, .string x.l.t.x, .int .i64 x.l.t.v.k, .int .i64 x.l.t.v.n, .string x.l.t.v.s, p.v, .int .i64 x.r.op, .string x.r.t.x, .int .i64 x.r.t.v.k, .int .i64 x.r.t.v.n, .string x.r.t.v.s, q.v, .int .i64 x.pos] 51)) := belowA (Below.refl _ _) _
  have hna := h.args.bound
  have Hla := Lib.hid h.args.1
  have HH := Lib.hid (h.keep hba)
  clear h
  have Hrow : Hid (∀ W, Below (w.alloc (.cells #[.int .i64 x.k, .string x.atom.rel, a.v, .int .i64 x.op, .int .i64 x.l.op, .string x.l.t.x, .int .i64 x.l.t.v.k, .int .i64 x.l.t.v.n, .string x.l.t.v.s, p.v, .int .i64 x.r.op, .string x.r.t.x, .int .i64 x.r.t.v.k, .int .i64 x.r.t.v.n, .string x.r.t.v.s, q.v, .int .i64 x.pos] 51)).heap.size (w.alloc (.cells #[.int .i64 x.k, .string x.atom.rel, a.v, .int .i64 x.op, .int .i64 x.l.op, .string x.l.t.x, .int .i64 x.l.t.v.k, .int .i64 x.l.t.v.n, .string x.l.t.v.s, p.v, .int .i64 x.r.op, .string x.r.t.x, .int .i64 x.r.t.v.k, .int .i64 x.r.t.v.n, .string x.r.t.v.s, q.v, .int .i64 x.pos] 51)) W → W.heap[w.heap.size]? = some (.cells #[.int .i64 x.k, .string x.atom.rel, a.v, .int .i64 x.op, .int .i64 x.l.op, .string x.l.t.x, .int .i64 x.l.t.v.k, .int .i64 x.l.t.v.n, .string x.l.t.v.s, p.v, .int .i64 x.r.op, .string x.r.t.x, .int .i64 x.r.t.v.k, .int .i64 x.r.t.v.n, .string x.r.t.v.s, q.v, .int .i64 x.pos] 51 (0, 0))) := fun W h => (h.block _ (Array.getElem?_eq_some_iff.1 hrb).1).trans hrb
  obtain ⟨f0_0, f0_1, f0_2, f0_3, f0_4, f0_5, f0_6, f0_7, f0_8, f0_9, f0_10, f0_11, f0_12, f0_13, f0_14, f0_15, f0_16⟩ := facts17 hrb
  by_cases hk12 : x.k = 1 ∨ x.k = 2
  · obtain ⟨P1, HP1⟩ : ∃ E, Hid (E = atomB x.atom) := ⟨_, rfl⟩
    obtain ⟨P2, HP2⟩ : ∃ E, Hid (E = noneE x.l) := ⟨_, rfl⟩
    obtain ⟨P3, HP3⟩ : ∃ E, Hid (E = noneE x.r) := ⟨_, rfl⟩
    have HE : Hid (B = (P1 && (decide (x.op = 0) && (P2 && P3)))) := by show _ = _; rw [HB.out, HP1.out, HP2.out, HP3.out]; unfold rightLit; rw [if_pos hk12]
    have C1 : Hid (∀ W, Below (w.alloc (.cells #[.int .i64 x.k, .string x.atom.rel, a.v, .int .i64 x.op, .int .i64 x.l.op, .string x.l.t.x, .int .i64 x.l.t.v.k, .int .i64 x.l.t.v.n, .string x.l.t.v.s, p.v, .int .i64 x.r.op, .string x.r.t.x, .int .i64 x.r.t.v.k, .int .i64 x.r.t.v.n, .string x.r.t.v.s, q.v, .int .i64 x.pos] 51)).heap.size (w.alloc (.cells #[.int .i64 x.k, .string x.atom.rel, a.v, .int .i64 x.op, .int .i64 x.l.op, .string x.l.t.x, .int .i64 x.l.t.v.k, .int .i64 x.l.t.v.n, .string x.l.t.v.s, p.v, .int .i64 x.r.op, .string x.r.t.x, .int .i64 x.r.t.v.k, .int .i64 x.r.t.v.n, .string x.r.t.v.s, q.v, .int .i64 x.pos] 51)) W → Calls Tryz.prog 116 #[.agg #[.string x.atom.rel, a.v]] W (RetBool P1 W)) := fun W h => by rw [HP1.out]; exact refRightAtom_any x.atom a W (HH.out.args.keep h)
    have C2 : Hid (∀ W, Below (w.alloc (.cells #[.int .i64 x.k, .string x.atom.rel, a.v, .int .i64 x.op, .int .i64 x.l.op, .string x.l.t.x, .int .i64 x.l.t.v.k, .int .i64 x.l.t.v.n, .string x.l.t.v.s, p.v, .int .i64 x.r.op, .string x.r.t.x, .int .i64 x.r.t.v.k, .int .i64 x.r.t.v.n, .string x.r.t.v.s, q.v, .int .i64 x.pos] 51)).heap.size (w.alloc (.cells #[.int .i64 x.k, .string x.atom.rel, a.v, .int .i64 x.op, .int .i64 x.l.op, .string x.l.t.x, .int .i64 x.l.t.v.k, .int .i64 x.l.t.v.n, .string x.l.t.v.s, p.v, .int .i64 x.r.op, .string x.r.t.x, .int .i64 x.r.t.v.k, .int .i64 x.r.t.v.n, .string x.r.t.v.s, q.v, .int .i64 x.pos] 51)) W → Calls Tryz.prog 118 #[.agg #[.int .i64 x.l.op, .string x.l.t.x, .int .i64 x.l.t.v.k, .int .i64 x.l.t.v.n, .string x.l.t.v.s, p.v]] W (RetBool P2 W)) := fun W h => by rw [HP2.out]; exact refZero_any x.l p.A p.n p.c W HH.out.lk.1 HH.out.lk.2.2.2.1
    have C3 : Hid (∀ W, Below (w.alloc (.cells #[.int .i64 x.k, .string x.atom.rel, a.v, .int .i64 x.op, .int .i64 x.l.op, .string x.l.t.x, .int .i64 x.l.t.v.k, .int .i64 x.l.t.v.n, .string x.l.t.v.s, p.v, .int .i64 x.r.op, .string x.r.t.x, .int .i64 x.r.t.v.k, .int .i64 x.r.t.v.n, .string x.r.t.v.s, q.v, .int .i64 x.pos] 51)).heap.size (w.alloc (.cells #[.int .i64 x.k, .string x.atom.rel, a.v, .int .i64 x.op, .int .i64 x.l.op, .string x.l.t.x, .int .i64 x.l.t.v.k, .int .i64 x.l.t.v.n, .string x.l.t.v.s, p.v, .int .i64 x.r.op, .string x.r.t.x, .int .i64 x.r.t.v.k, .int .i64 x.r.t.v.n, .string x.r.t.v.s, q.v, .int .i64 x.pos] 51)) W → Calls Tryz.prog 118 #[.agg #[.int .i64 x.r.op, .string x.r.t.x, .int .i64 x.r.t.v.k, .int .i64 x.r.t.v.n, .string x.r.t.v.s, q.v]] W (RetBool P3 W)) := fun W h => by rw [HP3.out]; exact refZero_any x.r q.A q.n q.c W HH.out.rk.1 HH.out.rk.2.2.2.1
    clear hrb HB HP1 HP2 HP3 HH Hla
    generalize hwb : (w.alloc (.cells #[.int .i64 x.k, .string x.atom.rel, a.v, .int .i64 x.op, .int .i64 x.l.op, .string x.l.t.x, .int .i64 x.l.t.v.k, .int .i64 x.l.t.v.n, .string x.l.t.v.s, p.v, .int .i64 x.r.op, .string x.r.t.x, .int .i64 x.r.t.v.k, .int .i64 x.r.t.v.n, .string x.r.t.v.s, q.v, .int .i64 x.pos] 51)) = wb at *
    have Hbw0 := Lib.hid (Below.refl wb.heap.size wb)
    by_cases ho : x.op = 0
    · have o0 : (x.op == 0) = true := by simp [ho]
      have HE2 : Hid (B = (P1 && (P2 && P3))) := by show _ = _; rw [HE.out, decide_eq_true ho]; rfl
      clear HE ho
      rcases hk12 with hk | hk
      · have k1 : (x.k == 1) = true := by simp [hk]
        clear hk
        go_enter Tryz.func39, Tryz.ntmps39
        go_wp2_with fail
        try simp only [hwb]
        go_wp2_with fail
        refine (C1.out _ Hbw0.out).mono ?_
        rintro e1 w1 ⟨rfl, hq1⟩
        have Hbw1 := Lib.hid (below_next Hbw0.out hq1)
        obtain ⟨f1_0, f1_1, f1_2, f1_3, f1_4, f1_5, f1_6, f1_7, f1_8, f1_9, f1_10, f1_11, f1_12, f1_13, f1_14, f1_15, f1_16⟩ := facts17 (Hrow.out _ Hbw1.out)
        clear hq1 f0_0 f0_1 f0_2 f0_3 f0_4 f0_5 f0_6 f0_7 f0_8 f0_9 f0_10 f0_11 f0_12 f0_13 f0_14 f0_15 f0_16
        cases P1 with
        | false =>
          go_wp2_with fail
          go_ret
          exact ⟨by rw [HE2.out]; rfl, below_next hba Hbw1.out⟩
        | true =>
          go_wp2_with fail
          refine (C2.out _ Hbw1.out).mono ?_
          rintro e2 w2 ⟨rfl, hq2⟩
          have Hbw2 := Lib.hid (below_next Hbw1.out hq2)
          obtain ⟨f2_0, f2_1, f2_2, f2_3, f2_4, f2_5, f2_6, f2_7, f2_8, f2_9, f2_10, f2_11, f2_12, f2_13, f2_14, f2_15, f2_16⟩ := facts17 (Hrow.out _ Hbw2.out)
          clear hq2 f1_0 f1_1 f1_2 f1_3 f1_4 f1_5 f1_6 f1_7 f1_8 f1_9 f1_10 f1_11 f1_12 f1_13 f1_14 f1_15 f1_16
          cases P2 with
          | false =>
            go_wp2_with fail
            go_ret
            exact ⟨by rw [HE2.out]; rfl, below_next hba Hbw2.out⟩
          | true =>
            go_wp2_with fail
            refine (C3.out _ Hbw2.out).mono ?_
            rintro e3 w3 ⟨rfl, hq3⟩
            have Hbw3 := Lib.hid (below_next Hbw2.out hq3)
            obtain ⟨f3_0, f3_1, f3_2, f3_3, f3_4, f3_5, f3_6, f3_7, f3_8, f3_9, f3_10, f3_11, f3_12, f3_13, f3_14, f3_15, f3_16⟩ := facts17 (Hrow.out _ Hbw3.out)
            clear hq3 f2_0 f2_1 f2_2 f2_3 f2_4 f2_5 f2_6 f2_7 f2_8 f2_9 f2_10 f2_11 f2_12 f2_13 f2_14 f2_15 f2_16
            cases P3 <;>
            · go_wp2_with fail
              go_ret
              exact ⟨by rw [HE2.out]; rfl, below_next hba Hbw3.out⟩
      · have k1 : (x.k == 1) = false := by simp [hk]
        have k2 : (x.k == 2) = true := by simp [hk]
        clear hk
        go_enter Tryz.func39, Tryz.ntmps39
        go_wp2_with fail
        try simp only [hwb]
        go_wp2_with fail
        refine (C1.out _ Hbw0.out).mono ?_
        rintro e1 w1 ⟨rfl, hq1⟩
        have Hbw1 := Lib.hid (below_next Hbw0.out hq1)
        obtain ⟨f1_0, f1_1, f1_2, f1_3, f1_4, f1_5, f1_6, f1_7, f1_8, f1_9, f1_10, f1_11, f1_12, f1_13, f1_14, f1_15, f1_16⟩ := facts17 (Hrow.out _ Hbw1.out)
        clear hq1 f0_0 f0_1 f0_2 f0_3 f0_4 f0_5 f0_6 f0_7 f0_8 f0_9 f0_10 f0_11 f0_12 f0_13 f0_14 f0_15 f0_16
        cases P1 with
        | false =>
          go_wp2_with fail
          go_ret
          exact ⟨by rw [HE2.out]; rfl, below_next hba Hbw1.out⟩
        | true =>
          go_wp2_with fail
          refine (C2.out _ Hbw1.out).mono ?_
          rintro e2 w2 ⟨rfl, hq2⟩
          have Hbw2 := Lib.hid (below_next Hbw1.out hq2)
          obtain ⟨f2_0, f2_1, f2_2, f2_3, f2_4, f2_5, f2_6, f2_7, f2_8, f2_9, f2_10, f2_11, f2_12, f2_13, f2_14, f2_15, f2_16⟩ := facts17 (Hrow.out _ Hbw2.out)
          clear hq2 f1_0 f1_1 f1_2 f1_3 f1_4 f1_5 f1_6 f1_7 f1_8 f1_9 f1_10 f1_11 f1_12 f1_13 f1_14 f1_15 f1_16
          cases P2 with
          | false =>
            go_wp2_with fail
            go_ret
            exact ⟨by rw [HE2.out]; rfl, below_next hba Hbw2.out⟩
          | true =>
            go_wp2_with fail
            refine (C3.out _ Hbw2.out).mono ?_
            rintro e3 w3 ⟨rfl, hq3⟩
            have Hbw3 := Lib.hid (below_next Hbw2.out hq3)
            obtain ⟨f3_0, f3_1, f3_2, f3_3, f3_4, f3_5, f3_6, f3_7, f3_8, f3_9, f3_10, f3_11, f3_12, f3_13, f3_14, f3_15, f3_16⟩ := facts17 (Hrow.out _ Hbw3.out)
            clear hq3 f2_0 f2_1 f2_2 f2_3 f2_4 f2_5 f2_6 f2_7 f2_8 f2_9 f2_10 f2_11 f2_12 f2_13 f2_14 f2_15 f2_16
            cases P3 <;>
            · go_wp2_with fail
              go_ret
              exact ⟨by rw [HE2.out]; rfl, below_next hba Hbw3.out⟩
    · have o0 : (x.op == 0) = false := by simp [ho]
      have HE2 : Hid (B = false) := by show _ = _; rw [HE.out, decide_eq_false ho]; simp
      clear HE ho C2 C3
      rcases hk12 with hk | hk
      · have k1 : (x.k == 1) = true := by simp [hk]
        clear hk
        go_enter Tryz.func39, Tryz.ntmps39
        go_wp2_with fail
        try simp only [hwb]
        go_wp2_with fail
        refine (C1.out _ Hbw0.out).mono ?_
        rintro e1 w1 ⟨rfl, hq1⟩
        have Hbw1 := Lib.hid (below_next Hbw0.out hq1)
        obtain ⟨f1_0, f1_1, f1_2, f1_3, f1_4, f1_5, f1_6, f1_7, f1_8, f1_9, f1_10, f1_11, f1_12, f1_13, f1_14, f1_15, f1_16⟩ := facts17 (Hrow.out _ Hbw1.out)
        clear hq1 f0_0 f0_1 f0_2 f0_3 f0_4 f0_5 f0_6 f0_7 f0_8 f0_9 f0_10 f0_11 f0_12 f0_13 f0_14 f0_15 f0_16
        cases P1 <;>
        · go_wp2_with fail
          go_ret
          exact ⟨by rw [HE2.out]; rfl, below_next hba Hbw1.out⟩
      · have k1 : (x.k == 1) = false := by simp [hk]
        have k2 : (x.k == 2) = true := by simp [hk]
        clear hk
        go_enter Tryz.func39, Tryz.ntmps39
        go_wp2_with fail
        try simp only [hwb]
        go_wp2_with fail
        refine (C1.out _ Hbw0.out).mono ?_
        rintro e1 w1 ⟨rfl, hq1⟩
        have Hbw1 := Lib.hid (below_next Hbw0.out hq1)
        obtain ⟨f1_0, f1_1, f1_2, f1_3, f1_4, f1_5, f1_6, f1_7, f1_8, f1_9, f1_10, f1_11, f1_12, f1_13, f1_14, f1_15, f1_16⟩ := facts17 (Hrow.out _ Hbw1.out)
        clear hq1 f0_0 f0_1 f0_2 f0_3 f0_4 f0_5 f0_6 f0_7 f0_8 f0_9 f0_10 f0_11 f0_12 f0_13 f0_14 f0_15 f0_16
        cases P1 <;>
        · go_wp2_with fail
          go_ret
          exact ⟨by rw [HE2.out]; rfl, below_next hba Hbw1.out⟩
  have k1 : (x.k == 1) = false := by simp; omega
  have k2 : (x.k == 2) = false := by simp; omega
  by_cases hk3 : x.k = 3
  rotate_left
  · have k3 : (x.k == 3) = false := by simp [hk3]
    have HE2 : Hid (B = false) := by show _ = _; rw [HB.out]; simp [rightLit, hk12, hk3]
    clear hk3 hk12 HB HH Hrow hrb Hla
    go_enter Tryz.func39, Tryz.ntmps39
    go_wp2_with fail
    go_ret
    exact ⟨by rw [HE2.out]; rfl, belowA (Below.refl _ _) _⟩
  have k3 : (x.k == 3) = true := by simp [hk3]
  have HE : Hid (B = (cmpB2 x && (rightE 20 x.l && rightE 20 x.r))) := by show _ = _; rw [HB.out]; simp [rightLit, hk3]
  by_cases hc : cmpB2 x = true
  rotate_left
  · have HE2 : Hid (B = false) := by show _ = _; rw [HE.out]; simp [hc]
    have hc' : (((x.atom.rel.size : Int) == 0) = false) ∨ (((x.atom.rel.size : Int) == 0) = true ∧ ((a.n : Int) == 0) = false) ∨ (((x.atom.rel.size : Int) == 0) = true ∧ ((a.n : Int) == 0) = true ∧ ¬ 1 ≤ x.op) ∨ (((x.atom.rel.size : Int) == 0) = true ∧ ((a.n : Int) == 0) = true ∧ 1 ≤ x.op ∧ ¬ x.op ≤ 6) := by
      have h1 := Hla.out
      unfold cmpB2 at hc
      by_cases g1 : x.atom.rel.size = 0
      · have g2 : ((x.atom.rel.size : Int) == 0) = true := by simp [g1]
        by_cases g3 : a.n = 0
        · have g6 : ((a.n : Int) == 0) = true := by simp [g3]
          by_cases g4 : 1 ≤ x.op
          · by_cases g5 : x.op ≤ 6
            · exfalso
              apply hc
              have : x.atom.args.length = 0 := by omega
              simp [*]
            · exact .inr (.inr (.inr ⟨g2, g6, g4, g5⟩))
          · exact .inr (.inr (.inl ⟨g2, g6, g4⟩))
        · exact .inr (.inl ⟨g2, by rw [beq_eq_false_iff_ne]; omega⟩)
      · exact .inl (by rw [beq_eq_false_iff_ne]; omega)
    clear hk3 hk12 HB HH Hrow hrb hc HE
    rcases hc' with h | ⟨g0, h⟩ | ⟨g0, g1, h⟩ | ⟨g0, g1, g2, h⟩ <;>
    · go_enter Tryz.func39, Tryz.ntmps39
      go_wp2_with fail
      go_ret
      exact ⟨by rw [HE2.out]; rfl, belowA (Below.refl _ _) _⟩
  have hc' : ((x.atom.rel.size : Int) == 0) = true ∧ ((a.n : Int) == 0) = true ∧ 1 ≤ x.op ∧ x.op ≤ 6 := by
    have h1 := Hla.out
    simp only [cmpB2, Bool.and_eq_true, decide_eq_true_eq] at hc
    have h2 : x.atom.rel.size = 0 := hc.1.1
    have h3 : a.n = 0 := by omega
    exact ⟨by simp [h2], by simp [h3], hc.2.1, hc.2.2⟩
  obtain ⟨g0, g1, g2, g3⟩ := hc'
  obtain ⟨P1, HP1⟩ : ∃ E, Hid (E = rightE 20 x.l) := ⟨_, rfl⟩
  obtain ⟨P2, HP2⟩ : ∃ E, Hid (E = rightE 20 x.r) := ⟨_, rfl⟩
  have HE2 : Hid (B = (P1 && P2)) := by show _ = _; rw [HE.out, hc, HP1.out, HP2.out]; rfl
  have C1 : Hid (∀ W, Below (w.alloc (.cells #[.int .i64 x.k, .string x.atom.rel, a.v, .int .i64 x.op, .int .i64 x.l.op, .string x.l.t.x, .int .i64 x.l.t.v.k, .int .i64 x.l.t.v.n, .string x.l.t.v.s, p.v, .int .i64 x.r.op, .string x.r.t.x, .int .i64 x.r.t.v.k, .int .i64 x.r.t.v.n, .string x.r.t.v.s, q.v, .int .i64 x.pos] 51)).heap.size (w.alloc (.cells #[.int .i64 x.k, .string x.atom.rel, a.v, .int .i64 x.op, .int .i64 x.l.op, .string x.l.t.x, .int .i64 x.l.t.v.k, .int .i64 x.l.t.v.n, .string x.l.t.v.s, p.v, .int .i64 x.r.op, .string x.r.t.x, .int .i64 x.r.t.v.k, .int .i64 x.r.t.v.n, .string x.r.t.v.s, q.v, .int .i64 x.pos] 51)) W → Calls Tryz.prog 42 #[.agg #[.int .i64 x.l.op, .string x.l.t.x, .int .i64 x.l.t.v.k, .int .i64 x.l.t.v.n, .string x.l.t.v.s, p.v]] W (RetBool P1 W)) := fun W h => by rw [HP1.out]; exact refRightExp_any x.l p.A p.n p.c d W (HH.out.lk.keep h) HH.out.lv
  have C2 : Hid (∀ W, Below (w.alloc (.cells #[.int .i64 x.k, .string x.atom.rel, a.v, .int .i64 x.op, .int .i64 x.l.op, .string x.l.t.x, .int .i64 x.l.t.v.k, .int .i64 x.l.t.v.n, .string x.l.t.v.s, p.v, .int .i64 x.r.op, .string x.r.t.x, .int .i64 x.r.t.v.k, .int .i64 x.r.t.v.n, .string x.r.t.v.s, q.v, .int .i64 x.pos] 51)).heap.size (w.alloc (.cells #[.int .i64 x.k, .string x.atom.rel, a.v, .int .i64 x.op, .int .i64 x.l.op, .string x.l.t.x, .int .i64 x.l.t.v.k, .int .i64 x.l.t.v.n, .string x.l.t.v.s, p.v, .int .i64 x.r.op, .string x.r.t.x, .int .i64 x.r.t.v.k, .int .i64 x.r.t.v.n, .string x.r.t.v.s, q.v, .int .i64 x.pos] 51)) W → Calls Tryz.prog 42 #[.agg #[.int .i64 x.r.op, .string x.r.t.x, .int .i64 x.r.t.v.k, .int .i64 x.r.t.v.n, .string x.r.t.v.s, q.v]] W (RetBool P2 W)) := fun W h => by rw [HP2.out]; exact refRightExp_any x.r q.A q.n q.c d W (HH.out.rk.keep h) HH.out.rv
  clear hrb HB HP1 HP2 HH Hla hc HE hk3 hk12
  generalize hwb : (w.alloc (.cells #[.int .i64 x.k, .string x.atom.rel, a.v, .int .i64 x.op, .int .i64 x.l.op, .string x.l.t.x, .int .i64 x.l.t.v.k, .int .i64 x.l.t.v.n, .string x.l.t.v.s, p.v, .int .i64 x.r.op, .string x.r.t.x, .int .i64 x.r.t.v.k, .int .i64 x.r.t.v.n, .string x.r.t.v.s, q.v, .int .i64 x.pos] 51)) = wb at *
  have Hbw0 := Lib.hid (Below.refl wb.heap.size wb)
  go_enter Tryz.func39, Tryz.ntmps39
  go_wp2_with fail
  try simp only [hwb]
  go_wp2_with fail
  refine (C1.out _ Hbw0.out).mono ?_
  rintro e1 w1 ⟨rfl, hq1⟩
  have Hbw1 := Lib.hid (below_next Hbw0.out hq1)
  obtain ⟨f1_0, f1_1, f1_2, f1_3, f1_4, f1_5, f1_6, f1_7, f1_8, f1_9, f1_10, f1_11, f1_12, f1_13, f1_14, f1_15, f1_16⟩ := facts17 (Hrow.out _ Hbw1.out)
  clear hq1 f0_0 f0_1 f0_2 f0_3 f0_4 f0_5 f0_6 f0_7 f0_8 f0_9 f0_10 f0_11 f0_12 f0_13 f0_14 f0_15 f0_16
  cases P1 with
  | false =>
    go_wp2_with fail
    go_ret
    exact ⟨by rw [HE2.out]; rfl, below_next hba Hbw1.out⟩
  | true =>
    go_wp2_with fail
    refine (C2.out _ Hbw1.out).mono ?_
    rintro e2 w2 ⟨rfl, hq2⟩
    have Hbw2 := Lib.hid (below_next Hbw1.out hq2)
    obtain ⟨f2_0, f2_1, f2_2, f2_3, f2_4, f2_5, f2_6, f2_7, f2_8, f2_9, f2_10, f2_11, f2_12, f2_13, f2_14, f2_15, f2_16⟩ := facts17 (Hrow.out _ Hbw2.out)
    clear hq2 f1_0 f1_1 f1_2 f1_3 f1_4 f1_5 f1_6 f1_7 f1_8 f1_9 f1_10 f1_11 f1_12 f1_13 f1_14 f1_15 f1_16
    cases P2 <;>
    · go_wp2_with fail
      go_ret
      exact ⟨by rw [HE2.out]; rfl, below_next hba Hbw2.out⟩
end Go.Proofs.YtgabkmibfhmkmaaGreatDoor

namespace Go.Proofs.YtgabkmibfhmkmaaGreatDoor
open Go.RowKit
theorem lit5_size (x : GLit) (a p q : Hd) : (Tryz.prog.info? 51).map (·.size) = some (litC x a p q).length := by
  show _ = some 17
  kernel_rfl
set_option maxRecDepth 100000 in
set_option maxHeartbeats 4000000 in
theorem refRightRule_any (d : Nat) (x : GRule) (a m : Hd) (w : World) (h : RuleAt d w w.heap.size x a m) : Calls Tryz.prog 36 #[.agg (ruleC x a m).toArray] w (RetBool (rightRule x) w) := by
  obtain ⟨P, HP⟩ : ∃ P, Hid (P = RetBool (rightRule x) w) := ⟨_, rfl⟩
  have HBad : Hid (rightRule x = false → ∀ w', Below w.heap.size w w' → P (.returned (.bool false)) w') := fun h w' hb => by rw [HP.out, h]; exact ⟨rfl, hb⟩
  have HGod : Hid (rightRule x = true → ∀ w', Below w.heap.size w w' → P (.returned (.bool true)) w') := fun h w' hb => by rw [HP.out, h]; exact ⟨rfl, hb⟩
  rw [← HP.out]
  have hna := h.args.bound
  have hn := h.body.bound
  have Hla := Lib.hid h.args.1
  have Hlen := Lib.hid h.body.1
  have HK := Lib.hid h
  have HBA : Hid (atomB x.head = false → ∀ w', Below w.heap.size w w' → P (.returned (.bool false)) w') := fun h => HBad.out (by unfold rightRule; rw [h]; rfl)
  have HBL : Hid (x.body.all rightLit = false → ∀ w', Below w.heap.size w w' → P (.returned (.bool false)) w') := fun h => HBad.out (by unfold rightRule; rw [h]; simp)
  obtain ⟨aA, an, ac⟩ := a
  obtain ⟨A, n, c⟩ := m
  have Hla : Hid (x.head.args.length = an) := Hla.out
  have Hlen : Hid (x.body.length = n) := Hlen.out
  clear h HP
  show Calls Tryz.prog 36 #[.agg #[.string x.head.rel, .slice aA an ac, .int .i64 x.agg, .int .i64 x.col, .slice A n c, .int .i64 x.pos]] w P
  have HGood : Hid (x.body.length ≤ 8 → aggB x = true → atomB x.head = true → x.body.all rightLit = true → ∀ w', Below w.heap.size w w' → P (.returned (.bool true)) w') := fun h1 h2 h3 h4 => HGod.out (by unfold rightRule; rw [h2, h3, h4]; simp [h1])
  have HBg : Hid (aggB x = false → ∀ w', Below w.heap.size w w' → P (.returned (.bool false)) w') := fun h => HBad.out (by unfold rightRule; rw [h]; simp)
  by_cases h8 : 8 < n
  · have h8' : (8 : Int) < (n : Int) := by omega
    have HB := Lib.hid (HBad.out (by unfold rightRule; have := Hlen.out; have h9 : ¬ x.body.length ≤ 8 := by omega
                                     simp [h9]))
    clear HBad HGod HBA HBL HBg
    clear HGood
    have hrb : (w.alloc (.cells #[.string x.head.rel, .slice aA an ac, .int .i64 x.agg, .int .i64 x.col, .slice A n c, .int .i64 x.pos] 75)).heap[w.heap.size]? = some (.cells #[.string x.head.rel, .slice aA an ac, .int .i64 x.agg, .int .i64 x.col, .slice A n c, .int .i64 x.pos] 75 (0, 0)) := heapNew rfl
    have hba : Below w.heap.size w (w.alloc (.cells #[.string x.head.rel, .slice aA an ac, .int .i64 x.agg, .int .i64 x.col, .slice A n c, .int .i64 x.pos] 75)) := belowA (Below.refl _ _) _
    obtain ⟨b0, b1, b2, b3, b4, b5⟩ := facts6 hrb
    have HC := Lib.hid (refRightAtom_any x.head ⟨aA, an, ac⟩ (w.alloc (.cells #[.string x.head.rel, .slice aA an ac, .int .i64 x.agg, .int .i64 x.col, .slice A n c, .int .i64 x.pos] 75)) (HK.out.keep hba).args)
    go_enter Tryz.func36, Tryz.ntmps36
    go_wp2_with fail
    refine HC.out.mono ?_
    rintro r w1 ⟨rfl, hb1⟩
    have hr1 := (hb1.block _ (Array.getElem?_eq_some_iff.1 hrb).1).trans hrb
    have Hb1 := Lib.hid (below_next hba hb1)
    clear b0 b1 b2 b3 b4 b5 HC hb1 hba hrb
    obtain ⟨b0, b1, b2, b3, b4, b5⟩ := facts6 hr1
    cases hq : atomB x.head with
    | false =>
      clear hq
      go_wp2_with fail
      first | exact HB.out _ Hb1.out | (go_ret; exact HB.out _ Hb1.out)
    | true =>
      clear hq
      go_wp2_with fail
      first | exact HB.out _ Hb1.out | (go_ret; exact HB.out _ Hb1.out)
  have h8' : ¬ (8 : Int) < (n : Int) := by omega
  have HGood := Lib.hid (HGood.out (by have := Hlen.out; omega))
  clear HBad HGod
  by_cases ha0 : x.agg < 0
  · have HB := Lib.hid (HBg.out (by unfold aggB; rw [if_neg (by omega)]; have h9 : ¬ 0 ≤ x.agg := by omega
                                    simp [h9]))
    clear HBA HBL HBg
    clear HGood
    have hrb : (w.alloc (.cells #[.string x.head.rel, .slice aA an ac, .int .i64 x.agg, .int .i64 x.col, .slice A n c, .int .i64 x.pos] 75)).heap[w.heap.size]? = some (.cells #[.string x.head.rel, .slice aA an ac, .int .i64 x.agg, .int .i64 x.col, .slice A n c, .int .i64 x.pos] 75 (0, 0)) := heapNew rfl
    have hba : Below w.heap.size w (w.alloc (.cells #[.string x.head.rel, .slice aA an ac, .int .i64 x.agg, .int .i64 x.col, .slice A n c, .int .i64 x.pos] 75)) := belowA (Below.refl _ _) _
    obtain ⟨b0, b1, b2, b3, b4, b5⟩ := facts6 hrb
    have HC := Lib.hid (refRightAtom_any x.head ⟨aA, an, ac⟩ (w.alloc (.cells #[.string x.head.rel, .slice aA an ac, .int .i64 x.agg, .int .i64 x.col, .slice A n c, .int .i64 x.pos] 75)) (HK.out.keep hba).args)
    go_enter Tryz.func36, Tryz.ntmps36
    go_wp2_with fail
    refine HC.out.mono ?_
    rintro r w1 ⟨rfl, hb1⟩
    have hr1 := (hb1.block _ (Array.getElem?_eq_some_iff.1 hrb).1).trans hrb
    have Hb1 := Lib.hid (below_next hba hb1)
    clear b0 b1 b2 b3 b4 b5 HC hb1 hba hrb
    obtain ⟨b0, b1, b2, b3, b4, b5⟩ := facts6 hr1
    cases hq : atomB x.head with
    | false =>
      clear hq
      go_wp2_with fail
      first | exact HB.out _ Hb1.out | (go_ret; exact HB.out _ Hb1.out)
    | true =>
      clear hq
      go_wp2_with fail
      first | exact HB.out _ Hb1.out | (go_ret; exact HB.out _ Hb1.out)
  by_cases ha4 : 4 < x.agg
  · have HB := Lib.hid (HBg.out (by unfold aggB; rw [if_neg (by omega)]; have h9 : ¬ x.agg ≤ 4 := by omega
                                    simp [h9]))
    clear HBA HBL HBg
    clear HGood
    have hrb : (w.alloc (.cells #[.string x.head.rel, .slice aA an ac, .int .i64 x.agg, .int .i64 x.col, .slice A n c, .int .i64 x.pos] 75)).heap[w.heap.size]? = some (.cells #[.string x.head.rel, .slice aA an ac, .int .i64 x.agg, .int .i64 x.col, .slice A n c, .int .i64 x.pos] 75 (0, 0)) := heapNew rfl
    have hba : Below w.heap.size w (w.alloc (.cells #[.string x.head.rel, .slice aA an ac, .int .i64 x.agg, .int .i64 x.col, .slice A n c, .int .i64 x.pos] 75)) := belowA (Below.refl _ _) _
    obtain ⟨b0, b1, b2, b3, b4, b5⟩ := facts6 hrb
    have HC := Lib.hid (refRightAtom_any x.head ⟨aA, an, ac⟩ (w.alloc (.cells #[.string x.head.rel, .slice aA an ac, .int .i64 x.agg, .int .i64 x.col, .slice A n c, .int .i64 x.pos] 75)) (HK.out.keep hba).args)
    go_enter Tryz.func36, Tryz.ntmps36
    go_wp2_with fail
    refine HC.out.mono ?_
    rintro r w1 ⟨rfl, hb1⟩
    have hr1 := (hb1.block _ (Array.getElem?_eq_some_iff.1 hrb).1).trans hrb
    have Hb1 := Lib.hid (below_next hba hb1)
    clear b0 b1 b2 b3 b4 b5 HC hb1 hba hrb
    obtain ⟨b0, b1, b2, b3, b4, b5⟩ := facts6 hr1
    cases hq : atomB x.head with
    | false =>
      clear hq
      go_wp2_with fail
      first | exact HB.out _ Hb1.out | (go_ret; exact HB.out _ Hb1.out)
    | true =>
      clear hq
      go_wp2_with fail
      first | exact HB.out _ Hb1.out | (go_ret; exact HB.out _ Hb1.out)
  by_cases hz : x.agg = 0
  · have z0 : (x.agg == 0) = true := by simp [hz]
    have z1 : ¬ 0 < x.agg := by omega
    by_cases hc : x.col = 0
    · have c0 : (x.col != 0) = false := by simp [hc]
      have HGood := Lib.hid (HGood.out (by unfold aggB; rw [if_pos hz]; simp [hc]))
      clear HBg hc hz
      have hrb : (w.alloc (.cells #[.string x.head.rel, .slice aA an ac, .int .i64 x.agg, .int .i64 x.col, .slice A n c, .int .i64 x.pos] 75)).heap[w.heap.size]? = some (.cells #[.string x.head.rel, .slice aA an ac, .int .i64 x.agg, .int .i64 x.col, .slice A n c, .int .i64 x.pos] 75 (0, 0)) := heapNew rfl
      have hba : Below w.heap.size w (w.alloc (.cells #[.string x.head.rel, .slice aA an ac, .int .i64 x.agg, .int .i64 x.col, .slice A n c, .int .i64 x.pos] 75)) := belowA (Below.refl _ _) _
      obtain ⟨b0, b1, b2, b3, b4, b5⟩ := facts6 hrb
      have HC := Lib.hid (refRightAtom_any x.head ⟨aA, an, ac⟩ (w.alloc (.cells #[.string x.head.rel, .slice aA an ac, .int .i64 x.agg, .int .i64 x.col, .slice A n c, .int .i64 x.pos] 75)) (HK.out.keep hba).args)
      go_enter Tryz.func36, Tryz.ntmps36
      go_wp2_with fail
      refine HC.out.mono ?_
      rintro r w1 ⟨rfl, hb1⟩
      have hr1 := (hb1.block _ (Array.getElem?_eq_some_iff.1 hrb).1).trans hrb
      have Hb1 := Lib.hid (below_next hba hb1)
      clear b0 b1 b2 b3 b4 b5 HC hb1 hba hrb
      obtain ⟨b0, b1, b2, b3, b4, b5⟩ := facts6 hr1
      cases hq : atomB x.head with
      | false =>
        have HB2 := Lib.hid (HBA.out hq)
        clear hq HGood HBA HBL
        go_wp2_with fail
        first | exact HB2.out _ Hb1.out | (go_ret; exact HB2.out _ Hb1.out)
      | true =>
        have HG2 := Lib.hid (HGood.out hq)
        have HR1 := Lib.hid hr1
        clear hq HGood HBA hr1
        go_wp2_with fail
        clear b0 b1 b2 b3 b4 b5
        go_loopw [3] (fun i wr => ∃ k : Nat, k ≤ n ∧ i = .int .i64 k ∧ Hid ((x.body.take k).all rightLit = true) ∧ Hid (wr.heap[w.heap.size]? = some (.cells #[.string x.head.rel, .slice aA an ac, .int .i64 x.agg, .int .i64 x.col, .slice A n c, .int .i64 x.pos] 75 (0, 0))) ∧ Hid (Below w.heap.size w wr)) (fun i _ => n - (intOf i).toNat)
        case atStart => exact ⟨0, by omega, rfl, by show _ = _; simp, HR1, Hb1⟩
        case round =>
          obtain ⟨k, hk, rfl, HA, HR2, HBr⟩ := hrel
          clear HR1 Hb1
          have i0 : (0 : Int) ≤ (k : Int) := by omega
          obtain ⟨b0, b1, b2, b3, b4, b5⟩ := facts6 HR2.out
          by_cases hlt : k < n
          · have i1 : (k : Int) < (n : Int) := by omega
            obtain ⟨b, o, y, a', p', q', hAA, hbb, hy, hly, hr⟩ := (HK.out.keep HBr.out).body.lit_range hlt
            simp only at hAA
            subst hAA
            have HL := Lib.hid (refRightLit_any d y a' p' q' wr hly)
            have HT1 : Hid (rightLit y = true → (x.body.take (k + 1)).all rightLit = true) := fun h => by rw [all_take hy.out, HA.out, h]; rfl
            have HT2 := Lib.hid (fun h => HBL.out (all_false hy.out h))
            clear hy hly
            go_wp2_with (first
              | refine wpList_load_mid rfl 51 (.tmp 73) rfl b (o + k * 17) rfl (litC y a' p' q') _ hr.out Tryz.underlying51 rfl (lit5_size y a' p' q') ?_)
            refine HL.out.mono ?_
            rintro r w2 ⟨rfl, hb2⟩
            have HB2 := Lib.hid (below_next HBr.out hb2)
            have HR3 := Lib.hid ((hb2.block _ (Array.getElem?_eq_some_iff.1 HR2.out).1).trans HR2.out)
            clear hb2 hr HL b0 b1 b2 b3 b4 b5
            cases hq : rightLit y with
            | false =>
              have HB3 := Lib.hid (HT2.out hq)
              clear hq HT1 HT2
              go_wp2_with fail
              first | exact HB3.out _ HB2.out | (go_ret; exact HB3.out _ HB2.out)
            | true =>
              have HA2 := Lib.hid (HT1.out hq)
              clear hq HT1 HT2
              go_wp2_with fail
              go_roundw
              case rel => exact ⟨k + 1, by omega, by go_num, HA2, HR3, HB2⟩
              case measure => simp [intOf]; omega
          · have i1 : ¬ (k : Int) < (n : Int) := by omega
            have HG3 := Lib.hid (HG2.out (by have := HA.out; rwa [List.take_of_length_le (by have := Hlen.out; omega)] at this))
            clear HG2
            go_wp2_with fail
            first | exact HG3.out _ HBr.out | (go_ret; exact HG3.out _ HBr.out)
    · have c0 : (x.col != 0) = true := by simp [hc]
      have HB := Lib.hid (HBg.out (by unfold aggB; rw [if_pos hz]; simp [hc]))
      clear HBA HBL HBg hc hz
      clear HGood
      have hrb : (w.alloc (.cells #[.string x.head.rel, .slice aA an ac, .int .i64 x.agg, .int .i64 x.col, .slice A n c, .int .i64 x.pos] 75)).heap[w.heap.size]? = some (.cells #[.string x.head.rel, .slice aA an ac, .int .i64 x.agg, .int .i64 x.col, .slice A n c, .int .i64 x.pos] 75 (0, 0)) := heapNew rfl
      have hba : Below w.heap.size w (w.alloc (.cells #[.string x.head.rel, .slice aA an ac, .int .i64 x.agg, .int .i64 x.col, .slice A n c, .int .i64 x.pos] 75)) := belowA (Below.refl _ _) _
      obtain ⟨b0, b1, b2, b3, b4, b5⟩ := facts6 hrb
      have HC := Lib.hid (refRightAtom_any x.head ⟨aA, an, ac⟩ (w.alloc (.cells #[.string x.head.rel, .slice aA an ac, .int .i64 x.agg, .int .i64 x.col, .slice A n c, .int .i64 x.pos] 75)) (HK.out.keep hba).args)
      go_enter Tryz.func36, Tryz.ntmps36
      go_wp2_with fail
      refine HC.out.mono ?_
      rintro r w1 ⟨rfl, hb1⟩
      have hr1 := (hb1.block _ (Array.getElem?_eq_some_iff.1 hrb).1).trans hrb
      have Hb1 := Lib.hid (below_next hba hb1)
      clear b0 b1 b2 b3 b4 b5 HC hb1 hba hrb
      obtain ⟨b0, b1, b2, b3, b4, b5⟩ := facts6 hr1
      cases hq : atomB x.head with
      | false =>
        clear hq
        go_wp2_with fail
        first | exact HB.out _ Hb1.out | (go_ret; exact HB.out _ Hb1.out)
      | true =>
        clear hq
        go_wp2_with fail
        first | exact HB.out _ Hb1.out | (go_ret; exact HB.out _ Hb1.out)
  have z0 : (x.agg == 0) = false := by simp [hz]
  have z1 : 0 < x.agg := by omega
  by_cases hc0 : x.col < 0
  · have HB := Lib.hid (HBg.out (by unfold aggB; rw [if_neg hz]; have h9 : ¬ 0 ≤ x.col := by omega
                                    simp [h9]))
    clear HBA HBL HBg hz
    clear HGood
    have hrb : (w.alloc (.cells #[.string x.head.rel, .slice aA an ac, .int .i64 x.agg, .int .i64 x.col, .slice A n c, .int .i64 x.pos] 75)).heap[w.heap.size]? = some (.cells #[.string x.head.rel, .slice aA an ac, .int .i64 x.agg, .int .i64 x.col, .slice A n c, .int .i64 x.pos] 75 (0, 0)) := heapNew rfl
    have hba : Below w.heap.size w (w.alloc (.cells #[.string x.head.rel, .slice aA an ac, .int .i64 x.agg, .int .i64 x.col, .slice A n c, .int .i64 x.pos] 75)) := belowA (Below.refl _ _) _
    obtain ⟨b0, b1, b2, b3, b4, b5⟩ := facts6 hrb
    have HC := Lib.hid (refRightAtom_any x.head ⟨aA, an, ac⟩ (w.alloc (.cells #[.string x.head.rel, .slice aA an ac, .int .i64 x.agg, .int .i64 x.col, .slice A n c, .int .i64 x.pos] 75)) (HK.out.keep hba).args)
    go_enter Tryz.func36, Tryz.ntmps36
    go_wp2_with fail
    refine HC.out.mono ?_
    rintro r w1 ⟨rfl, hb1⟩
    have hr1 := (hb1.block _ (Array.getElem?_eq_some_iff.1 hrb).1).trans hrb
    have Hb1 := Lib.hid (below_next hba hb1)
    clear b0 b1 b2 b3 b4 b5 HC hb1 hba hrb
    obtain ⟨b0, b1, b2, b3, b4, b5⟩ := facts6 hr1
    cases hq : atomB x.head with
    | false =>
      clear hq
      go_wp2_with fail
      first | exact HB.out _ Hb1.out | (go_ret; exact HB.out _ Hb1.out)
    | true =>
      clear hq
      go_wp2_with fail
      first | exact HB.out _ Hb1.out | (go_ret; exact HB.out _ Hb1.out)
  obtain ⟨k0, hk0⟩ : ∃ k0 : Nat, x.col = (k0 : Int) := ⟨x.col.toNat, by omega⟩
  have Hk0 := Lib.hid hk0
  have k00 : (0 : Int) ≤ (k0 : Int) := by omega
  have k01 : ¬ (k0 : Int) < 0 := by omega
  simp only [hk0]
  clear hc0
  by_cases hca : (an : Int) ≤ (k0 : Int)
  · have HB := Lib.hid (HBg.out (by
      unfold aggB varAt
      rw [if_neg hz, Hk0.out, Int.toNat_natCast, List.getElem?_eq_none (by have := Hla.out; omega)]
      simp))
    clear HBA HBL HBg hz hk0
    clear HGood
    have hrb : (w.alloc (.cells #[.string x.head.rel, .slice aA an ac, .int .i64 x.agg, .int .i64 (k0 : Int), .slice A n c, .int .i64 x.pos] 75)).heap[w.heap.size]? = some (.cells #[.string x.head.rel, .slice aA an ac, .int .i64 x.agg, .int .i64 (k0 : Int), .slice A n c, .int .i64 x.pos] 75 (0, 0)) := heapNew rfl
    have hba : Below w.heap.size w (w.alloc (.cells #[.string x.head.rel, .slice aA an ac, .int .i64 x.agg, .int .i64 (k0 : Int), .slice A n c, .int .i64 x.pos] 75)) := belowA (Below.refl _ _) _
    obtain ⟨b0, b1, b2, b3, b4, b5⟩ := facts6 hrb
    have HC := Lib.hid (refRightAtom_any x.head ⟨aA, an, ac⟩ (w.alloc (.cells #[.string x.head.rel, .slice aA an ac, .int .i64 x.agg, .int .i64 (k0 : Int), .slice A n c, .int .i64 x.pos] 75)) (HK.out.keep hba).args)
    go_enter Tryz.func36, Tryz.ntmps36
    go_wp2_with fail
    refine HC.out.mono ?_
    rintro r w1 ⟨rfl, hb1⟩
    have hr1 := (hb1.block _ (Array.getElem?_eq_some_iff.1 hrb).1).trans hrb
    have Hb1 := Lib.hid (below_next hba hb1)
    clear b0 b1 b2 b3 b4 b5 HC hb1 hba hrb
    obtain ⟨b0, b1, b2, b3, b4, b5⟩ := facts6 hr1
    cases hq : atomB x.head with
    | false =>
      clear hq
      go_wp2_with fail
      first | exact HB.out _ Hb1.out | (go_ret; exact HB.out _ Hb1.out)
    | true =>
      clear hq
      go_wp2_with fail
      first | exact HB.out _ Hb1.out | (go_ret; exact HB.out _ Hb1.out)
  have hca' : (k0 : Int) < (an : Int) := by omega
  have hca3 : decide (an ≤ k0) = false := by simp; omega
  have hca4 : ¬ an ≤ k0 := by omega
  obtain ⟨ba, oa, t, hA', hbA, ht, x0, x1, x2, x3, f1, f2⟩ := HK.out.args.told_at (i := k0) (by show k0 < an; omega)
  try simp only at hA'
  subst hA'
  have Ht := Lib.hid (fun (W : World) (hb : Below w.heap.size w W) => below_cell hb x0)
  by_cases hts : t.x.size = 0
  · have t0 : ((t.x.size : Int) == 0) = true := by simp [hts]
    have HB := Lib.hid (HBg.out (by
      unfold aggB varAt
      rw [if_neg hz, Hk0.out, Int.toNat_natCast, ht.out]
      simp [hts]))
    clear HBA HBL HBg hz hk0 ht x0 x1 x2 x3
    clear HGood
    have hrb : (w.alloc (.cells #[.string x.head.rel, .slice (some ⟨ba, oa, none⟩) an ac, .int .i64 x.agg, .int .i64 (k0 : Int), .slice A n c, .int .i64 x.pos] 75)).heap[w.heap.size]? = some (.cells #[.string x.head.rel, .slice (some ⟨ba, oa, none⟩) an ac, .int .i64 x.agg, .int .i64 (k0 : Int), .slice A n c, .int .i64 x.pos] 75 (0, 0)) := heapNew rfl
    have hba : Below w.heap.size w (w.alloc (.cells #[.string x.head.rel, .slice (some ⟨ba, oa, none⟩) an ac, .int .i64 x.agg, .int .i64 (k0 : Int), .slice A n c, .int .i64 x.pos] 75)) := belowA (Below.refl _ _) _
    obtain ⟨b0, b1, b2, b3, b4, b5⟩ := facts6 hrb
    have HC := Lib.hid (refRightAtom_any x.head ⟨(some ⟨ba, oa, none⟩), an, ac⟩ (w.alloc (.cells #[.string x.head.rel, .slice (some ⟨ba, oa, none⟩) an ac, .int .i64 x.agg, .int .i64 (k0 : Int), .slice A n c, .int .i64 x.pos] 75)) (HK.out.keep hba).args)
    go_enter Tryz.func36, Tryz.ntmps36
    go_wp2_with fail
    refine HC.out.mono ?_
    rintro r w1 ⟨rfl, hb1⟩
    have hr1 := (hb1.block _ (Array.getElem?_eq_some_iff.1 hrb).1).trans hrb
    have Hb1 := Lib.hid (below_next hba hb1)
    clear b0 b1 b2 b3 b4 b5 HC hb1 hba hrb
    obtain ⟨b0, b1, b2, b3, b4, b5⟩ := facts6 hr1
    have x0 := Ht.out w1 Hb1.out
    cases hq : atomB x.head with
    | false =>
      clear hq
      go_wp2_with fail
      first | exact HB.out _ Hb1.out | (go_ret; exact HB.out _ Hb1.out)
    | true =>
      clear hq
      go_wp2_with fail
      first | exact HB.out _ Hb1.out | (go_ret; exact HB.out _ Hb1.out)
  · have t0 : ((t.x.size : Int) == 0) = false := by rw [beq_eq_false_iff_ne]; omega
    have HGood := Lib.hid (HGood.out (by
      unfold aggB varAt
      rw [if_neg hz, Hk0.out, Int.toNat_natCast, ht.out]
      have h1 : 0 ≤ x.agg := by omega
      have h2 : x.agg ≤ 4 := by omega
      simp [hts, h1, h2]))
    clear HBg hz hk0 ht x0 x1 x2 x3
    have hrb : (w.alloc (.cells #[.string x.head.rel, .slice (some ⟨ba, oa, none⟩) an ac, .int .i64 x.agg, .int .i64 (k0 : Int), .slice A n c, .int .i64 x.pos] 75)).heap[w.heap.size]? = some (.cells #[.string x.head.rel, .slice (some ⟨ba, oa, none⟩) an ac, .int .i64 x.agg, .int .i64 (k0 : Int), .slice A n c, .int .i64 x.pos] 75 (0, 0)) := heapNew rfl
    have hba : Below w.heap.size w (w.alloc (.cells #[.string x.head.rel, .slice (some ⟨ba, oa, none⟩) an ac, .int .i64 x.agg, .int .i64 (k0 : Int), .slice A n c, .int .i64 x.pos] 75)) := belowA (Below.refl _ _) _
    obtain ⟨b0, b1, b2, b3, b4, b5⟩ := facts6 hrb
    have HC := Lib.hid (refRightAtom_any x.head ⟨(some ⟨ba, oa, none⟩), an, ac⟩ (w.alloc (.cells #[.string x.head.rel, .slice (some ⟨ba, oa, none⟩) an ac, .int .i64 x.agg, .int .i64 (k0 : Int), .slice A n c, .int .i64 x.pos] 75)) (HK.out.keep hba).args)
    go_enter Tryz.func36, Tryz.ntmps36
    go_wp2_with fail
    refine HC.out.mono ?_
    rintro r w1 ⟨rfl, hb1⟩
    have hr1 := (hb1.block _ (Array.getElem?_eq_some_iff.1 hrb).1).trans hrb
    have Hb1 := Lib.hid (below_next hba hb1)
    clear b0 b1 b2 b3 b4 b5 HC hb1 hba hrb
    obtain ⟨b0, b1, b2, b3, b4, b5⟩ := facts6 hr1
    have x0 := Ht.out w1 Hb1.out
    cases hq : atomB x.head with
    | false =>
      have HB2 := Lib.hid (HBA.out hq)
      clear hq HGood HBA HBL
      go_wp2_with fail
      first | exact HB2.out _ Hb1.out | (go_ret; exact HB2.out _ Hb1.out)
    | true =>
      have HG2 := Lib.hid (HGood.out hq)
      have HR1 := Lib.hid hr1
      clear hq HGood HBA hr1
      go_wp2_with fail
      clear b0 b1 b2 b3 b4 b5
      go_loopw [3] (fun i wr => ∃ k : Nat, k ≤ n ∧ i = .int .i64 k ∧ Hid ((x.body.take k).all rightLit = true) ∧ Hid (wr.heap[w.heap.size]? = some (.cells #[.string x.head.rel, .slice (some ⟨ba, oa, none⟩) an ac, .int .i64 x.agg, .int .i64 (k0 : Int), .slice A n c, .int .i64 x.pos] 75 (0, 0))) ∧ Hid (Below w.heap.size w wr)) (fun i _ => n - (intOf i).toNat)
      case atStart => exact ⟨0, by omega, rfl, by show _ = _; simp, HR1, Hb1⟩
      case round =>
        obtain ⟨k, hk, rfl, HA, HR2, HBr⟩ := hrel
        clear HR1 Hb1
        have i0 : (0 : Int) ≤ (k : Int) := by omega
        obtain ⟨b0, b1, b2, b3, b4, b5⟩ := facts6 HR2.out
        by_cases hlt : k < n
        · have i1 : (k : Int) < (n : Int) := by omega
          obtain ⟨b, o, y, a', p', q', hAA, hbb, hy, hly, hr⟩ := (HK.out.keep HBr.out).body.lit_range hlt
          simp only at hAA
          subst hAA
          have HL := Lib.hid (refRightLit_any d y a' p' q' wr hly)
          have HT1 : Hid (rightLit y = true → (x.body.take (k + 1)).all rightLit = true) := fun h => by rw [all_take hy.out, HA.out, h]; rfl
          have HT2 := Lib.hid (fun h => HBL.out (all_false hy.out h))
          clear hy hly
          go_wp2_with (first
            | refine wpList_load_mid rfl 51 (.tmp 73) rfl b (o + k * 17) rfl (litC y a' p' q') _ hr.out Tryz.underlying51 rfl (lit5_size y a' p' q') ?_)
          refine HL.out.mono ?_
          rintro r w2 ⟨rfl, hb2⟩
          have HB2 := Lib.hid (below_next HBr.out hb2)
          have HR3 := Lib.hid ((hb2.block _ (Array.getElem?_eq_some_iff.1 HR2.out).1).trans HR2.out)
          clear hb2 hr HL b0 b1 b2 b3 b4 b5
          cases hq : rightLit y with
          | false =>
            have HB3 := Lib.hid (HT2.out hq)
            clear hq HT1 HT2
            go_wp2_with fail
            first | exact HB3.out _ HB2.out | (go_ret; exact HB3.out _ HB2.out)
          | true =>
            have HA2 := Lib.hid (HT1.out hq)
            clear hq HT1 HT2
            go_wp2_with fail
            go_roundw
            case rel => exact ⟨k + 1, by omega, by go_num, HA2, HR3, HB2⟩
            case measure => simp [intOf]; omega
        · have i1 : ¬ (k : Int) < (n : Int) := by omega
          have HG3 := Lib.hid (HG2.out (by have := HA.out; rwa [List.take_of_length_le (by have := Hlen.out; omega)] at this))
          clear HG2
          go_wp2_with fail
          first | exact HG3.out _ HBr.out | (go_ret; exact HG3.out _ HBr.out)
end Go.Proofs.YtgabkmibfhmkmaaGreatDoor

namespace Go.Proofs.YtgabkmibfhmkmaaGreatDoor
open Go.RowKit
def bodyS (l : List GLit) (k : Nat) : List UInt8 := if k = 0 then [] else [32, 58, 45, 32] ++ Lib.join ((l.take k).map litS) sep2
theorem bodyS_step {l : List GLit} {k : Nat} {y : GLit} (h : l[k]? = some y) : bodyS l (k + 1) = bodyS l k ++ (if k = 0 then [32, 58, 45, 32] else sep2) ++ litS y := by
  unfold bodyS
  rw [if_neg (by omega), List.take_add_one, h]
  simp only [Option.toList_some, List.map_append, List.map_cons, List.map_nil]
  by_cases hk : k = 0
  · subst hk
    simp only [List.take_zero, List.map_nil, List.nil_append, if_true, join_one]
  · rw [if_neg hk, if_neg hk, join_snoc]
    · simp only [List.append_assoc]
    · intro e
      have h1 := congrArg List.length e
      have hkl : k < l.length := (List.getElem?_eq_some_iff.1 h).1
      rw [List.length_map, List.length_take] at h1
      simp only [List.length_nil] at h1
      omega
theorem bodyS_grow {l : List GLit} : ∀ (d k : Nat), k + d ≤ l.length → (bodyS l k).length ≤ (bodyS l (k + d)).length
  | 0, k, _ => Nat.le_refl _
  | d + 1, k, h => by
    have h1 := bodyS_grow (l := l) d k (by omega)
    have h2 := bodyS_step (List.getElem?_eq_getElem (l := l) (i := k + d) (by omega))
    rw [show k + (d + 1) = k + d + 1 from rfl, h2]
    simp only [List.length_append]
    omega
theorem bodyS_full (l : List GLit) : bodyS l l.length = (if l = [] then [] else [32, 58, 45, 32] ++ Lib.join (l.map litS) sep2) := by
  unfold bodyS
  by_cases h : l = []
  · subst h; rfl
  · rw [if_neg h, if_neg (fun e => h (List.eq_nil_of_length_eq_zero e)), List.take_length]
set_option maxRecDepth 100000 in
set_option maxHeartbeats 8000000 in
theorem refRule_any (d : Nat) (x : GRule) (A : Option Addr) (an ac : Nat) (B : Option Addr) (bn bc : Nat) (w : World) (h : RuleAt d w w.heap.size x ⟨A, an, ac⟩ ⟨B, bn, bc⟩) (hr : rightRule x = true) (hlen : (ruleS x).length ≤ 1000000000000) :
    Calls Tryz.prog 38 #[.agg #[.string x.head.rel, .slice A an ac, .int .i64 x.agg, .int .i64 x.col, .slice B bn bc, .int .i64 x.pos]] w (RetV (.string (bytes (ruleS x))) w) := by
  have mixed : Tryz.prog.follows .mixedOrders = true := by kernel_rfl
  obtain ⟨S, HS⟩ : ∃ S, Hid (S = ruleS x) := ⟨_, rfl⟩
  rw [← HS.out] at hlen ⊢
  obtain ⟨⟨g, hg, hg4⟩, h6, h8, hall⟩ := rightRule_parts hr
  have Hlb : Hid (x.body.length = bn) := h.body.1
  have HE : Hid (S = atomS x.head (g : Int) x.col ++ bodyS x.body bn ++ [46]) := by show _ = _; rw [HS.out, ← hg, ← Hlb.out, bodyS_full]; rfl
  rw [hg]
  have hrb : (w.alloc (.cells #[.string x.head.rel, .slice A an ac, .int .i64 (g : Int), .int .i64 x.col, .slice B bn bc, .int .i64 x.pos] 75)).heap[w.heap.size]? = some (.cells #[.string x.head.rel, .slice A an ac, .int .i64 (g : Int), .int .i64 x.col, .slice B bn bc, .int .i64 x.pos] 75 (0, 0)) := heapNew rfl
  have hba : Below w.heap.size w (w.alloc (.cells #[.string x.head.rel, .slice A an ac, .int .i64 (g : Int), .int .i64 x.col, .slice B bn bc, .int .i64 x.pos] 75)) := belowA (Below.refl _ _) _
  have HH := Lib.hid (h.keep hba)
  have Hba := Lib.hid hba
  have hbn := h.body.bound
  dsimp only at hbn
  have hb8 : bn ≤ 8 := by have h1 := Hlb.out; omega
  have Hrb := Lib.hid hrb
  have Hall := Lib.hid hall
  obtain ⟨f0, f1, f2, f3, f4, f5⟩ := facts6 hrb
  clear h hr hrb hba hall hg HS
  have hl0 := hlen
  rw [HE.out] at hl0
  simp only [List.length_append, List.length_cons, List.length_nil] at hl0
  have HL0 := Lib.hid hl0
  have hla : (atomS x.head (g : Int) x.col).length ≤ 1000000000000 := by omega
  generalize hwb : (w.alloc (.cells #[.string x.head.rel, .slice A an ac, .int .i64 (g : Int), .int .i64 x.col, .slice B bn bc, .int .i64 x.pos] 75)) = wb at *
  have HC1 := Lib.hid (refAtom_any g x.col x.head A an ac wb HH.out.args hg4 hla)
  have HS0 : Hid (bytes (atomS x.head (g : Int) x.col) = bytes (atomS x.head (g : Int) x.col ++ bodyS x.body 0)) := by show _ = _; unfold bodyS; simp
  go_enter Tryz.func38, Tryz.ntmps38
  go_wp2_with fail
  try simp only [hwb]
  clear hwb
  go_wp2_with fail
  refine HC1.out.mono ?_
  rintro r wN ⟨rfl, hb1⟩
  have HB1 := Lib.hid hb1
  clear HC1 hb1 f0 f1 f2 f3 f4 f5 hl0 hla
  go_wp2_with fail
  go_loopw [3, 4] (fun v i wr => ∃ (k : Nat) (s : ByteArray), k ≤ bn ∧ v = .string s ∧ i = .int .i64 k ∧ Hid (s = bytes (atomS x.head (g : Int) x.col ++ bodyS x.body k)) ∧ Hid (Below wb.heap.size wb wr)) (fun _ i _ => bn - (intOf i).toNat)
  case atStart => exact ⟨0, _, by omega, rfl, rfl, HS0, HB1.out⟩
  case round =>
    clear HS0
    obtain ⟨k, s, hk, rfl, rfl, Hs, HBr⟩ := hrel
    have i0 : (0 : Int) ≤ (k : Int) := by omega
    have hrX := (HBr.out.block _ (Array.getElem?_eq_some_iff.1 Hrb.out).1).trans Hrb.out
    have f4 : wr.cell? ⟨w.heap.size, 4, none⟩ = some (.slice B bn bc) := (cell_of_row _ _ 4 _ _ _ hrX).trans rfl
    have hss : s.size ≤ 1000000000000 := by
      have h1 := bodyS_grow (l := x.body) (bn - k) k (by have := Hlb.out; omega)
      rw [show k + (bn - k) = bn by omega] at h1
      have h2 := HL0.out
      have h4 := congrArg ByteArray.size Hs.out
      rw [bytes_size, List.length_append] at h4
      omega
    by_cases hlt : k < bn
    · have i1 : (k : Int) < (bn : Int) := by omega
      obtain ⟨bb, o, y, a', p', q', hA, hbb, hy, hly, Hr⟩ := (HH.out.keep HBr.out).body.lit_range hlt
      try simp only at hA
      subst hA
      obtain ⟨A1, n1, c1⟩ := a'
      obtain ⟨A2, n2, c2⟩ := p'
      obtain ⟨A3, n3, c3⟩ := q'
      have hym := List.mem_of_getElem? hy.out
      have hst := bodyS_step hy.out
      have hyl : (litS y).length ≤ 1000000000000 := by
        have h1 := bodyS_grow (l := x.body) (bn - (k + 1)) (k + 1) (by have := Hlb.out; omega)
        rw [show k + 1 + (bn - (k + 1)) = bn by omega, hst] at h1
        simp only [List.length_append] at h1
        have h2 := HL0.out
        omega
      have HC := Lib.hid (refLiteral_any d y A1 n1 c1 A2 n2 c2 A3 n3 c3 wr hly (Hall.out y hym) hyl)
      obtain ⟨s1, Hs1⟩ : ∃ s1, Hid (s1 = s ++ bytes (if k = 0 then [32, 58, 45, 32] else sep2)) := ⟨_, rfl⟩
      have hs1s : s1.size ≤ 1000000000004 := by
        have h4 := congrArg ByteArray.size Hs1.out
        rw [ByteArray.size_append, bytes_size] at h4
        split at h4
        · simp only [List.length_cons, List.length_nil] at h4; omega
        · have : sep2.length = 2 := rfl
          omega
      have HNx : Hid (s1 ++ bytes (litS y) = bytes (atomS x.head (g : Int) x.col ++ bodyS x.body (k + 1))) := by
        show _ = _
        rw [hst, Hs1.out, Hs.out, bytes_app, bytes_app]
        simp only [List.append_assoc]
      have e3 : (bytes (litS y)).size = (litS y).length := rfl
      clear hy hly hst hym Hs
      go_upto_if 20 with fail
      go_cut [3] (fun v W => v = .string s1 ∧ W = wr)
      case first =>
        by_cases hk0 : k = 0
        · have i2 : ((k : Int) == 0) = true := by simp [hk0]
          have HS1 : Hid (s1 = s ++ ⟨#[32, 58, 45, 32]⟩) := by show _ = _; rw [Hs1.out, if_pos hk0]; rfl
          have hz1 : ¬ (9223372036854775807 < s.size + 4) := by omega
          have hz3 : ¬ (9223372036854775803 < s.size) := by omega
          clear hk0 Hs1
          go_wp2_with fail
          go_meet
          exact ⟨by rw [HS1.out], rfl⟩
        · have i2 : ((k : Int) == 0) = false := by simp [hk0]
          have HS1 : Hid (s1 = s ++ ⟨#[44, 32]⟩) := by show _ = _; rw [Hs1.out, if_neg hk0]; rfl
          have hz1 : ¬ (9223372036854775807 < s.size + 2) := by omega
          have hz3 : ¬ (9223372036854775805 < s.size) := by omega
          clear hk0 Hs1
          go_wp2_with fail
          go_meet
          exact ⟨by rw [HS1.out], rfl⟩
      case rest =>
        obtain ⟨rfl, rfl⟩ := hcut
        clear Hs1 hss
        generalize bytes (litS y) = sl at *
        have hz1 : ¬ (9223372036854775807 < s1.size + sl.size) := by omega
        go_wp2_with (refine wpList_load_mid rfl 51 (.tmp 29) rfl bb (o + k * 17) rfl (litC y ⟨A1, n1, c1⟩ ⟨A2, n2, c2⟩ ⟨A3, n3, c3⟩) _ Hr.out Tryz.underlying51 rfl (lit5_size _ _ _ _) ?_)
        refine HC.out.mono ?_
        rintro r w2 ⟨rfl, hq2⟩
        have HBn := Lib.hid (below_next HBr.out hq2)
        clear hq2 HC Hr f4
        go_wp2_with fail
        go_roundw
        case rel => exact ⟨k + 1, _, by omega, rfl, by go_num, HNx, HBn⟩
        case measure => simp [intOf]; omega
    · have i1 : ¬ (k : Int) < (bn : Int) := by omega
      have hkn : k = bn := by omega
      have HSE : Hid (bytes S = s ++ ⟨#[46]⟩) := by
        show _ = s ++ bytes [46]
        have h1 := Hs.out
        rw [hkn] at h1
        rw [HE.out, h1, bytes_app]
      have HBn := Lib.hid (below_next Hba.out HBr.out)
      have hz1 : ¬ (9223372036854775807 < s.size + 1) := by omega
      have hz3 : ¬ (9223372036854775806 < s.size) := by omega
      clear Hs
      go_wp2_with fail
      go_ret
      exact ⟨by rw [HSE.out]; rfl, HBn.out⟩
end Go.Proofs.YtgabkmibfhmkmaaGreatDoor
