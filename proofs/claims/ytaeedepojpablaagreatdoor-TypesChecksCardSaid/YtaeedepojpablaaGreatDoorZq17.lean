/- My own texts TLit, as far as this claim needs them. -/
import Derived.Test.YtaeedepojpablaaGreatDoorZq8
set_option linter.unusedVariables false
set_option linter.unusedSimpArgs false
set_option maxRecDepth 1000000
set_option maxHeartbeats 16000000
namespace Go.Proofs.YtaeedepojpablaaGreatDoor
open Go.RowKit
def atomB (x : GAtom) : Bool := singleB 2 x.rel && (decide (x.args.length ≤ 6) && x.args.all rightT)
theorem aright_any (x : GAtom) (a : Hd) (w : World) (hs : x.rel.size ≤ reachN) (hl : SliceIs Enc.told w w.heap.size a.A a.n a.c x.args) (hW : LexW w) : Calls Tryz.prog 73 #[.agg #[.string x.rel, a.v]] w (RetBool (atomB x) w) := by
 obtain ⟨B, HB⟩ : ∃ B, Hid (B = atomB x) := ⟨_, rfl⟩
 rw [← HB.out]; have hrb : (w.alloc (.cells #[.string x.rel, a.v] 53)).heap[w.heap.size]? = some (.cells #[.string x.rel, a.v] 53 (0, 0)) := heapNew rfl; have hba : Below w.heap.size w (w.alloc (.cells #[.string x.rel, a.v] 53)) := belowA (Below.refl _ _) _; have hn := hl.bound; have hlen := hZ9 hl.1; obtain ⟨N, HN⟩ : ∃ N, Hid (N = singleB 2 x.rel) := ⟨_, rfl⟩
 obtain ⟨E, HEe⟩ : ∃ E, Hid (E = x.args.all rightT) := ⟨_, rfl⟩
 have HE : Hid (B = (N && (decide (x.args.length ≤ 6) && E))) := by show _ = _; rw [HB.out, HN.out, HEe.out]; rfl
 have C1 : Hid (∀ W, Below (w.alloc (.cells #[.string x.rel, a.v] 53)).heap.size (w.alloc (.cells #[.string x.rel, a.v] 53)) W → Calls Tryz.prog 95 #[.string x.rel] W (RetBool N W)) := fun W h => by rw [HN.out]; exact named_any x.rel hs W ((hW.on hba).on h)
 have C2 : Hid (∀ W, Below (w.alloc (.cells #[.string x.rel, a.v] 53)).heap.size (w.alloc (.cells #[.string x.rel, a.v] 53)) W → Calls Tryz.prog 109 #[a.v, .func (.func 110) #[] #[]] W (RetBool E W)) := fun W h => by
  rw [HEe.out]; exact everyT_any a.A a.n a.c x.args W ((hl.keep hba).keep h) (fun t W' ht h' => tright_any t ht.1 W' (((hW.on hba).on h).on h'))
 have Hrow : Hid (∀ W, Below (w.alloc (.cells #[.string x.rel, a.v] 53)).heap.size (w.alloc (.cells #[.string x.rel, a.v] 53)) W → W.heap[w.heap.size]? = some (.cells #[.string x.rel, a.v] 53 (0, 0))) := fun W h => (h.block _ (glt hrb)).trans hrb
 obtain ⟨f0_0, f0_1⟩ := facts2 hrb; clear hl hW hs hrb HB HN HEe; by_cases h6 : a.n ≤ 6
 ·have z6 : (a.n : Int) ≤ 6 := by omega
  have HE2 : Hid (B = (N && E)) := by show _ = _; rw [HE.out, decide_eq_true (by rw [hlen.out]; exact h6)]; rfl
  clear HE hlen h6; generalize hwb : (w.alloc (.cells #[.string x.rel, a.v] 53)) = wb at *; have Hbw0 := hZ9 (Below.refl wb.heap.size wb); go_enter Tryz.func73, Tryz.ntmps73
  go_wp2_with fail
  try simp only [hwb]
  go_wp2_with fail
  refine (C1.out _ Hbw0.out).mono ?_; rintro e1 w1 ⟨rfl, hq1⟩; have Hbw1 := hZ9 (below_next Hbw0.out hq1); obtain ⟨f1_0, f1_1⟩ := facts2 (Hrow.out _ Hbw1.out); clear hq1 f0_0 f0_1; cases N with
  | false =>
    go_wp2_with fail
    go_ret; exact ⟨by rw [HE2.out]; rfl, below_next hba Hbw1.out⟩
  | true =>
    go_wp2_with fail
    refine (C2.out _ Hbw1.out).mono ?_; rintro e2 w2 ⟨rfl, hq2⟩; have Hbw2 := hZ9 (below_next Hbw1.out hq2); obtain ⟨f2_0, f2_1⟩ := facts2 (Hrow.out _ Hbw2.out); clear hq2 f1_0 f1_1; cases E <;>
    ·go_wp2_with fail
     go_ret; exact ⟨by rw [HE2.out]; rfl, below_next hba Hbw2.out⟩
 ·have z6 : ¬ (a.n : Int) ≤ 6 := by omega
  have HE2 : Hid (B = false) := by show _ = _; rw [HE.out, decide_eq_false (by rw [hlen.out]; exact h6)]; simp
  clear HE hlen h6 C2; generalize hwb : (w.alloc (.cells #[.string x.rel, a.v] 53)) = wb at *; have Hbw0 := hZ9 (Below.refl wb.heap.size wb); go_enter Tryz.func73, Tryz.ntmps73
  go_wp2_with fail
  try simp only [hwb]
  go_wp2_with fail
  refine (C1.out _ Hbw0.out).mono ?_; rintro e1 w1 ⟨rfl, hq1⟩; have Hbw1 := hZ9 (below_next Hbw0.out hq1); obtain ⟨f1_0, f1_1⟩ := facts2 (Hrow.out _ Hbw1.out); clear hq1 f0_0 f0_1; cases N <;>
  ·go_wp2_with fail
   go_ret; exact ⟨by rw [HE2.out]; rfl, below_next hba Hbw1.out⟩
def cmpB2 (x : GLit) : Bool := (decide (x.atom.rel.size = 0) && decide (x.atom.args.length = 0)) && (decide (1 ≤ x.op) && decide (x.op ≤ 6))
def rightLit (x : GLit) : Bool := if x.k = 1 ∨ x.k = 2 then atomB x.atom && (decide (x.op = 0) && (noneE x.l && noneE x.r)) else
 decide (x.k = 3) && (cmpB2 x && (rightE 20 x.l && rightE 20 x.r))
theorem rightLit_any (d : Nat) (x : GLit) (a p q : Hd) (w : World) (h : LitAt d w w.heap.size x a p q) (hW : LexW w) : Calls Tryz.prog 76 #[.agg #[.int .i64 x.k, .string x.atom.rel, a.v, .int .i64 x.op, .int .i64 x.l.op, .string x.l.t.x, .int .i64 x.l.t.v.k, .int .i64 x.l.t.v.n, .string x.l.t.v.s, p.v, .int .i64 x.r.op, .string x.r.t.x, .int .i64 x.r.t.v.k, .int .i64 x.r.t.v.n, .string x.r.t.v.s, q.v, .int .i64 x.pos]] w (RetBool (rightLit x) w) := by
 obtain ⟨B, HB⟩ : ∃ B, Hid (B = rightLit x) := ⟨_, rfl⟩
 rw [← HB.out]; have hrb : (w.alloc (.cells #[.int .i64 x.k, .string x.atom.rel, a.v, .int .i64 x.op, .int .i64 x.l.op, .string x.l.t.x, .int .i64 x.l.t.v.k, .int .i64 x.l.t.v.n, .string x.l.t.v.s, p.v, .int .i64 x.r.op, .string x.r.t.x, .int .i64 x.r.t.v.k, .int .i64 x.r.t.v.n, .string x.r.t.v.s, q.v, .int .i64 x.pos] 80)).heap[w.heap.size]? = some (.cells #[.int .i64 x.k, .string x.atom.rel, a.v, .int .i64 x.op, .int .i64 x.l.op, .string x.l.t.x, .int .i64 x.l.t.v.k, .int .i64 x.l.t.v.n, .string x.l.t.v.s, p.v, .int .i64 x.r.op, .string x.r.t.x, .int .i64 x.r.t.v.k, .int .i64 x.r.t.v.n, .string x.r.t.v.s, q.v, .int .i64 x.pos] 80 (0, 0)) := heapNew rfl; have hba : Below w.heap.size w (w.alloc (.cells #[.int .i64 x.k, .string x.atom.rel, a.v, .int .i64 x.op, .int .i64 x.l.op, .string x.l.t.x, .int .i64 x.l.t.v.k, .int .i64 x.l.t.v.n, .string x.l.t.v.s, p.v, .int .i64 x.r.op, .string x.r.t.x, .int .i64 x.r.t.v.k, .int .i64 x.r.t.v.n, .string x.r.t.v.s, q.v, .int .i64 x.pos] 80)) := belowA (Below.refl _ _) _; have hna := h.args.bound; have Hla := hZ9 h.args.1; have HH := hZ9 (h.keep hba); have HW := hZ9 (hW.on hba); clear h hW; have Hrow : Hid (∀ W, Below (w.alloc (.cells #[.int .i64 x.k, .string x.atom.rel, a.v, .int .i64 x.op, .int .i64 x.l.op, .string x.l.t.x, .int .i64 x.l.t.v.k, .int .i64 x.l.t.v.n, .string x.l.t.v.s, p.v, .int .i64 x.r.op, .string x.r.t.x, .int .i64 x.r.t.v.k, .int .i64 x.r.t.v.n, .string x.r.t.v.s, q.v, .int .i64 x.pos] 80)).heap.size (w.alloc (.cells #[.int .i64 x.k, .string x.atom.rel, a.v, .int .i64 x.op, .int .i64 x.l.op, .string x.l.t.x, .int .i64 x.l.t.v.k, .int .i64 x.l.t.v.n, .string x.l.t.v.s, p.v, .int .i64 x.r.op, .string x.r.t.x, .int .i64 x.r.t.v.k, .int .i64 x.r.t.v.n, .string x.r.t.v.s, q.v, .int .i64 x.pos] 80)) W → W.heap[w.heap.size]? = some (.cells #[.int .i64 x.k, .string x.atom.rel, a.v, .int .i64 x.op, .int .i64 x.l.op, .string x.l.t.x, .int .i64 x.l.t.v.k, .int .i64 x.l.t.v.n, .string x.l.t.v.s, p.v, .int .i64 x.r.op, .string x.r.t.x, .int .i64 x.r.t.v.k, .int .i64 x.r.t.v.n, .string x.r.t.v.s, q.v, .int .i64 x.pos] 80 (0, 0))) := fun W h => (h.block _ (glt hrb)).trans hrb
 obtain ⟨f0_0, f0_1, f0_2, f0_3, f0_4, f0_5, f0_6, f0_7, f0_8, f0_9, f0_10, f0_11, f0_12, f0_13, f0_14, f0_15, f0_16⟩ := facts17 hrb; by_cases hk12 : x.k = 1 ∨ x.k = 2
 ·obtain ⟨P1, HP1⟩ : ∃ E, Hid (E = atomB x.atom) := ⟨_, rfl⟩
  obtain ⟨P2, HP2⟩ : ∃ E, Hid (E = noneE x.l) := ⟨_, rfl⟩
  obtain ⟨P3, HP3⟩ : ∃ E, Hid (E = noneE x.r) := ⟨_, rfl⟩
  have HE : Hid (B = (P1 && (decide (x.op = 0) && (P2 && P3)))) := by show _ = _; rw [HB.out, HP1.out, HP2.out, HP3.out]; unfold rightLit; rw [if_pos hk12]
  have C1 : Hid (∀ W, Below (w.alloc (.cells #[.int .i64 x.k, .string x.atom.rel, a.v, .int .i64 x.op, .int .i64 x.l.op, .string x.l.t.x, .int .i64 x.l.t.v.k, .int .i64 x.l.t.v.n, .string x.l.t.v.s, p.v, .int .i64 x.r.op, .string x.r.t.x, .int .i64 x.r.t.v.k, .int .i64 x.r.t.v.n, .string x.r.t.v.s, q.v, .int .i64 x.pos] 80)).heap.size (w.alloc (.cells #[.int .i64 x.k, .string x.atom.rel, a.v, .int .i64 x.op, .int .i64 x.l.op, .string x.l.t.x, .int .i64 x.l.t.v.k, .int .i64 x.l.t.v.n, .string x.l.t.v.s, p.v, .int .i64 x.r.op, .string x.r.t.x, .int .i64 x.r.t.v.k, .int .i64 x.r.t.v.n, .string x.r.t.v.s, q.v, .int .i64 x.pos] 80)) W → Calls Tryz.prog 73 #[.agg #[.string x.atom.rel, a.v]] W (RetBool P1 W)) := fun W h => by rw [HP1.out]; exact aright_any x.atom a W HH.out.rel (HH.out.args.keep h) (HW.out.on h)
  have C2 : Hid (∀ W, Below (w.alloc (.cells #[.int .i64 x.k, .string x.atom.rel, a.v, .int .i64 x.op, .int .i64 x.l.op, .string x.l.t.x, .int .i64 x.l.t.v.k, .int .i64 x.l.t.v.n, .string x.l.t.v.s, p.v, .int .i64 x.r.op, .string x.r.t.x, .int .i64 x.r.t.v.k, .int .i64 x.r.t.v.n, .string x.r.t.v.s, q.v, .int .i64 x.pos] 80)).heap.size (w.alloc (.cells #[.int .i64 x.k, .string x.atom.rel, a.v, .int .i64 x.op, .int .i64 x.l.op, .string x.l.t.x, .int .i64 x.l.t.v.k, .int .i64 x.l.t.v.n, .string x.l.t.v.s, p.v, .int .i64 x.r.op, .string x.r.t.x, .int .i64 x.r.t.v.k, .int .i64 x.r.t.v.n, .string x.r.t.v.s, q.v, .int .i64 x.pos] 80)) W → Calls Tryz.prog 113 #[.agg #[.int .i64 x.l.op, .string x.l.t.x, .int .i64 x.l.t.v.k, .int .i64 x.l.t.v.n, .string x.l.t.v.s, p.v]] W (RetBool P2 W)) := fun W h => by rw [HP2.out]; exact none_any x.l p.A p.n p.c W HH.out.lk.1 HH.out.lk.2.2.2.1
  have C3 : Hid (∀ W, Below (w.alloc (.cells #[.int .i64 x.k, .string x.atom.rel, a.v, .int .i64 x.op, .int .i64 x.l.op, .string x.l.t.x, .int .i64 x.l.t.v.k, .int .i64 x.l.t.v.n, .string x.l.t.v.s, p.v, .int .i64 x.r.op, .string x.r.t.x, .int .i64 x.r.t.v.k, .int .i64 x.r.t.v.n, .string x.r.t.v.s, q.v, .int .i64 x.pos] 80)).heap.size (w.alloc (.cells #[.int .i64 x.k, .string x.atom.rel, a.v, .int .i64 x.op, .int .i64 x.l.op, .string x.l.t.x, .int .i64 x.l.t.v.k, .int .i64 x.l.t.v.n, .string x.l.t.v.s, p.v, .int .i64 x.r.op, .string x.r.t.x, .int .i64 x.r.t.v.k, .int .i64 x.r.t.v.n, .string x.r.t.v.s, q.v, .int .i64 x.pos] 80)) W → Calls Tryz.prog 113 #[.agg #[.int .i64 x.r.op, .string x.r.t.x, .int .i64 x.r.t.v.k, .int .i64 x.r.t.v.n, .string x.r.t.v.s, q.v]] W (RetBool P3 W)) := fun W h => by rw [HP3.out]; exact none_any x.r q.A q.n q.c W HH.out.rk.1 HH.out.rk.2.2.2.1
  clear hrb HB HP1 HP2 HP3 HH HW Hla; generalize hwb : (w.alloc (.cells #[.int .i64 x.k, .string x.atom.rel, a.v, .int .i64 x.op, .int .i64 x.l.op, .string x.l.t.x, .int .i64 x.l.t.v.k, .int .i64 x.l.t.v.n, .string x.l.t.v.s, p.v, .int .i64 x.r.op, .string x.r.t.x, .int .i64 x.r.t.v.k, .int .i64 x.r.t.v.n, .string x.r.t.v.s, q.v, .int .i64 x.pos] 80)) = wb at *; have Hbw0 := hZ9 (Below.refl wb.heap.size wb); by_cases ho : x.op = 0
  ·have o0 : (x.op == 0) = true := by simp [ho]
   have HE2 : Hid (B = (P1 && (P2 && P3))) := by show _ = _; rw [HE.out, decide_eq_true ho]; rfl
   clear HE ho; rcases hk12 with hk | hk
   ·have k1 : (x.k == 1) = true := by simp [hk]
    clear hk; go_enter Tryz.func76, Tryz.ntmps76
    go_wp2_with fail
    try simp only [hwb]
    go_wp2_with fail
    refine (C1.out _ Hbw0.out).mono ?_; rintro e1 w1 ⟨rfl, hq1⟩; have Hbw1 := hZ9 (below_next Hbw0.out hq1); obtain ⟨f1_0, f1_1, f1_2, f1_3, f1_4, f1_5, f1_6, f1_7, f1_8, f1_9, f1_10, f1_11, f1_12, f1_13, f1_14, f1_15, f1_16⟩ := facts17 (Hrow.out _ Hbw1.out); clear hq1 f0_0 f0_1 f0_2 f0_3 f0_4 f0_5 f0_6 f0_7 f0_8 f0_9 f0_10 f0_11 f0_12 f0_13 f0_14 f0_15 f0_16; cases P1 with
    | false =>
      go_wp2_with fail
      go_ret; exact ⟨by rw [HE2.out]; rfl, below_next hba Hbw1.out⟩
    | true =>
      go_wp2_with fail
      refine (C2.out _ Hbw1.out).mono ?_; rintro e2 w2 ⟨rfl, hq2⟩; have Hbw2 := hZ9 (below_next Hbw1.out hq2); obtain ⟨f2_0, f2_1, f2_2, f2_3, f2_4, f2_5, f2_6, f2_7, f2_8, f2_9, f2_10, f2_11, f2_12, f2_13, f2_14, f2_15, f2_16⟩ := facts17 (Hrow.out _ Hbw2.out); clear hq2 f1_0 f1_1 f1_2 f1_3 f1_4 f1_5 f1_6 f1_7 f1_8 f1_9 f1_10 f1_11 f1_12 f1_13 f1_14 f1_15 f1_16; cases P2 with
      | false =>
        go_wp2_with fail
        go_ret; exact ⟨by rw [HE2.out]; rfl, below_next hba Hbw2.out⟩
      | true =>
        go_wp2_with fail
        refine (C3.out _ Hbw2.out).mono ?_; rintro e3 w3 ⟨rfl, hq3⟩; have Hbw3 := hZ9 (below_next Hbw2.out hq3); obtain ⟨f3_0, f3_1, f3_2, f3_3, f3_4, f3_5, f3_6, f3_7, f3_8, f3_9, f3_10, f3_11, f3_12, f3_13, f3_14, f3_15, f3_16⟩ := facts17 (Hrow.out _ Hbw3.out); clear hq3 f2_0 f2_1 f2_2 f2_3 f2_4 f2_5 f2_6 f2_7 f2_8 f2_9 f2_10 f2_11 f2_12 f2_13 f2_14 f2_15 f2_16; cases P3 <;>
        ·go_wp2_with fail
         go_ret; exact ⟨by rw [HE2.out]; rfl, below_next hba Hbw3.out⟩
   ·have k1 : (x.k == 1) = false := by simp [hk]
    have k2 : (x.k == 2) = true := by simp [hk]
    clear hk; go_enter Tryz.func76, Tryz.ntmps76
    go_wp2_with fail
    try simp only [hwb]
    go_wp2_with fail
    refine (C1.out _ Hbw0.out).mono ?_; rintro e1 w1 ⟨rfl, hq1⟩; have Hbw1 := hZ9 (below_next Hbw0.out hq1); obtain ⟨f1_0, f1_1, f1_2, f1_3, f1_4, f1_5, f1_6, f1_7, f1_8, f1_9, f1_10, f1_11, f1_12, f1_13, f1_14, f1_15, f1_16⟩ := facts17 (Hrow.out _ Hbw1.out); clear hq1 f0_0 f0_1 f0_2 f0_3 f0_4 f0_5 f0_6 f0_7 f0_8 f0_9 f0_10 f0_11 f0_12 f0_13 f0_14 f0_15 f0_16; cases P1 with
    | false =>
      go_wp2_with fail
      go_ret; exact ⟨by rw [HE2.out]; rfl, below_next hba Hbw1.out⟩
    | true =>
      go_wp2_with fail
      refine (C2.out _ Hbw1.out).mono ?_; rintro e2 w2 ⟨rfl, hq2⟩; have Hbw2 := hZ9 (below_next Hbw1.out hq2); obtain ⟨f2_0, f2_1, f2_2, f2_3, f2_4, f2_5, f2_6, f2_7, f2_8, f2_9, f2_10, f2_11, f2_12, f2_13, f2_14, f2_15, f2_16⟩ := facts17 (Hrow.out _ Hbw2.out); clear hq2 f1_0 f1_1 f1_2 f1_3 f1_4 f1_5 f1_6 f1_7 f1_8 f1_9 f1_10 f1_11 f1_12 f1_13 f1_14 f1_15 f1_16; cases P2 with
      | false =>
        go_wp2_with fail
        go_ret; exact ⟨by rw [HE2.out]; rfl, below_next hba Hbw2.out⟩
      | true =>
        go_wp2_with fail
        refine (C3.out _ Hbw2.out).mono ?_; rintro e3 w3 ⟨rfl, hq3⟩; have Hbw3 := hZ9 (below_next Hbw2.out hq3); obtain ⟨f3_0, f3_1, f3_2, f3_3, f3_4, f3_5, f3_6, f3_7, f3_8, f3_9, f3_10, f3_11, f3_12, f3_13, f3_14, f3_15, f3_16⟩ := facts17 (Hrow.out _ Hbw3.out); clear hq3 f2_0 f2_1 f2_2 f2_3 f2_4 f2_5 f2_6 f2_7 f2_8 f2_9 f2_10 f2_11 f2_12 f2_13 f2_14 f2_15 f2_16; cases P3 <;>
        ·go_wp2_with fail
         go_ret; exact ⟨by rw [HE2.out]; rfl, below_next hba Hbw3.out⟩
  ·have o0 : (x.op == 0) = false := by simp [ho]
   have HE2 : Hid (B = false) := by show _ = _; rw [HE.out, decide_eq_false ho]; simp
   clear HE ho C2 C3; rcases hk12 with hk | hk
   ·have k1 : (x.k == 1) = true := by simp [hk]
    clear hk; go_enter Tryz.func76, Tryz.ntmps76
    go_wp2_with fail
    try simp only [hwb]
    go_wp2_with fail
    refine (C1.out _ Hbw0.out).mono ?_; rintro e1 w1 ⟨rfl, hq1⟩; have Hbw1 := hZ9 (below_next Hbw0.out hq1); obtain ⟨f1_0, f1_1, f1_2, f1_3, f1_4, f1_5, f1_6, f1_7, f1_8, f1_9, f1_10, f1_11, f1_12, f1_13, f1_14, f1_15, f1_16⟩ := facts17 (Hrow.out _ Hbw1.out); clear hq1 f0_0 f0_1 f0_2 f0_3 f0_4 f0_5 f0_6 f0_7 f0_8 f0_9 f0_10 f0_11 f0_12 f0_13 f0_14 f0_15 f0_16; cases P1 <;>
    ·go_wp2_with fail
     go_ret; exact ⟨by rw [HE2.out]; rfl, below_next hba Hbw1.out⟩
   ·have k1 : (x.k == 1) = false := by simp [hk]
    have k2 : (x.k == 2) = true := by simp [hk]
    clear hk; go_enter Tryz.func76, Tryz.ntmps76
    go_wp2_with fail
    try simp only [hwb]
    go_wp2_with fail
    refine (C1.out _ Hbw0.out).mono ?_; rintro e1 w1 ⟨rfl, hq1⟩; have Hbw1 := hZ9 (below_next Hbw0.out hq1); obtain ⟨f1_0, f1_1, f1_2, f1_3, f1_4, f1_5, f1_6, f1_7, f1_8, f1_9, f1_10, f1_11, f1_12, f1_13, f1_14, f1_15, f1_16⟩ := facts17 (Hrow.out _ Hbw1.out); clear hq1 f0_0 f0_1 f0_2 f0_3 f0_4 f0_5 f0_6 f0_7 f0_8 f0_9 f0_10 f0_11 f0_12 f0_13 f0_14 f0_15 f0_16; cases P1 <;>
    ·go_wp2_with fail
     go_ret; exact ⟨by rw [HE2.out]; rfl, below_next hba Hbw1.out⟩
 have k1 : (x.k == 1) = false := by simp; omega
 have k2 : (x.k == 2) = false := by simp; omega
 by_cases hk3 : x.k = 3
 rotate_left
 ·have k3 : (x.k == 3) = false := by simp [hk3]
  have HE2 : Hid (B = false) := by show _ = _; rw [HB.out]; simp [rightLit, hk12, hk3]
  clear hk3 hk12 HB HH HW Hrow hrb Hla; go_enter Tryz.func76, Tryz.ntmps76
  go_wp2_with fail
  go_ret; exact ⟨by rw [HE2.out]; rfl, belowA (Below.refl _ _) _⟩
 have k3 : (x.k == 3) = true := by simp [hk3]
 have HE : Hid (B = (cmpB2 x && (rightE 20 x.l && rightE 20 x.r))) := by show _ = _; rw [HB.out]; simp [rightLit, hk3]
 by_cases hc : cmpB2 x = true
 rotate_left
 ·have HE2 : Hid (B = false) := by show _ = _; rw [HE.out]; simp [hc]
  have hc' : (¬ x.atom.rel.toList = []) ∨ (x.atom.rel.toList = [] ∧ ¬ (a.n : Int) = 0) ∨ (x.atom.rel.toList = [] ∧ (a.n : Int) = 0 ∧ x.op < 1) ∨ (x.atom.rel.toList = [] ∧ (a.n : Int) = 0 ∧ ¬ x.op < 1 ∧ 6 < x.op) := by
   have h1 := Hla.out; have h2 := @str_empty x.atom.rel; unfold cmpB2 at hc; by_cases g1 : x.atom.rel.size = 0
   ·have g2 := h2.2 g1; by_cases g3 : a.n = 0
    ·by_cases g4 : x.op < 1
     ·exact .inr (.inr (.inl ⟨g2, by omega, g4⟩))
     ·by_cases g5 : 6 < x.op
      ·exact .inr (.inr (.inr ⟨g2, by omega, g4, g5⟩))
      ·exfalso; apply hc; have : 1 ≤ x.op := by omega
       have : x.op ≤ 6 := by omega
       have : x.atom.args.length = 0 := by omega
       simp [*]
    ·exact .inr (.inl ⟨g2, by omega⟩)
   ·exact .inl (fun h => g1 (h2.1 h))
  clear hk3 hk12 HB HH HW Hrow hrb hc HE; rcases hc' with h | ⟨g0, h⟩ | ⟨g0, g1, h⟩ | ⟨g0, g1, g2, h⟩ <;>
  ·go_enter Tryz.func76, Tryz.ntmps76
   go_wp2_with fail
   go_ret; exact ⟨by rw [HE2.out]; rfl, belowA (Below.refl _ _) _⟩
 have hc' : x.atom.rel.toList = [] ∧ a.n = 0 ∧ 1 ≤ x.op ∧ x.op ≤ 6 := by
  have h1 := Hla.out; simp only [cmpB2, Bool.and_eq_true, decide_eq_true_eq] at hc; exact ⟨str_empty.2 hc.1.1, by omega, hc.2.1, hc.2.2⟩
 obtain ⟨g0, hg1, g2, g3⟩ := hc'; have g1 : (a.n : Int) = 0 := by omega
 obtain ⟨P1, HP1⟩ : ∃ E, Hid (E = rightE 20 x.l) := ⟨_, rfl⟩
 obtain ⟨P2, HP2⟩ : ∃ E, Hid (E = rightE 20 x.r) := ⟨_, rfl⟩
 have HE2 : Hid (B = (P1 && P2)) := by show _ = _; rw [HE.out, hc, HP1.out, HP2.out]; rfl
 have C1 : Hid (∀ W, Below (w.alloc (.cells #[.int .i64 x.k, .string x.atom.rel, a.v, .int .i64 x.op, .int .i64 x.l.op, .string x.l.t.x, .int .i64 x.l.t.v.k, .int .i64 x.l.t.v.n, .string x.l.t.v.s, p.v, .int .i64 x.r.op, .string x.r.t.x, .int .i64 x.r.t.v.k, .int .i64 x.r.t.v.n, .string x.r.t.v.s, q.v, .int .i64 x.pos] 80)).heap.size (w.alloc (.cells #[.int .i64 x.k, .string x.atom.rel, a.v, .int .i64 x.op, .int .i64 x.l.op, .string x.l.t.x, .int .i64 x.l.t.v.k, .int .i64 x.l.t.v.n, .string x.l.t.v.s, p.v, .int .i64 x.r.op, .string x.r.t.x, .int .i64 x.r.t.v.k, .int .i64 x.r.t.v.n, .string x.r.t.v.s, q.v, .int .i64 x.pos] 80)) W → Calls Tryz.prog 114 #[.agg #[.int .i64 x.l.op, .string x.l.t.x, .int .i64 x.l.t.v.k, .int .i64 x.l.t.v.n, .string x.l.t.v.s, p.v]] W (RetBool P1 W)) := fun W h => by rw [HP1.out]; exact rightExp_any x.l p.A p.n p.c d W (HH.out.lk.keep h) HH.out.lx (HW.out.on h)
 have C2 : Hid (∀ W, Below (w.alloc (.cells #[.int .i64 x.k, .string x.atom.rel, a.v, .int .i64 x.op, .int .i64 x.l.op, .string x.l.t.x, .int .i64 x.l.t.v.k, .int .i64 x.l.t.v.n, .string x.l.t.v.s, p.v, .int .i64 x.r.op, .string x.r.t.x, .int .i64 x.r.t.v.k, .int .i64 x.r.t.v.n, .string x.r.t.v.s, q.v, .int .i64 x.pos] 80)).heap.size (w.alloc (.cells #[.int .i64 x.k, .string x.atom.rel, a.v, .int .i64 x.op, .int .i64 x.l.op, .string x.l.t.x, .int .i64 x.l.t.v.k, .int .i64 x.l.t.v.n, .string x.l.t.v.s, p.v, .int .i64 x.r.op, .string x.r.t.x, .int .i64 x.r.t.v.k, .int .i64 x.r.t.v.n, .string x.r.t.v.s, q.v, .int .i64 x.pos] 80)) W → Calls Tryz.prog 114 #[.agg #[.int .i64 x.r.op, .string x.r.t.x, .int .i64 x.r.t.v.k, .int .i64 x.r.t.v.n, .string x.r.t.v.s, q.v]] W (RetBool P2 W)) := fun W h => by rw [HP2.out]; exact rightExp_any x.r q.A q.n q.c d W (HH.out.rk.keep h) HH.out.rx (HW.out.on h)
 clear hrb HB HP1 HP2 HH HW Hla hc HE hk3 hk12 hg1; generalize hwb : (w.alloc (.cells #[.int .i64 x.k, .string x.atom.rel, a.v, .int .i64 x.op, .int .i64 x.l.op, .string x.l.t.x, .int .i64 x.l.t.v.k, .int .i64 x.l.t.v.n, .string x.l.t.v.s, p.v, .int .i64 x.r.op, .string x.r.t.x, .int .i64 x.r.t.v.k, .int .i64 x.r.t.v.n, .string x.r.t.v.s, q.v, .int .i64 x.pos] 80)) = wb at *; have Hbw0 := hZ9 (Below.refl wb.heap.size wb); go_enter Tryz.func76, Tryz.ntmps76
 go_wp2_with fail
 try simp only [hwb]
 go_wp2_with fail
 refine (C1.out _ Hbw0.out).mono ?_; rintro e1 w1 ⟨rfl, hq1⟩; have Hbw1 := hZ9 (below_next Hbw0.out hq1); obtain ⟨f1_0, f1_1, f1_2, f1_3, f1_4, f1_5, f1_6, f1_7, f1_8, f1_9, f1_10, f1_11, f1_12, f1_13, f1_14, f1_15, f1_16⟩ := facts17 (Hrow.out _ Hbw1.out); clear hq1 f0_0 f0_1 f0_2 f0_3 f0_4 f0_5 f0_6 f0_7 f0_8 f0_9 f0_10 f0_11 f0_12 f0_13 f0_14 f0_15 f0_16; cases P1 with
 | false =>
   go_wp2_with fail
   go_ret; exact ⟨by rw [HE2.out]; rfl, below_next hba Hbw1.out⟩
 | true =>
   go_wp2_with fail
   refine (C2.out _ Hbw1.out).mono ?_; rintro e2 w2 ⟨rfl, hq2⟩; have Hbw2 := hZ9 (below_next Hbw1.out hq2); obtain ⟨f2_0, f2_1, f2_2, f2_3, f2_4, f2_5, f2_6, f2_7, f2_8, f2_9, f2_10, f2_11, f2_12, f2_13, f2_14, f2_15, f2_16⟩ := facts17 (Hrow.out _ Hbw2.out); clear hq2 f1_0 f1_1 f1_2 f1_3 f1_4 f1_5 f1_6 f1_7 f1_8 f1_9 f1_10 f1_11 f1_12 f1_13 f1_14 f1_15 f1_16; cases P2 <;>
   ·go_wp2_with fail
    go_ret; exact ⟨by rw [HE2.out]; rfl, below_next hba Hbw2.out⟩
end Go.Proofs.YtaeedepojpablaaGreatDoor
