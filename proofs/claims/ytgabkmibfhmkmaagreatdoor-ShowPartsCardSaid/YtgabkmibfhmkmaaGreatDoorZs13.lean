/- My own texts TLit, ShowL, ShowRL, as far as this claim needs them. -/
import Derived.Test.YtgabkmibfhmkmaaGreatDoorZs4
import Derived.Test.YtgabkmibfhmkmaaGreatDoorZs11
import Derived.Test.YtgabkmibfhmkmaaGreatDoorZs12
set_option linter.unusedVariables false
set_option linter.unusedSimpArgs false
namespace Go.Proofs.YtgabkmibfhmkmaaGreatDoor
open Go.RowKit
def atomB (x : GAtom) : Bool := singleB 2 x.rel && (decide (x.args.length ≤ 6) && x.args.all rightT)
set_option maxRecDepth 100000 in
set_option maxHeartbeats 1000000 in
theorem aright_any (x : GAtom) (a : Hd) (w : World) (hs : x.rel.size ≤ reachN) (hl : SliceIs Enc.told w w.heap.size a.A a.n a.c x.args) (hW : LexW w) : Calls Tryz.prog 143 #[.agg #[.string x.rel, a.v]] w (RetBool (atomB x) w) := by
  obtain ⟨B, HB⟩ : ∃ B, Hid (B = atomB x) := ⟨_, rfl⟩
  rw [← HB.out]
  have hrb : (w.alloc (.cells #[.string x.rel, a.v] 25)).heap[w.heap.size]? = some (.cells #[.string x.rel, a.v] 25 (0, 0)) := heapNew rfl
  have hba : Below w.heap.size w (w.alloc (.cells #[.string x.rel, a.v] 25)) := belowA (Below.refl _ _) _
  have hn := hl.bound
  have hlen := Lib.hid hl.1
  obtain ⟨N, HN⟩ : ∃ N, Hid (N = singleB 2 x.rel) := ⟨_, rfl⟩
  obtain ⟨E, HEe⟩ : ∃ E, Hid (E = x.args.all rightT) := ⟨_, rfl⟩
  have HE : Hid (B = (N && (decide (x.args.length ≤ 6) && E))) := by show _ = _; rw [HB.out, HN.out, HEe.out]; rfl
  have C1 : Hid (∀ W, Below (w.alloc (.cells #[.string x.rel, a.v] 25)).heap.size (w.alloc (.cells #[.string x.rel, a.v] 25)) W → Calls Tryz.prog 199 #[.string x.rel] W (RetBool N W)) := fun W h => by rw [HN.out]; exact named_any x.rel hs W ((hW.on hba).on h)
  have C2 : Hid (∀ W, Below (w.alloc (.cells #[.string x.rel, a.v] 25)).heap.size (w.alloc (.cells #[.string x.rel, a.v] 25)) W → Calls Tryz.prog 218 #[a.v, .func (.func 219) #[] #[]] W (RetBool E W)) := fun W h => by
    rw [HEe.out]
    exact everyT_any a.A a.n a.c x.args W ((hl.keep hba).keep h) (fun t W' ht h' => tright_any t ht.1 W' (((hW.on hba).on h).on h'))
  have Hrow : Hid (∀ W, Below (w.alloc (.cells #[.string x.rel, a.v] 25)).heap.size (w.alloc (.cells #[.string x.rel, a.v] 25)) W → W.heap[w.heap.size]? = some (.cells #[.string x.rel, a.v] 25 (0, 0))) := fun W h => (h.block _ (Array.getElem?_eq_some_iff.1 hrb).1).trans hrb
  obtain ⟨f0_0, f0_1⟩ := facts2 hrb
  clear hl hW hs hrb HB HN HEe
  by_cases h6 : a.n ≤ 6
  · have z6 : (a.n : Int) ≤ 6 := by omega
    have HE2 : Hid (B = (N && E)) := by show _ = _; rw [HE.out, decide_eq_true (by rw [hlen.out]; exact h6)]; rfl
    clear HE hlen h6
    generalize hwb : (w.alloc (.cells #[.string x.rel, a.v] 25)) = wb at *
    have Hbw0 := Lib.hid (Below.refl wb.heap.size wb)
    go_enter Tryz.func143, Tryz.ntmps143
    go_wp2_with fail
    try simp only [hwb]
    go_wp2_with fail
    refine (C1.out _ Hbw0.out).mono ?_
    rintro e1 w1 ⟨rfl, hq1⟩
    have Hbw1 := Lib.hid (below_next Hbw0.out hq1)
    obtain ⟨f1_0, f1_1⟩ := facts2 (Hrow.out _ Hbw1.out)
    clear hq1 f0_0 f0_1
    cases N with
    | false =>
      go_wp2_with fail
      go_ret
      exact ⟨by rw [HE2.out]; rfl, below_next hba Hbw1.out⟩
    | true =>
      go_wp2_with fail
      refine (C2.out _ Hbw1.out).mono ?_
      rintro e2 w2 ⟨rfl, hq2⟩
      have Hbw2 := Lib.hid (below_next Hbw1.out hq2)
      obtain ⟨f2_0, f2_1⟩ := facts2 (Hrow.out _ Hbw2.out)
      clear hq2 f1_0 f1_1
      cases E <;>
      · go_wp2_with fail
        go_ret
        exact ⟨by rw [HE2.out]; rfl, below_next hba Hbw2.out⟩
  · have z6 : ¬ (a.n : Int) ≤ 6 := by omega
    have HE2 : Hid (B = false) := by show _ = _; rw [HE.out, decide_eq_false (by rw [hlen.out]; exact h6)]; simp
    clear HE hlen h6 C2
    generalize hwb : (w.alloc (.cells #[.string x.rel, a.v] 25)) = wb at *
    have Hbw0 := Lib.hid (Below.refl wb.heap.size wb)
    go_enter Tryz.func143, Tryz.ntmps143
    go_wp2_with fail
    try simp only [hwb]
    go_wp2_with fail
    refine (C1.out _ Hbw0.out).mono ?_
    rintro e1 w1 ⟨rfl, hq1⟩
    have Hbw1 := Lib.hid (below_next Hbw0.out hq1)
    obtain ⟨f1_0, f1_1⟩ := facts2 (Hrow.out _ Hbw1.out)
    clear hq1 f0_0 f0_1
    cases N <;>
    · go_wp2_with fail
      go_ret
      exact ⟨by rw [HE2.out]; rfl, below_next hba Hbw1.out⟩
def cmpB2 (x : GLit) : Bool := (decide (x.atom.rel.size = 0) && decide (x.atom.args.length = 0)) && (decide (1 ≤ x.op) && decide (x.op ≤ 6))
def rightLit (x : GLit) : Bool := if x.k = 1 ∨ x.k = 2 then atomB x.atom && (decide (x.op = 0) && (noneE x.l && noneE x.r)) else
  decide (x.k = 3) && (cmpB2 x && (rightE 20 x.l && rightE 20 x.r))
set_option maxRecDepth 100000 in
set_option maxHeartbeats 4000000 in
theorem rightLit_any (d : Nat) (x : GLit) (a p q : Hd) (w : World) (h : LitAt d w w.heap.size x a p q) (hW : LexW w) : Calls Tryz.prog 111 #[.agg #[.int .i64 x.k, .string x.atom.rel, a.v, .int .i64 x.op, .int .i64 x.l.op, .string x.l.t.x, .int .i64 x.l.t.v.k, .int .i64 x.l.t.v.n, .string x.l.t.v.s, p.v, .int .i64 x.r.op, .string x.r.t.x, .int .i64 x.r.t.v.k, .int .i64 x.r.t.v.n, .string x.r.t.v.s, q.v, .int .i64 x.pos]] w (RetBool (rightLit x) w) := by
  obtain ⟨B, HB⟩ : ∃ B, Hid (B = rightLit x) := ⟨_, rfl⟩
  rw [← HB.out]
  have hrb : (w.alloc (.cells #[.int .i64 x.k, .string x.atom.rel, a.v, .int .i64 x.op, .int .i64 x.l.op, .string x.l.t.x, .int .i64 x.l.t.v.k, .int .i64 x.l.t.v.n, .string x.l.t.v.s, p.v, .int .i64 x.r.op, .string x.r.t.x, .int .i64 x.r.t.v.k, .int .i64 x.r.t.v.n, .string x.r.t.v.s, q.v, .int .i64 x.pos] 35)).heap[w.heap.size]? = some (.cells #[.int .i64 x.k, .string x.atom.rel, a.v, .int .i64 x.op, .int .i64 x.l.op, .string x.l.t.x, .int .i64 x.l.t.v.k, .int .i64 x.l.t.v.n, .string x.l.t.v.s, p.v, .int .i64 x.r.op, .string x.r.t.x, .int .i64 x.r.t.v.k, .int .i64 x.r.t.v.n, .string x.r.t.v.s, q.v, .int .i64 x.pos] 35 (0, 0)) := heapNew rfl
  have hba : Below w.heap.size w (w.alloc (.cells #[.int .i64 x.k, .string x.atom.rel, a.v, .int .i64 x.op, .int .i64 x.l.op, .string x.l.t.x, .int .i64 x.l.t.v.k, .int .i64 x.l.t.v.n, .string x.l.t.v.s, p.v, .int .i64 x.r.op, .string x.r.t.x, .int .i64 x.r.t.v.k, .int .i64 x.r.t.v.n, .string x.r.t.v.s, q.v, .int .i64 x.pos] 35)) := belowA (Below.refl _ _) _
  have hna := h.args.bound
  have Hla := Lib.hid h.args.1
  have HH := Lib.hid (h.keep hba)
  have HW := Lib.hid (hW.on hba)
  clear h hW
  have Hrow : Hid (∀ W, Below (w.alloc (.cells #[.int .i64 x.k, .string x.atom.rel, a.v, .int .i64 x.op, .int .i64 x.l.op, .string x.l.t.x, .int .i64 x.l.t.v.k, .int .i64 x.l.t.v.n, .string x.l.t.v.s, p.v, .int .i64 x.r.op, .string x.r.t.x, .int .i64 x.r.t.v.k, .int .i64 x.r.t.v.n, .string x.r.t.v.s, q.v, .int .i64 x.pos] 35)).heap.size (w.alloc (.cells #[.int .i64 x.k, .string x.atom.rel, a.v, .int .i64 x.op, .int .i64 x.l.op, .string x.l.t.x, .int .i64 x.l.t.v.k, .int .i64 x.l.t.v.n, .string x.l.t.v.s, p.v, .int .i64 x.r.op, .string x.r.t.x, .int .i64 x.r.t.v.k, .int .i64 x.r.t.v.n, .string x.r.t.v.s, q.v, .int .i64 x.pos] 35)) W → W.heap[w.heap.size]? = some (.cells #[.int .i64 x.k, .string x.atom.rel, a.v, .int .i64 x.op, .int .i64 x.l.op, .string x.l.t.x, .int .i64 x.l.t.v.k, .int .i64 x.l.t.v.n, .string x.l.t.v.s, p.v, .int .i64 x.r.op, .string x.r.t.x, .int .i64 x.r.t.v.k, .int .i64 x.r.t.v.n, .string x.r.t.v.s, q.v, .int .i64 x.pos] 35 (0, 0))) := fun W h => (h.block _ (Array.getElem?_eq_some_iff.1 hrb).1).trans hrb
  obtain ⟨f0_0, f0_1, f0_2, f0_3, f0_4, f0_5, f0_6, f0_7, f0_8, f0_9, f0_10, f0_11, f0_12, f0_13, f0_14, f0_15, f0_16⟩ := facts17 hrb
  by_cases hk12 : x.k = 1 ∨ x.k = 2
  · obtain ⟨P1, HP1⟩ : ∃ E, Hid (E = atomB x.atom) := ⟨_, rfl⟩
    obtain ⟨P2, HP2⟩ : ∃ E, Hid (E = noneE x.l) := ⟨_, rfl⟩
    obtain ⟨P3, HP3⟩ : ∃ E, Hid (E = noneE x.r) := ⟨_, rfl⟩
    have HE : Hid (B = (P1 && (decide (x.op = 0) && (P2 && P3)))) := by show _ = _; rw [HB.out, HP1.out, HP2.out, HP3.out]; unfold rightLit; rw [if_pos hk12]
    have C1 : Hid (∀ W, Below (w.alloc (.cells #[.int .i64 x.k, .string x.atom.rel, a.v, .int .i64 x.op, .int .i64 x.l.op, .string x.l.t.x, .int .i64 x.l.t.v.k, .int .i64 x.l.t.v.n, .string x.l.t.v.s, p.v, .int .i64 x.r.op, .string x.r.t.x, .int .i64 x.r.t.v.k, .int .i64 x.r.t.v.n, .string x.r.t.v.s, q.v, .int .i64 x.pos] 35)).heap.size (w.alloc (.cells #[.int .i64 x.k, .string x.atom.rel, a.v, .int .i64 x.op, .int .i64 x.l.op, .string x.l.t.x, .int .i64 x.l.t.v.k, .int .i64 x.l.t.v.n, .string x.l.t.v.s, p.v, .int .i64 x.r.op, .string x.r.t.x, .int .i64 x.r.t.v.k, .int .i64 x.r.t.v.n, .string x.r.t.v.s, q.v, .int .i64 x.pos] 35)) W → Calls Tryz.prog 143 #[.agg #[.string x.atom.rel, a.v]] W (RetBool P1 W)) := fun W h => by rw [HP1.out]; exact aright_any x.atom a W HH.out.rel (HH.out.args.keep h) (HW.out.on h)
    have C2 : Hid (∀ W, Below (w.alloc (.cells #[.int .i64 x.k, .string x.atom.rel, a.v, .int .i64 x.op, .int .i64 x.l.op, .string x.l.t.x, .int .i64 x.l.t.v.k, .int .i64 x.l.t.v.n, .string x.l.t.v.s, p.v, .int .i64 x.r.op, .string x.r.t.x, .int .i64 x.r.t.v.k, .int .i64 x.r.t.v.n, .string x.r.t.v.s, q.v, .int .i64 x.pos] 35)).heap.size (w.alloc (.cells #[.int .i64 x.k, .string x.atom.rel, a.v, .int .i64 x.op, .int .i64 x.l.op, .string x.l.t.x, .int .i64 x.l.t.v.k, .int .i64 x.l.t.v.n, .string x.l.t.v.s, p.v, .int .i64 x.r.op, .string x.r.t.x, .int .i64 x.r.t.v.k, .int .i64 x.r.t.v.n, .string x.r.t.v.s, q.v, .int .i64 x.pos] 35)) W → Calls Tryz.prog 188 #[.agg #[.int .i64 x.l.op, .string x.l.t.x, .int .i64 x.l.t.v.k, .int .i64 x.l.t.v.n, .string x.l.t.v.s, p.v]] W (RetBool P2 W)) := fun W h => by rw [HP2.out]; exact none_any x.l p.A p.n p.c W HH.out.lk.1 HH.out.lk.2.2.2.1
    have C3 : Hid (∀ W, Below (w.alloc (.cells #[.int .i64 x.k, .string x.atom.rel, a.v, .int .i64 x.op, .int .i64 x.l.op, .string x.l.t.x, .int .i64 x.l.t.v.k, .int .i64 x.l.t.v.n, .string x.l.t.v.s, p.v, .int .i64 x.r.op, .string x.r.t.x, .int .i64 x.r.t.v.k, .int .i64 x.r.t.v.n, .string x.r.t.v.s, q.v, .int .i64 x.pos] 35)).heap.size (w.alloc (.cells #[.int .i64 x.k, .string x.atom.rel, a.v, .int .i64 x.op, .int .i64 x.l.op, .string x.l.t.x, .int .i64 x.l.t.v.k, .int .i64 x.l.t.v.n, .string x.l.t.v.s, p.v, .int .i64 x.r.op, .string x.r.t.x, .int .i64 x.r.t.v.k, .int .i64 x.r.t.v.n, .string x.r.t.v.s, q.v, .int .i64 x.pos] 35)) W → Calls Tryz.prog 188 #[.agg #[.int .i64 x.r.op, .string x.r.t.x, .int .i64 x.r.t.v.k, .int .i64 x.r.t.v.n, .string x.r.t.v.s, q.v]] W (RetBool P3 W)) := fun W h => by rw [HP3.out]; exact none_any x.r q.A q.n q.c W HH.out.rk.1 HH.out.rk.2.2.2.1
    clear hrb HB HP1 HP2 HP3 HH HW Hla
    generalize hwb : (w.alloc (.cells #[.int .i64 x.k, .string x.atom.rel, a.v, .int .i64 x.op, .int .i64 x.l.op, .string x.l.t.x, .int .i64 x.l.t.v.k, .int .i64 x.l.t.v.n, .string x.l.t.v.s, p.v, .int .i64 x.r.op, .string x.r.t.x, .int .i64 x.r.t.v.k, .int .i64 x.r.t.v.n, .string x.r.t.v.s, q.v, .int .i64 x.pos] 35)) = wb at *
    have Hbw0 := Lib.hid (Below.refl wb.heap.size wb)
    by_cases ho : x.op = 0
    · have o0 : (x.op == 0) = true := by simp [ho]
      have HE2 : Hid (B = (P1 && (P2 && P3))) := by show _ = _; rw [HE.out, decide_eq_true ho]; rfl
      clear HE ho
      rcases hk12 with hk | hk
      · have k1 : (x.k == 1) = true := by simp [hk]
        clear hk
        go_enter Tryz.func111, Tryz.ntmps111
        go_wp2_with fail
        try simp only [hwb]
        go_wp2_with fail
        refine (C1.out _ Hbw0.out).mono ?_
        rintro e1 w1 ⟨rfl, hq1⟩
        have Hbw1 := Lib.hid (below_next Hbw0.out hq1)
        obtain ⟨f1_0, f1_1, f1_2, f1_3, f1_4, f1_5, f1_6, f1_7, f1_8, f1_9, f1_10, f1_11, f1_12, f1_13, f1_14, f1_15, f1_16⟩ := facts17 (Hrow.out _ Hbw1.out)
        clear hq1 f0_0 f0_1 f0_2 f0_3 f0_4 f0_5 f0_6 f0_7 f0_8 f0_9 f0_10 f0_11 f0_12 f0_13 f0_14 f0_15 f0_16
        cases P1 with
        | false =>
          go_wp2_with fail
          go_ret
          exact ⟨by rw [HE2.out]; rfl, below_next hba Hbw1.out⟩
        | true =>
          go_wp2_with fail
          refine (C2.out _ Hbw1.out).mono ?_
          rintro e2 w2 ⟨rfl, hq2⟩
          have Hbw2 := Lib.hid (below_next Hbw1.out hq2)
          obtain ⟨f2_0, f2_1, f2_2, f2_3, f2_4, f2_5, f2_6, f2_7, f2_8, f2_9, f2_10, f2_11, f2_12, f2_13, f2_14, f2_15, f2_16⟩ := facts17 (Hrow.out _ Hbw2.out)
          clear hq2 f1_0 f1_1 f1_2 f1_3 f1_4 f1_5 f1_6 f1_7 f1_8 f1_9 f1_10 f1_11 f1_12 f1_13 f1_14 f1_15 f1_16
          cases P2 with
          | false =>
            go_wp2_with fail
            go_ret
            exact ⟨by rw [HE2.out]; rfl, below_next hba Hbw2.out⟩
          | true =>
            go_wp2_with fail
            refine (C3.out _ Hbw2.out).mono ?_
            rintro e3 w3 ⟨rfl, hq3⟩
            have Hbw3 := Lib.hid (below_next Hbw2.out hq3)
            obtain ⟨f3_0, f3_1, f3_2, f3_3, f3_4, f3_5, f3_6, f3_7, f3_8, f3_9, f3_10, f3_11, f3_12, f3_13, f3_14, f3_15, f3_16⟩ := facts17 (Hrow.out _ Hbw3.out)
            clear hq3 f2_0 f2_1 f2_2 f2_3 f2_4 f2_5 f2_6 f2_7 f2_8 f2_9 f2_10 f2_11 f2_12 f2_13 f2_14 f2_15 f2_16
            cases P3 <;>
            · go_wp2_with fail
              go_ret
              exact ⟨by rw [HE2.out]; rfl, below_next hba Hbw3.out⟩
      · have k1 : (x.k == 1) = false := by simp [hk]
        have k2 : (x.k == 2) = true := by simp [hk]
        clear hk
        go_enter Tryz.func111, Tryz.ntmps111
        go_wp2_with fail
        try simp only [hwb]
        go_wp2_with fail
        refine (C1.out _ Hbw0.out).mono ?_
        rintro e1 w1 ⟨rfl, hq1⟩
        have Hbw1 := Lib.hid (below_next Hbw0.out hq1)
        obtain ⟨f1_0, f1_1, f1_2, f1_3, f1_4, f1_5, f1_6, f1_7, f1_8, f1_9, f1_10, f1_11, f1_12, f1_13, f1_14, f1_15, f1_16⟩ := facts17 (Hrow.out _ Hbw1.out)
        clear hq1 f0_0 f0_1 f0_2 f0_3 f0_4 f0_5 f0_6 f0_7 f0_8 f0_9 f0_10 f0_11 f0_12 f0_13 f0_14 f0_15 f0_16
        cases P1 with
        | false =>
          go_wp2_with fail
          go_ret
          exact ⟨by rw [HE2.out]; rfl, below_next hba Hbw1.out⟩
        | true =>
          go_wp2_with fail
          refine (C2.out _ Hbw1.out).mono ?_
          rintro e2 w2 ⟨rfl, hq2⟩
          have Hbw2 := Lib.hid (below_next Hbw1.out hq2)
          obtain ⟨f2_0, f2_1, f2_2, f2_3, f2_4, f2_5, f2_6, f2_7, f2_8, f2_9, f2_10, f2_11, f2_12, f2_13, f2_14, f2_15, f2_16⟩ := facts17 (Hrow.out _ Hbw2.out)
          clear hq2 f1_0 f1_1 f1_2 f1_3 f1_4 f1_5 f1_6 f1_7 f1_8 f1_9 f1_10 f1_11 f1_12 f1_13 f1_14 f1_15 f1_16
          cases P2 with
          | false =>
            go_wp2_with fail
            go_ret
            exact ⟨by rw [HE2.out]; rfl, below_next hba Hbw2.out⟩
          | true =>
            go_wp2_with fail
            refine (C3.out _ Hbw2.out).mono ?_
            rintro e3 w3 ⟨rfl, hq3⟩
            have Hbw3 := Lib.hid (below_next Hbw2.out hq3)
            obtain ⟨f3_0, f3_1, f3_2, f3_3, f3_4, f3_5, f3_6, f3_7, f3_8, f3_9, f3_10, f3_11, f3_12, f3_13, f3_14, f3_15, f3_16⟩ := facts17 (Hrow.out _ Hbw3.out)
            clear hq3 f2_0 f2_1 f2_2 f2_3 f2_4 f2_5 f2_6 f2_7 f2_8 f2_9 f2_10 f2_11 f2_12 f2_13 f2_14 f2_15 f2_16
            cases P3 <;>
            · go_wp2_with fail
              go_ret
              exact ⟨by rw [HE2.out]; rfl, below_next hba Hbw3.out⟩
    · have o0 : (x.op == 0) = false := by simp [ho]
      have HE2 : Hid (B = false) := by show _ = _; rw [HE.out, decide_eq_false ho]; simp
      clear HE ho C2 C3
      rcases hk12 with hk | hk
      · have k1 : (x.k == 1) = true := by simp [hk]
        clear hk
        go_enter Tryz.func111, Tryz.ntmps111
        go_wp2_with fail
        try simp only [hwb]
        go_wp2_with fail
        refine (C1.out _ Hbw0.out).mono ?_
        rintro e1 w1 ⟨rfl, hq1⟩
        have Hbw1 := Lib.hid (below_next Hbw0.out hq1)
        obtain ⟨f1_0, f1_1, f1_2, f1_3, f1_4, f1_5, f1_6, f1_7, f1_8, f1_9, f1_10, f1_11, f1_12, f1_13, f1_14, f1_15, f1_16⟩ := facts17 (Hrow.out _ Hbw1.out)
        clear hq1 f0_0 f0_1 f0_2 f0_3 f0_4 f0_5 f0_6 f0_7 f0_8 f0_9 f0_10 f0_11 f0_12 f0_13 f0_14 f0_15 f0_16
        cases P1 <;>
        · go_wp2_with fail
          go_ret
          exact ⟨by rw [HE2.out]; rfl, below_next hba Hbw1.out⟩
      · have k1 : (x.k == 1) = false := by simp [hk]
        have k2 : (x.k == 2) = true := by simp [hk]
        clear hk
        go_enter Tryz.func111, Tryz.ntmps111
        go_wp2_with fail
        try simp only [hwb]
        go_wp2_with fail
        refine (C1.out _ Hbw0.out).mono ?_
        rintro e1 w1 ⟨rfl, hq1⟩
        have Hbw1 := Lib.hid (below_next Hbw0.out hq1)
        obtain ⟨f1_0, f1_1, f1_2, f1_3, f1_4, f1_5, f1_6, f1_7, f1_8, f1_9, f1_10, f1_11, f1_12, f1_13, f1_14, f1_15, f1_16⟩ := facts17 (Hrow.out _ Hbw1.out)
        clear hq1 f0_0 f0_1 f0_2 f0_3 f0_4 f0_5 f0_6 f0_7 f0_8 f0_9 f0_10 f0_11 f0_12 f0_13 f0_14 f0_15 f0_16
        cases P1 <;>
        · go_wp2_with fail
          go_ret
          exact ⟨by rw [HE2.out]; rfl, below_next hba Hbw1.out⟩
  have k1 : (x.k == 1) = false := by simp; omega
  have k2 : (x.k == 2) = false := by simp; omega
  by_cases hk3 : x.k = 3
  rotate_left
  · have k3 : (x.k == 3) = false := by simp [hk3]
    have HE2 : Hid (B = false) := by show _ = _; rw [HB.out]; simp [rightLit, hk12, hk3]
    clear hk3 hk12 HB HH HW Hrow hrb Hla
    go_enter Tryz.func111, Tryz.ntmps111
    go_wp2_with fail
    go_ret
    exact ⟨by rw [HE2.out]; rfl, belowA (Below.refl _ _) _⟩
  have k3 : (x.k == 3) = true := by simp [hk3]
  have HE : Hid (B = (cmpB2 x && (rightE 20 x.l && rightE 20 x.r))) := by show _ = _; rw [HB.out]; simp [rightLit, hk3]
  by_cases hc : cmpB2 x = true
  rotate_left
  · have HE2 : Hid (B = false) := by show _ = _; rw [HE.out]; simp [hc]
    have hc' : (¬ x.atom.rel.toList = []) ∨ (x.atom.rel.toList = [] ∧ ¬ (a.n : Int) = 0) ∨ (x.atom.rel.toList = [] ∧ (a.n : Int) = 0 ∧ x.op < 1) ∨ (x.atom.rel.toList = [] ∧ (a.n : Int) = 0 ∧ ¬ x.op < 1 ∧ 6 < x.op) := by
      have h1 := Hla.out
      have h2 := @str_empty x.atom.rel
      unfold cmpB2 at hc
      by_cases g1 : x.atom.rel.size = 0
      · have g2 := h2.2 g1
        by_cases g3 : a.n = 0
        · by_cases g4 : x.op < 1
          · exact .inr (.inr (.inl ⟨g2, by omega, g4⟩))
          · by_cases g5 : 6 < x.op
            · exact .inr (.inr (.inr ⟨g2, by omega, g4, g5⟩))
            · exfalso
              apply hc
              have : 1 ≤ x.op := by omega
              have : x.op ≤ 6 := by omega
              have : x.atom.args.length = 0 := by omega
              simp [*]
        · exact .inr (.inl ⟨g2, by omega⟩)
      · exact .inl (fun h => g1 (h2.1 h))
    clear hk3 hk12 HB HH HW Hrow hrb hc HE
    rcases hc' with h | ⟨g0, h⟩ | ⟨g0, g1, h⟩ | ⟨g0, g1, g2, h⟩ <;>
    · go_enter Tryz.func111, Tryz.ntmps111
      go_wp2_with fail
      go_ret
      exact ⟨by rw [HE2.out]; rfl, belowA (Below.refl _ _) _⟩
  have hc' : x.atom.rel.toList = [] ∧ a.n = 0 ∧ 1 ≤ x.op ∧ x.op ≤ 6 := by
    have h1 := Hla.out
    simp only [cmpB2, Bool.and_eq_true, decide_eq_true_eq] at hc
    exact ⟨str_empty.2 hc.1.1, by omega, hc.2.1, hc.2.2⟩
  obtain ⟨g0, hg1, g2, g3⟩ := hc'
  have g1 : (a.n : Int) = 0 := by omega
  obtain ⟨P1, HP1⟩ : ∃ E, Hid (E = rightE 20 x.l) := ⟨_, rfl⟩
  obtain ⟨P2, HP2⟩ : ∃ E, Hid (E = rightE 20 x.r) := ⟨_, rfl⟩
  have HE2 : Hid (B = (P1 && P2)) := by show _ = _; rw [HE.out, hc, HP1.out, HP2.out]; rfl
  have C1 : Hid (∀ W, Below (w.alloc (.cells #[.int .i64 x.k, .string x.atom.rel, a.v, .int .i64 x.op, .int .i64 x.l.op, .string x.l.t.x, .int .i64 x.l.t.v.k, .int .i64 x.l.t.v.n, .string x.l.t.v.s, p.v, .int .i64 x.r.op, .string x.r.t.x, .int .i64 x.r.t.v.k, .int .i64 x.r.t.v.n, .string x.r.t.v.s, q.v, .int .i64 x.pos] 35)).heap.size (w.alloc (.cells #[.int .i64 x.k, .string x.atom.rel, a.v, .int .i64 x.op, .int .i64 x.l.op, .string x.l.t.x, .int .i64 x.l.t.v.k, .int .i64 x.l.t.v.n, .string x.l.t.v.s, p.v, .int .i64 x.r.op, .string x.r.t.x, .int .i64 x.r.t.v.k, .int .i64 x.r.t.v.n, .string x.r.t.v.s, q.v, .int .i64 x.pos] 35)) W → Calls Tryz.prog 114 #[.agg #[.int .i64 x.l.op, .string x.l.t.x, .int .i64 x.l.t.v.k, .int .i64 x.l.t.v.n, .string x.l.t.v.s, p.v]] W (RetBool P1 W)) := fun W h => by rw [HP1.out]; exact rightExp_any x.l p.A p.n p.c d W (HH.out.lk.keep h) HH.out.lx (HW.out.on h)
  have C2 : Hid (∀ W, Below (w.alloc (.cells #[.int .i64 x.k, .string x.atom.rel, a.v, .int .i64 x.op, .int .i64 x.l.op, .string x.l.t.x, .int .i64 x.l.t.v.k, .int .i64 x.l.t.v.n, .string x.l.t.v.s, p.v, .int .i64 x.r.op, .string x.r.t.x, .int .i64 x.r.t.v.k, .int .i64 x.r.t.v.n, .string x.r.t.v.s, q.v, .int .i64 x.pos] 35)).heap.size (w.alloc (.cells #[.int .i64 x.k, .string x.atom.rel, a.v, .int .i64 x.op, .int .i64 x.l.op, .string x.l.t.x, .int .i64 x.l.t.v.k, .int .i64 x.l.t.v.n, .string x.l.t.v.s, p.v, .int .i64 x.r.op, .string x.r.t.x, .int .i64 x.r.t.v.k, .int .i64 x.r.t.v.n, .string x.r.t.v.s, q.v, .int .i64 x.pos] 35)) W → Calls Tryz.prog 114 #[.agg #[.int .i64 x.r.op, .string x.r.t.x, .int .i64 x.r.t.v.k, .int .i64 x.r.t.v.n, .string x.r.t.v.s, q.v]] W (RetBool P2 W)) := fun W h => by rw [HP2.out]; exact rightExp_any x.r q.A q.n q.c d W (HH.out.rk.keep h) HH.out.rx (HW.out.on h)
  clear hrb HB HP1 HP2 HH HW Hla hc HE hk3 hk12 hg1
  generalize hwb : (w.alloc (.cells #[.int .i64 x.k, .string x.atom.rel, a.v, .int .i64 x.op, .int .i64 x.l.op, .string x.l.t.x, .int .i64 x.l.t.v.k, .int .i64 x.l.t.v.n, .string x.l.t.v.s, p.v, .int .i64 x.r.op, .string x.r.t.x, .int .i64 x.r.t.v.k, .int .i64 x.r.t.v.n, .string x.r.t.v.s, q.v, .int .i64 x.pos] 35)) = wb at *
  have Hbw0 := Lib.hid (Below.refl wb.heap.size wb)
  go_enter Tryz.func111, Tryz.ntmps111
  go_wp2_with fail
  try simp only [hwb]
  go_wp2_with fail
  refine (C1.out _ Hbw0.out).mono ?_
  rintro e1 w1 ⟨rfl, hq1⟩
  have Hbw1 := Lib.hid (below_next Hbw0.out hq1)
  obtain ⟨f1_0, f1_1, f1_2, f1_3, f1_4, f1_5, f1_6, f1_7, f1_8, f1_9, f1_10, f1_11, f1_12, f1_13, f1_14, f1_15, f1_16⟩ := facts17 (Hrow.out _ Hbw1.out)
  clear hq1 f0_0 f0_1 f0_2 f0_3 f0_4 f0_5 f0_6 f0_7 f0_8 f0_9 f0_10 f0_11 f0_12 f0_13 f0_14 f0_15 f0_16
  cases P1 with
  | false =>
    go_wp2_with fail
    go_ret
    exact ⟨by rw [HE2.out]; rfl, below_next hba Hbw1.out⟩
  | true =>
    go_wp2_with fail
    refine (C2.out _ Hbw1.out).mono ?_
    rintro e2 w2 ⟨rfl, hq2⟩
    have Hbw2 := Lib.hid (below_next Hbw1.out hq2)
    obtain ⟨f2_0, f2_1, f2_2, f2_3, f2_4, f2_5, f2_6, f2_7, f2_8, f2_9, f2_10, f2_11, f2_12, f2_13, f2_14, f2_15, f2_16⟩ := facts17 (Hrow.out _ Hbw2.out)
    clear hq2 f1_0 f1_1 f1_2 f1_3 f1_4 f1_5 f1_6 f1_7 f1_8 f1_9 f1_10 f1_11 f1_12 f1_13 f1_14 f1_15 f1_16
    cases P2 <;>
    · go_wp2_with fail
      go_ret
      exact ⟨by rw [HE2.out]; rfl, below_next hba Hbw2.out⟩
end Go.Proofs.YtgabkmibfhmkmaaGreatDoor

namespace Go.Proofs.YtgabkmibfhmkmaaGreatDoor
open Go.RowKit
theorem things0_any (A : Option Addr) (n c : Nat) (l : List GTold) (w : World) (ht : SliceIs Enc.told w w.heap.size A n c l) (hW : ShowW w) (hn : n ≤ 100000) (hlen : (thingsS 0 0 l).length ≤ 1000000000000) :
    Calls Tryz.prog 186 #[.slice A n c, .int .i64 0, .int .i64 0] w (RetV (.string (bytes (thingsS 0 0 l))) w) := things_any 0 0 A n c l w ht hW (by omega) hn hlen
theorem sgnL_at {g : Nat} (h1 : 1 ≤ g) (h6 : g ≤ 6) : sgnsL[g]? = some (sgnS (g : Int)) := by
  have : g = 1 ∨ g = 2 ∨ g = 3 ∨ g = 4 ∨ g = 5 ∨ g = 6 := by omega
  rcases this with rfl | rfl | rfl | rfl | rfl | rfl <;> rfl
theorem rightLit_cases {x : GLit} (h : rightLit x = true) : (x.k = 1 ∧ x.atom.args.length ≤ 6) ∨ (x.k = 2 ∧ x.atom.args.length ≤ 6) ∨ (x.k = 3 ∧ 1 ≤ x.op ∧ x.op ≤ 6 ∧ rightE 20 x.l = true ∧ rightE 20 x.r = true) := by
  unfold rightLit at h
  split at h
  · rename_i hk
    simp only [Bool.and_eq_true] at h
    have h1 := h.1
    unfold atomB at h1
    simp only [Bool.and_eq_true, decide_eq_true_eq] at h1
    rcases hk with hk | hk
    · exact .inl ⟨hk, h1.2.1⟩
    · exact .inr (.inl ⟨hk, h1.2.1⟩)
  · simp only [Bool.and_eq_true, decide_eq_true_eq] at h
    obtain ⟨h1, h2, h3, h4⟩ := h
    unfold cmpB2 at h2
    simp only [Bool.and_eq_true, decide_eq_true_eq] at h2
    exact .inr (.inr ⟨h1, by omega, by omega, h3, h4⟩)
set_option maxRecDepth 100000 in
set_option maxHeartbeats 8000000 in
theorem literal_any (d : Nat) (x : GLit) (A : Option Addr) (an ac : Nat) (P : Option Addr) (pn pc : Nat) (Q : Option Addr) (qn qc : Nat) (w : World) (h : LitAt d w w.heap.size x ⟨A, an, ac⟩ ⟨P, pn, pc⟩ ⟨Q, qn, qc⟩) (hr : rightLit x = true) (hW : ShowW w) (hlen : (litS x).length ≤ 1000000000000) :
    Calls Tryz.prog 112 #[.agg #[.int .i64 x.k, .string x.atom.rel, .slice A an ac, .int .i64 x.op, .int .i64 x.l.op, .string x.l.t.x, .int .i64 x.l.t.v.k, .int .i64 x.l.t.v.n, .string x.l.t.v.s, .slice P pn pc, .int .i64 x.r.op, .string x.r.t.x, .int .i64 x.r.t.v.k, .int .i64 x.r.t.v.n, .string x.r.t.v.s, .slice Q qn qc, .int .i64 x.pos]] w (RetV (.string (bytes (litS x))) w) := by
  have mixed : Tryz.prog.follows .mixedOrders = true := by kernel_rfl
  obtain ⟨S, HS⟩ : ∃ S, Hid (S = litS x) := ⟨_, rfl⟩
  rw [← HS.out] at hlen ⊢
  have hrb : (w.alloc (.cells #[.int .i64 x.k, .string x.atom.rel, .slice A an ac, .int .i64 x.op, .int .i64 x.l.op, .string x.l.t.x, .int .i64 x.l.t.v.k, .int .i64 x.l.t.v.n, .string x.l.t.v.s, .slice P pn pc, .int .i64 x.r.op, .string x.r.t.x, .int .i64 x.r.t.v.k, .int .i64 x.r.t.v.n, .string x.r.t.v.s, .slice Q qn qc, .int .i64 x.pos] 35)).heap[w.heap.size]? = some (.cells #[.int .i64 x.k, .string x.atom.rel, .slice A an ac, .int .i64 x.op, .int .i64 x.l.op, .string x.l.t.x, .int .i64 x.l.t.v.k, .int .i64 x.l.t.v.n, .string x.l.t.v.s, .slice P pn pc, .int .i64 x.r.op, .string x.r.t.x, .int .i64 x.r.t.v.k, .int .i64 x.r.t.v.n, .string x.r.t.v.s, .slice Q qn qc, .int .i64 x.pos] 35 (0, 0)) := heapNew rfl
  have hba : Below w.heap.size w (w.alloc (.cells #[.int .i64 x.k, .string x.atom.rel, .slice A an ac, .int .i64 x.op, .int .i64 x.l.op, .string x.l.t.x, .int .i64 x.l.t.v.k, .int .i64 x.l.t.v.n, .string x.l.t.v.s, .slice P pn pc, .int .i64 x.r.op, .string x.r.t.x, .int .i64 x.r.t.v.k, .int .i64 x.r.t.v.n, .string x.r.t.v.s, .slice Q qn qc, .int .i64 x.pos] 35)) := belowA (Below.refl _ _) _
  have HH := Lib.hid (h.keep hba)
  have HW := Lib.hid (hW.on hba)
  have Hba := Lib.hid hba
  have Hla := Lib.hid h.args.1
  have Hrb := Lib.hid hrb
  obtain ⟨f0, f1, f2, f3, f4, f5, f6, f7, f8, f9, f10, f11, f12, f13, f14, f15, f16⟩ := facts17 hrb
  have hcs := rightLit_cases hr
  clear h hW hr hrb hba
  obtain ⟨kk, hkk⟩ : ∃ kk, x.k = kk := ⟨_, rfl⟩
  rw [hkk] at hcs
  have HK := Lib.hid hkk
  generalize hwb : (w.alloc (.cells #[.int .i64 x.k, .string x.atom.rel, .slice A an ac, .int .i64 x.op, .int .i64 x.l.op, .string x.l.t.x, .int .i64 x.l.t.v.k, .int .i64 x.l.t.v.n, .string x.l.t.v.s, .slice P pn pc, .int .i64 x.r.op, .string x.r.t.x, .int .i64 x.r.t.v.k, .int .i64 x.r.t.v.n, .string x.r.t.v.s, .slice Q qn qc, .int .i64 x.pos] 35)) = wb at *
  clear hkk
  rcases hcs with ⟨rfl, h6⟩ | ⟨rfl, h6⟩ | ⟨rfl, ho1, ho6, hl, hr⟩
  rotate_left
  rotate_left
  · have q1 : (x.k == 3) = true := by simp [HK.out]
    obtain ⟨j, hj⟩ : ∃ j : Nat, x.op = (j : Int) := ⟨x.op.toNat, by omega⟩
    have j0 : (0 : Int) ≤ x.op := by omega
    have j1 : x.op < 7 := by omega
    have hE : S = expS 20 x.l ++ [32] ++ sgnS x.op ++ [32] ++ expS 20 x.r := by rw [HS.out]; unfold litS; rw [if_pos HK.out]
    have hl0 := hlen
    rw [hE] at hl0
    simp only [List.length_append, List.length_cons, List.length_nil] at hl0
    have HC1 := Lib.hid (fun (W : World) (hb : Below wb.heap.size wb W) => exp2_any 20 x.l P pn pc d W hl (HH.out.keep hb).lk HH.out.lv.2.1 (HW.out.on hb) (by omega))
    have HC2 := Lib.hid (fun (W : World) (hb : Below wb.heap.size wb W) => exp2_any 20 x.r Q qn qc d W hr (HH.out.keep hb).rk HH.out.rv.2.1 (HW.out.on hb) (by omega))
    have HSE : Hid (bytes S = bytes (expS 20 x.l) ++ ⟨#[32]⟩ ++ bytes (sgnS x.op) ++ ⟨#[32]⟩ ++ bytes (expS 20 x.r)) := by
      show _ = bytes (expS 20 x.l) ++ bytes [32] ++ bytes (sgnS x.op) ++ bytes [32] ++ bytes (expS 20 x.r)
      rw [hE, bytes_app, bytes_app, bytes_app, bytes_app]
    have e1 : (bytes (expS 20 x.l)).size = (expS 20 x.l).length := rfl
    have e2 : (bytes (expS 20 x.r)).size = (expS 20 x.r).length := rfl
    have e3 : (bytes (sgnS x.op)).size = (sgnS x.op).length := rfl
    have hgc2 : wb.cell? ⟨0, j, none⟩ = some (.string (bytes (sgnS x.op))) := by
      rw [hj]
      exact HW.out.signs.cell (sgnL_at (by omega) (by omega))
    rw [hj] at f3 j0 j1
    have HJ := Lib.hid hj
    clear hj
    generalize bytes (expS 20 x.l) = sl at *
    generalize bytes (expS 20 x.r) = sr at *
    generalize bytes (sgnS x.op) = so at *
    have y1 : ¬ (9223372036854775807 < sl.size + 1) := by omega
    have y2 : ¬ (9223372036854775806 < sl.size) := by omega
    have y3 : ¬ (9223372036854775807 < sl.size + 1 + so.size) := by omega
    have y4 : ¬ (9223372036854775807 < sl.size + 1 + so.size + 1) := by omega
    have y5 : ¬ (9223372036854775807 < sl.size + 1 + so.size + 1 + sr.size) := by omega
    clear hE hl0 e1 e2 e3 HS hlen hl hr
    go_enter Tryz.func112, Tryz.ntmps112
    go_wp2_with fail
    try simp only [hwb]
    clear hwb
    try simp only [HJ.out]
    go_wp2_with fail
    have Hk := Lib.hid (fun (V : World) (hb : Below wb.heap.size wb V) => (And.intro (below_cell hb f3) (And.intro (below_cell hb f4) (And.intro (below_cell hb f5) (And.intro (below_cell hb f6) (And.intro (below_cell hb f7) (And.intro (below_cell hb f8) (And.intro (below_cell hb f9) (And.intro (below_cell hb f10) (And.intro (below_cell hb f11) (And.intro (below_cell hb f12) (And.intro (below_cell hb f13) (And.intro (below_cell hb f14) (And.intro (below_cell hb f15) (below_cell hb hgc2)))))))))))))))
    have hb1 := Below.refl wb.heap.size wb
    go_region_held3 (fun w' => w'.cell? ⟨w.heap.size, 3, none⟩ = some (.int .i64 (j : Int)) ∧ w'.cell? ⟨w.heap.size, 4, none⟩ = some (.int .i64 x.l.op) ∧ w'.cell? ⟨w.heap.size, 5, none⟩ = some (.string x.l.t.x) ∧ w'.cell? ⟨w.heap.size, 6, none⟩ = some (.int .i64 x.l.t.v.k) ∧ w'.cell? ⟨w.heap.size, 7, none⟩ = some (.int .i64 x.l.t.v.n) ∧ w'.cell? ⟨w.heap.size, 8, none⟩ = some (.string x.l.t.v.s) ∧ w'.cell? ⟨w.heap.size, 9, none⟩ = some (.slice P pn pc) ∧ w'.cell? ⟨w.heap.size, 10, none⟩ = some (.int .i64 x.r.op) ∧ w'.cell? ⟨w.heap.size, 11, none⟩ = some (.string x.r.t.x) ∧ w'.cell? ⟨w.heap.size, 12, none⟩ = some (.int .i64 x.r.t.v.k) ∧ w'.cell? ⟨w.heap.size, 13, none⟩ = some (.int .i64 x.r.t.v.n) ∧ w'.cell? ⟨w.heap.size, 14, none⟩ = some (.string x.r.t.v.s) ∧ w'.cell? ⟨w.heap.size, 15, none⟩ = some (.slice Q qn qc) ∧ w'.cell? ⟨0, j, none⟩ = some (.string so))
      (first
        | (refine Hk.out _ ?_; (repeat (first | with_reducible exact Below.refl _ _ | with_reducible assumption | with_reducible refine Below.drew ?_ | with_reducible refine belowA ?_ _)); done)
        | go_keep)
      ((first
        | (go_at_call 115
           first
             | (have hm1 := hS1
                refine (HC2.out _ (by repeat (first | with_reducible exact Below.refl _ _ | with_reducible assumption | with_reducible refine Below.drew ?_ | with_reducible refine belowA ?_ _))).mono ?_
                rintro r wN ⟨rfl, hq1⟩
                have hb1 : Below wb.heap.size wb wN := by
                  refine below_next ?_ hq1
                  repeat (first | with_reducible exact Below.refl _ _ | with_reducible assumption | with_reducible refine Below.drew ?_ | with_reducible refine belowA ?_ _)
                clear hq1)
             | (refine (HC1.out _ (by repeat (first | with_reducible exact Below.refl _ _ | with_reducible assumption | with_reducible refine Below.drew ?_ | with_reducible refine belowA ?_ _))).mono ?_
                rintro r wN ⟨rfl, hq1⟩
                have hb1 : Below wb.heap.size wb wN := by
                  refine below_next ?_ hq1
                  repeat (first | with_reducible exact Below.refl _ _ | with_reducible assumption | with_reducible refine Below.drew ?_ | with_reducible refine belowA ?_ _)
                clear hq1
                have hS1 : True := trivial))))
    all_goals
      go_wp2_with fail
      go_ret
      exact ⟨by rw [HSE.out]; rfl, below_next Hba.out hb1⟩
  · have q1 : (x.k == 3) = false := by simp [HK.out]
    have q2 : (x.k == 2) = false := by simp [HK.out]
    have hE : S = atomS x.atom 0 0 := by rw [HS.out]; unfold litS; simp [HK.out]
    have hl0 := hlen
    rw [hE] at hl0
    unfold atomS at hl0
    simp only [List.length_append, ba_len] at hl0
    have HC1 := Lib.hid (fun (W : World) (hb : Below wb.heap.size wb W) => things0_any A an ac x.atom.args W (HH.out.keep hb).args (HW.out.on hb) (by have h1 := Hla.out; dsimp only at h1; omega) (by omega))
    have HSE : Hid (bytes S = x.atom.rel ++ bytes (thingsS 0 0 x.atom.args)) := by
      show _ = x.atom.rel ++ bytes (thingsS 0 0 x.atom.args)
      rw [hE, ← bytes_of x.atom.rel, bytes_app]
      unfold atomS
      simp only []
    have e1 : (bytes (thingsS 0 0 x.atom.args)).size = (thingsS 0 0 x.atom.args).length := rfl
    generalize bytes (thingsS 0 0 x.atom.args) = st at *
    have y1 : ¬ (9223372036854775807 < 4 + x.atom.rel.size) := by omega
    have y2 : ¬ (9223372036854775803 < x.atom.rel.size) := by omega
    have y3 : ¬ (9223372036854775807 < 4 + x.atom.rel.size + st.size) := by omega
    have y4 : ¬ (9223372036854775807 < x.atom.rel.size + st.size) := by omega
    clear hE hl0 e1 HS hlen
    go_enter Tryz.func112, Tryz.ntmps112
    go_wp2_with fail
    try simp only [hwb]
    clear hwb
    go_wp2_with fail
    have Hk := Lib.hid (fun (V : World) (hb : Below wb.heap.size wb V) => (And.intro (below_cell hb f1) (below_cell hb f2)))
    have hb1 := Below.refl wb.heap.size wb
    go_region_held3 (fun w' => w'.cell? ⟨w.heap.size, 1, none⟩ = some (.string x.atom.rel) ∧ w'.cell? ⟨w.heap.size, 2, none⟩ = some (.slice A an ac))
      (first
        | (refine Hk.out _ ?_; (repeat (first | with_reducible exact Below.refl _ _ | with_reducible assumption | with_reducible refine Below.drew ?_ | with_reducible refine belowA ?_ _)); done)
        | go_keep)
      ((first
        | (go_at_call 186
           refine (HC1.out _ (by repeat (first | with_reducible exact Below.refl _ _ | with_reducible assumption | with_reducible refine Below.drew ?_ | with_reducible refine belowA ?_ _))).mono ?_
           rintro r wN ⟨rfl, hq1⟩
           have hb1 : Below wb.heap.size wb wN := by
             refine below_next ?_ hq1
             repeat (first | with_reducible exact Below.refl _ _ | with_reducible assumption | with_reducible refine Below.drew ?_ | with_reducible refine belowA ?_ _)
           clear hq1)))
    all_goals
      go_wp2_with fail
      go_ret
      exact ⟨by rw [HSE.out]; rfl, below_next Hba.out hb1⟩
  · have q1 : (x.k == 3) = false := by simp [HK.out]
    have q2 : (x.k == 2) = true := by simp [HK.out]
    have hE : S = [110, 111, 116, 32] ++ atomS x.atom 0 0 := by rw [HS.out]; unfold litS; simp [HK.out]
    have hl0 := hlen
    rw [hE] at hl0
    unfold atomS at hl0
    simp only [List.length_append, List.length_cons, List.length_nil, ba_len] at hl0
    have HC1 := Lib.hid (fun (W : World) (hb : Below wb.heap.size wb W) => things0_any A an ac x.atom.args W (HH.out.keep hb).args (HW.out.on hb) (by have h1 := Hla.out; dsimp only at h1; omega) (by omega))
    have HSE : Hid (bytes S = ⟨#[110, 111, 116, 32]⟩ ++ x.atom.rel ++ bytes (thingsS 0 0 x.atom.args)) := by
      show _ = bytes [110, 111, 116, 32] ++ x.atom.rel ++ bytes (thingsS 0 0 x.atom.args)
      rw [hE, ← bytes_of x.atom.rel, bytes_app, bytes_app]
      unfold atomS
      simp only [List.append_assoc]
    have e1 : (bytes (thingsS 0 0 x.atom.args)).size = (thingsS 0 0 x.atom.args).length := rfl
    generalize bytes (thingsS 0 0 x.atom.args) = st at *
    have y1 : ¬ (9223372036854775807 < 4 + x.atom.rel.size) := by omega
    have y2 : ¬ (9223372036854775803 < x.atom.rel.size) := by omega
    have y3 : ¬ (9223372036854775807 < 4 + x.atom.rel.size + st.size) := by omega
    have y4 : ¬ (9223372036854775807 < x.atom.rel.size + st.size) := by omega
    clear hE hl0 e1 HS hlen
    go_enter Tryz.func112, Tryz.ntmps112
    go_wp2_with fail
    try simp only [hwb]
    clear hwb
    go_wp2_with fail
    have Hk := Lib.hid (fun (V : World) (hb : Below wb.heap.size wb V) => (And.intro (below_cell hb f1) (below_cell hb f2)))
    have hb1 := Below.refl wb.heap.size wb
    go_region_held3 (fun w' => w'.cell? ⟨w.heap.size, 1, none⟩ = some (.string x.atom.rel) ∧ w'.cell? ⟨w.heap.size, 2, none⟩ = some (.slice A an ac))
      (first
        | (refine Hk.out _ ?_; (repeat (first | with_reducible exact Below.refl _ _ | with_reducible assumption | with_reducible refine Below.drew ?_ | with_reducible refine belowA ?_ _)); done)
        | go_keep)
      ((first
        | (go_at_call 186
           refine (HC1.out _ (by repeat (first | with_reducible exact Below.refl _ _ | with_reducible assumption | with_reducible refine Below.drew ?_ | with_reducible refine belowA ?_ _))).mono ?_
           rintro r wN ⟨rfl, hq1⟩
           have hb1 : Below wb.heap.size wb wN := by
             refine below_next ?_ hq1
             repeat (first | with_reducible exact Below.refl _ _ | with_reducible assumption | with_reducible refine Below.drew ?_ | with_reducible refine belowA ?_ _)
           clear hq1)))
    all_goals
      go_wp2_with fail
      go_ret
      exact ⟨by rw [HSE.out]; rfl, below_next Hba.out hb1⟩
end Go.Proofs.YtgabkmibfhmkmaaGreatDoor

namespace Go.Proofs.YtgabkmibfhmkmaaGreatDoor
open Go.RowKit
theorem refAtom0_any (x : GAtom) (A : Option Addr) (n c : Nat) (w : World) (ht : SliceIs Enc.told w w.heap.size A n c x.args) (hlen : (atomS x 0 0).length ≤ 1000000000000) :
    Calls Tryz.prog 117 #[.agg #[.string x.rel, .slice A n c], .int .i64 0, .int .i64 0] w (RetV (.string (bytes (atomS x 0 0))) w) := refAtom_any 0 0 x A n c w ht (by omega) hlen
def rlF (j H : Nat) (sl so sr : ByteArray) (vl vr : Value) (i : Nat) (v : Value) (W : World) : Prop := match i with
  | 0 => v = .pointer (some ⟨H, 4, none⟩)
  | 1 => v = vl
  | 2 => v = .string sl
  | 3 => ∃ h, v = .slice (some ⟨h, 0, none⟩) 7 7 ∧ W.cell? ⟨h, j, none⟩ = some (.string so)
  | 4 => v = .pointer (some ⟨H, 3, none⟩)
  | 5 => v = .int .i64 j
  | 6 => ∃ h, v = .pointer (some ⟨h, j, none⟩) ∧ W.cell? ⟨h, j, none⟩ = some (.string so)
  | 7 => v = .string so
  | 8 => v = .string (sl ++ so)
  | 9 => v = .pointer (some ⟨H, 10, none⟩)
  | 10 => v = vr
  | 11 => v = .string sr
  | 12 => v = .string (sl ++ so ++ sr)
  | _ => True
theorem rlF_keep {j H : Nat} {sl so sr : ByteArray} {vl vr : Value} {i : Nat} {v : Value} {W W' : World} (h : rlF j H sl so sr vl vr i v W) (hb : Below W.heap.size W W') : rlF j H sl so sr vl vr i v W' := by
  match i, h with
  | 0, h => exact h
  | 1, h => exact h
  | 2, h => exact h
  | 3, ⟨q, h1, h2⟩ => exact ⟨q, h1, below_cell hb h2⟩
  | 4, h => exact h
  | 5, h => exact h
  | 6, ⟨q, h1, h2⟩ => exact ⟨q, h1, below_cell hb h2⟩
  | 7, h => exact h
  | 8, h => exact h
  | 9, h => exact h
  | 10, h => exact h
  | 11, h => exact h
  | 12, h => exact h
  | _ + 13, _ => exact trivial
set_option maxRecDepth 100000 in
set_option maxHeartbeats 8000000 in
theorem refLiteral_any (d : Nat) (x : GLit) (A : Option Addr) (an ac : Nat) (P : Option Addr) (pn pc : Nat) (Q : Option Addr) (qn qc : Nat) (w : World) (h : LitAt d w w.heap.size x ⟨A, an, ac⟩ ⟨P, pn, pc⟩ ⟨Q, qn, qc⟩) (hr : rightLit x = true) (hlen : (litS x).length ≤ 1000000000000) :
    Calls Tryz.prog 41 #[.agg #[.int .i64 x.k, .string x.atom.rel, .slice A an ac, .int .i64 x.op, .int .i64 x.l.op, .string x.l.t.x, .int .i64 x.l.t.v.k, .int .i64 x.l.t.v.n, .string x.l.t.v.s, .slice P pn pc, .int .i64 x.r.op, .string x.r.t.x, .int .i64 x.r.t.v.k, .int .i64 x.r.t.v.n, .string x.r.t.v.s, .slice Q qn qc, .int .i64 x.pos]] w (RetV (.string (bytes (litS x))) w) := by
  have mixed : Tryz.prog.follows .mixedOrders = true := by kernel_rfl
  obtain ⟨S, HS⟩ : ∃ S, Hid (S = litS x) := ⟨_, rfl⟩
  rw [← HS.out] at hlen ⊢
  have hrb : (w.alloc (.cells #[.int .i64 x.k, .string x.atom.rel, .slice A an ac, .int .i64 x.op, .int .i64 x.l.op, .string x.l.t.x, .int .i64 x.l.t.v.k, .int .i64 x.l.t.v.n, .string x.l.t.v.s, .slice P pn pc, .int .i64 x.r.op, .string x.r.t.x, .int .i64 x.r.t.v.k, .int .i64 x.r.t.v.n, .string x.r.t.v.s, .slice Q qn qc, .int .i64 x.pos] 51)).heap[w.heap.size]? = some (.cells #[.int .i64 x.k, .string x.atom.rel, .slice A an ac, .int .i64 x.op, .int .i64 x.l.op, .string x.l.t.x, .int .i64 x.l.t.v.k, .int .i64 x.l.t.v.n, .string x.l.t.v.s, .slice P pn pc, .int .i64 x.r.op, .string x.r.t.x, .int .i64 x.r.t.v.k, .int .i64 x.r.t.v.n, .string x.r.t.v.s, .slice Q qn qc, .int .i64 x.pos] 51 (0, 0)) := heapNew rfl
  have hba : Below w.heap.size w (w.alloc (.cells #[.int .i64 x.k, .string x.atom.rel, .slice A an ac, .int .i64 x.op, .int .i64 x.l.op, .string x.l.t.x, .int .i64 x.l.t.v.k, .int .i64 x.l.t.v.n, .string x.l.t.v.s, .slice P pn pc, .int .i64 x.r.op, .string x.r.t.x, .int .i64 x.r.t.v.k, .int .i64 x.r.t.v.n, .string x.r.t.v.s, .slice Q qn qc, .int .i64 x.pos] 51)) := belowA (Below.refl _ _) _
  have HH := Lib.hid (h.keep hba)
  have Hba := Lib.hid hba
  have Hla := Lib.hid h.args.1
  have Hrb := Lib.hid hrb
  obtain ⟨f0, f1, f2, f3, f4, f5, f6, f7, f8, f9, f10, f11, f12, f13, f14, f15, f16⟩ := facts17 hrb
  have hcs := rightLit_cases hr
  clear h hr hrb hba
  obtain ⟨kk, hkk⟩ : ∃ kk, x.k = kk := ⟨_, rfl⟩
  rw [hkk] at hcs
  have HK := Lib.hid hkk
  generalize hwb : (w.alloc (.cells #[.int .i64 x.k, .string x.atom.rel, .slice A an ac, .int .i64 x.op, .int .i64 x.l.op, .string x.l.t.x, .int .i64 x.l.t.v.k, .int .i64 x.l.t.v.n, .string x.l.t.v.s, .slice P pn pc, .int .i64 x.r.op, .string x.r.t.x, .int .i64 x.r.t.v.k, .int .i64 x.r.t.v.n, .string x.r.t.v.s, .slice Q qn qc, .int .i64 x.pos] 51)) = wb at *
  clear hkk
  rcases hcs with ⟨rfl, h6⟩ | ⟨rfl, h6⟩ | ⟨rfl, ho1, ho6, hl, hr⟩
  rotate_left
  rotate_left
  · have q1 : (x.k == 3) = true := by simp [HK.out]
    obtain ⟨j, hj⟩ : ∃ j : Nat, x.op = (j : Int) := ⟨x.op.toNat, by omega⟩
    have j0 : (0 : Int) ≤ x.op := by omega
    have j1 : x.op < 7 := by omega
    have hE : S = expS 20 x.l ++ [32] ++ sgnS x.op ++ [32] ++ expS 20 x.r := by rw [HS.out]; unfold litS; rw [if_pos HK.out]
    have hl0 := hlen
    rw [hE] at hl0
    simp only [List.length_append, List.length_cons, List.length_nil] at hl0
    have HC1 := Lib.hid (fun (W : World) (hb : Below wb.heap.size wb W) => refExp2_any 20 x.l P pn pc d W hl (HH.out.keep hb).lk HH.out.lv HH.out.lx (by omega))
    have HC2 := Lib.hid (fun (W : World) (hb : Below wb.heap.size wb W) => refExp2_any 20 x.r Q qn qc d W hr (HH.out.keep hb).rk HH.out.rv HH.out.rx (by omega))
    have HSE : Hid (bytes S = bytes (expS 20 x.l) ++ bytes ([32] ++ sgnS x.op ++ [32]) ++ bytes (expS 20 x.r)) := by
      show _ = _
      rw [hE, bytes_app, bytes_app]
      simp only [List.append_assoc]
    have e1 : (bytes (expS 20 x.l)).size = (expS 20 x.l).length := rfl
    have e2 : (bytes (expS 20 x.r)).size = (expS 20 x.r).length := rfl
    have e3 : (bytes ([32] ++ sgnS x.op ++ [32])).size ≤ 4 := by
      have := sgnS_len x.op
      show ([32] ++ sgnS x.op ++ [32]).length ≤ 4
      simp only [List.length_append, List.length_cons, List.length_nil]
      omega
    rw [hj] at f3 j0 j1
    have kW : ∀ W : World, (W.alloc (.cells #[.string ⟨#[]⟩, .string ⟨#[32, 61, 32]⟩, .string ⟨#[32, 33, 61, 32]⟩, .string ⟨#[32, 60, 32]⟩, .string ⟨#[32, 60, 61, 32]⟩, .string ⟨#[32, 62, 32]⟩, .string ⟨#[32, 62, 61, 32]⟩] 9)).cell? ⟨W.heap.size, j, none⟩ = some (.string (bytes ([32] ++ sgnS x.op ++ [32]))) := fun W => by
      rw [hj]
      have hj6 : j = 1 ∨ j = 2 ∨ j = 3 ∨ j = 4 ∨ j = 5 ∨ j = 6 := by omega
      rcases hj6 with rfl | rfl | rfl | rfl | rfl | rfl
      · exact (cell_of_row _ _ 1 _ _ _ (heapNew rfl)).trans rfl
      · exact (cell_of_row _ _ 2 _ _ _ (heapNew rfl)).trans rfl
      · exact (cell_of_row _ _ 3 _ _ _ (heapNew rfl)).trans rfl
      · exact (cell_of_row _ _ 4 _ _ _ (heapNew rfl)).trans rfl
      · exact (cell_of_row _ _ 5 _ _ _ (heapNew rfl)).trans rfl
      · exact (cell_of_row _ _ 6 _ _ _ (heapNew rfl)).trans rfl
    have HJ := Lib.hid hj
    clear hj
    generalize bytes (expS 20 x.l) = sl at *
    generalize bytes (expS 20 x.r) = sr at *
    generalize bytes ([32] ++ sgnS x.op ++ [32]) = so at *
    have y3 : ¬ (9223372036854775807 < sl.size + so.size) := by omega
    have y5 : ¬ (9223372036854775807 < sl.size + so.size + sr.size) := by omega
    clear hE hl0 e1 e2 e3 HS hlen hl hr
    go_enter Tryz.func41, Tryz.ntmps41
    go_wp2_with fail
    try simp only [hwb]
    clear hwb
    try simp only [HJ.out]
    go_wp2_with fail
    refine drawn2 mixed 13 29 [6, 7, 8, 9, 10, 11, 12, 13, 14, 15, 16, 17, 18] (fun _ W => Below wb.heap.size wb W) (rlF j w.heap.size sl so sr (.agg #[.int .i64 x.l.op, .string x.l.t.x, .int .i64 x.l.t.v.k, .int .i64 x.l.t.v.n, .string x.l.t.v.s, .slice P pn pc]) (.agg #[.int .i64 x.r.op, .string x.r.t.x, .int .i64 x.r.t.v.k, .int .i64 x.r.t.v.n, .string x.r.t.v.s, .slice Q qn qc])) (fun _ W W' => Below W.heap.size W W') rfl (by kernel_rfl) (by kernel_rfl) rfl (fun j _ => below_drewN _ 1 _) (fun i j v W W' _ _ _ h h' => rlF_keep h h') (fun _ _ _ _ _ _ _ _ h h' => below_next h h') ?_ ?_
    · intro i o2' a2 W hi ho hd hold hG _ hw
      have hr1 : a2.tmps[1]? = some (.pointer (some ⟨w.heap.size, 0, none⟩)) := hold 1 (by kernel_rfl)
      clear hold
      match i, hi, ho with
          | 0, _, ho =>
            injection ho with ho; subst ho
            exact op_val _ (by simp [execOp, Act.eval, hr1, go_sem]) ⟨_, rfl, Below.refl _ _, rfl⟩
          | 1, _, ho =>
            injection ho with ho; subst ho
            obtain ⟨v0, h0, e0⟩ := hw 0 6 (by kernel_rfl)
            obtain rfl : v0 = _ := e0
            have z4 := below_cell hG f4; have z5 := below_cell hG f5; have z6 := below_cell hG f6; have z7 := below_cell hG f7; have z8 := below_cell hG f8; have z9 := below_cell hG f9
            exact op_val _ (by simp [execOp, Act.eval, h0, go_sem, z4, z5, z6, z7, z8, z9]) ⟨_, rfl, Below.refl _ _, rfl⟩
          | 2, _, ho =>
            injection ho with ho; subst ho
            obtain ⟨v1, h1, e1⟩ := hw 1 7 (by kernel_rfl)
            obtain rfl : v1 = _ := e1
            refine op_call 44 _ rfl rfl #[.agg #[.int .i64 x.l.op, .string x.l.t.x, .int .i64 x.l.t.v.k, .int .i64 x.l.t.v.n, .string x.l.t.v.s, .slice P pn pc]] (by simp [Act.eval, h1]) _ Tryz.func44 (by kernel_rfl) (by kernel_rfl) ((HC1.out W hG).mono ?_)
            rintro r w' ⟨rfl, hb⟩
            exact ⟨_, rfl, _, rfl, hb, rfl⟩
          | 3, _, ho =>
            injection ho with ho; subst ho
            exact op_bslice 107 9 7 _ rfl 1 [.string ⟨#[]⟩, .string ⟨#[32, 61, 32]⟩, .string ⟨#[32, 33, 61, 32]⟩, .string ⟨#[32, 60, 32]⟩, .string ⟨#[32, 60, 61, 32]⟩, .string ⟨#[32, 62, 32]⟩, .string ⟨#[32, 62, 61, 32]⟩] Tryz.underlying107 (by kernel_rfl) (by decide) rfl (by decide) (by decide) (by simp [Act.eval]) (fun v hv => by simp at hv; rcases hv with rfl | rfl | rfl | rfl | rfl | rfl | rfl <;> rfl) ⟨_, rfl, belowA (Below.refl _ _) _, _, rfl, kW W⟩
          | 4, _, ho =>
            injection ho with ho; subst ho
            exact op_val _ (by simp [execOp, Act.eval, hr1, go_sem]) ⟨_, rfl, Below.refl _ _, rfl⟩
          | 5, _, ho =>
            injection ho with ho; subst ho
            obtain ⟨v4, h4, e4⟩ := hw 4 10 (by kernel_rfl)
            obtain rfl : v4 = _ := e4
            have z3 := below_cell hG f3
            exact op_val _ (by simp [execOp, Act.eval, h4, go_sem, z3]) ⟨_, rfl, Below.refl _ _, rfl⟩
          | 6, _, ho =>
            injection ho with ho; subst ho
            obtain ⟨v3, h3, e3⟩ := hw 3 9 (by kernel_rfl)
            obtain ⟨q3, rfl, kc3⟩ := e3
            obtain ⟨v5, h5, e5⟩ := hw 5 11 (by kernel_rfl)
            obtain rfl : v5 = _ := e5
            exact op_val _ (by simp [execOp, Act.eval, h3, h5, go_sem, j0, j1]) ⟨_, rfl, Below.refl _ _, _, rfl, kc3⟩
          | 7, _, ho =>
            injection ho with ho; subst ho
            obtain ⟨v6, h6, e6⟩ := hw 6 12 (by kernel_rfl)
            obtain ⟨q6, rfl, kc6⟩ := e6
            exact op_val _ (by simp [execOp, Act.eval, h6, go_sem, kc6]) ⟨_, rfl, Below.refl _ _, rfl⟩
          | 8, _, ho =>
            injection ho with ho; subst ho
            obtain ⟨v2, h2, e2⟩ := hw 2 8 (by kernel_rfl)
            obtain rfl : v2 = _ := e2
            obtain ⟨v7, h7, e7⟩ := hw 7 13 (by kernel_rfl)
            obtain rfl : v7 = _ := e7
            exact op_val _ (by simp [execOp, Act.eval, h2, h7, go_sem, y3]) ⟨_, rfl, Below.refl _ _, rfl⟩
          | 9, _, ho =>
            injection ho with ho; subst ho
            exact op_val _ (by simp [execOp, Act.eval, hr1, go_sem]) ⟨_, rfl, Below.refl _ _, rfl⟩
          | 10, _, ho =>
            injection ho with ho; subst ho
            obtain ⟨v9, h9, e9⟩ := hw 9 15 (by kernel_rfl)
            obtain rfl : v9 = _ := e9
            have z10 := below_cell hG f10; have z11 := below_cell hG f11; have z12 := below_cell hG f12; have z13 := below_cell hG f13; have z14 := below_cell hG f14; have z15 := below_cell hG f15
            exact op_val _ (by simp [execOp, Act.eval, h9, go_sem, z10, z11, z12, z13, z14, z15]) ⟨_, rfl, Below.refl _ _, rfl⟩
          | 11, _, ho =>
            injection ho with ho; subst ho
            obtain ⟨v10, h10, e10⟩ := hw 10 16 (by kernel_rfl)
            obtain rfl : v10 = _ := e10
            refine op_call 44 _ rfl rfl #[.agg #[.int .i64 x.r.op, .string x.r.t.x, .int .i64 x.r.t.v.k, .int .i64 x.r.t.v.n, .string x.r.t.v.s, .slice Q qn qc]] (by simp [Act.eval, h10]) _ Tryz.func44 (by kernel_rfl) (by kernel_rfl) ((HC2.out W hG).mono ?_)
            rintro r w' ⟨rfl, hb⟩
            exact ⟨_, rfl, _, rfl, hb, rfl⟩
          | 12, _, ho =>
            injection ho with ho; subst ho
            obtain ⟨v8, h8, e8⟩ := hw 8 14 (by kernel_rfl)
            obtain rfl : v8 = _ := e8
            obtain ⟨v11, h11, e11⟩ := hw 11 17 (by kernel_rfl)
            obtain rfl : v11 = _ := e11
            exact op_val _ (by simp [execOp, Act.eval, h8, h11, go_sem, y5]) ⟨_, rfl, Below.refl _ _, rfl⟩
          | n + 13, hi, _ => omega
    · intro o2' u W ho hG hw
      have e0 := hw 12 18 (by decide) (by kernel_rfl)
      obtain ⟨hop, hds⟩ : o2'.op = .assign (.tmp 18) ∧ o2'.dst = some 2 := by injection ho with ho; subst ho; exact ⟨rfl, rfl⟩
      clear ho
      simp only [List.foldl_cons, List.foldl_nil, Act.put, List.setIfInBounds_toArray, List.set_cons_zero, List.set_cons_succ]
      rw [show u 18 = Value.string (sl ++ so ++ sr) from e0]
      have HBn := Lib.hid (below_next Hba.out hG)
      refine op_assign (.tmp 18) (.inl hop) (.string (sl ++ so ++ sr)) (by simp [Act.eval]) ?_
      clear hw e0 HC1 HC2 hG y3 y5 kW
      rw [hds]
      clear hop hds
      simp only [Act.put, List.setIfInBounds_toArray, List.set_cons_zero, List.set_cons_succ]
      go_wp2_with fail
      go_ret
      exact ⟨by rw [HSE.out]; rfl, HBn.out⟩
  · have q1 : (x.k == 3) = false := by simp [HK.out]
    have q2 : (x.k == 2) = false := by simp [HK.out]
    have hE : S = atomS x.atom 0 0 := by rw [HS.out]; unfold litS; simp [HK.out]
    have hl0 := hlen
    rw [hE] at hl0
    skip
    have HC1 := Lib.hid (refAtom0_any x.atom A an ac wb HH.out.args (by omega))
    have HSE : Hid (bytes S = bytes (atomS x.atom 0 0)) := by
      show _ = bytes (atomS x.atom 0 0)
      rw [hE]
    have e1 : (bytes (atomS x.atom 0 0)).size = (atomS x.atom 0 0).length := rfl
    generalize bytes (atomS x.atom 0 0) = st at *
    have y1 : ¬ (9223372036854775807 < 4 + st.size) := by omega
    have y2 : ¬ (9223372036854775803 < st.size) := by omega
    clear hE hl0 e1 HS hlen
    go_enter Tryz.func41, Tryz.ntmps41
    go_wp2_with fail
    try simp only [hwb]
    clear hwb
    go_wp2_with fail
    refine HC1.out.mono ?_
    rintro r wN ⟨rfl, hb1⟩
    go_wp2_with fail
    go_ret
    exact ⟨by rw [HSE.out]; rfl, below_next Hba.out hb1⟩
  · have q1 : (x.k == 3) = false := by simp [HK.out]
    have q2 : (x.k == 2) = true := by simp [HK.out]
    have hE : S = [110, 111, 116, 32] ++ atomS x.atom 0 0 := by rw [HS.out]; unfold litS; simp [HK.out]
    have hl0 := hlen
    rw [hE] at hl0
    simp only [List.length_append, List.length_cons, List.length_nil] at hl0
    have HC1 := Lib.hid (refAtom0_any x.atom A an ac wb HH.out.args (by omega))
    have HSE : Hid (bytes S = ⟨#[110, 111, 116, 32]⟩ ++ bytes (atomS x.atom 0 0)) := by
      show _ = bytes [110, 111, 116, 32] ++ bytes (atomS x.atom 0 0)
      rw [hE, bytes_app]
    have e1 : (bytes (atomS x.atom 0 0)).size = (atomS x.atom 0 0).length := rfl
    generalize bytes (atomS x.atom 0 0) = st at *
    have y1 : ¬ (9223372036854775807 < 4 + st.size) := by omega
    have y2 : ¬ (9223372036854775803 < st.size) := by omega
    clear hE hl0 e1 HS hlen
    go_enter Tryz.func41, Tryz.ntmps41
    go_wp2_with fail
    try simp only [hwb]
    clear hwb
    go_wp2_with fail
    refine HC1.out.mono ?_
    rintro r wN ⟨rfl, hb1⟩
    go_wp2_with fail
    go_ret
    exact ⟨by rw [HSE.out]; rfl, below_next Hba.out hb1⟩
end Go.Proofs.YtgabkmibfhmkmaaGreatDoor
