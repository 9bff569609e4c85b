/- Merged by my own program of: TLit, TRefE, TRefL, TEvL, TRule, TRefR, CpLit, RefSameR. -/
import Derived.Test.YtiffmiabhapfnaaGreatDoorTDeep
import Derived.Test.YtiffmiabhapfnaaGreatDoorWide
import Derived.Test.YtiffmiabhapfnaaGreatDoorTSize
import Derived.Test.YtiffmiabhapfnaaGreatDoorPgm
import Derived.Test.YtiffmiabhapfnaaGreatDoorRefSame
import Derived.Test.YtiffmiabhapfnaaGreatDoorTwoJ
/- (term.Atom).right, term.RightLiteral. -/
namespace Go.Proofs.YtiffmiabhapfnaaGreatDoor
open Go.RowKit

def atomB (x : GAtom) : Bool := singleB 2 x.rel && (decide (x.args.length ≤ 6) && x.args.all rightT)
set_option maxRecDepth 100000 in
set_option maxHeartbeats 1000000 in
theorem aright_any (x : GAtom) (a : Hd) (w : World) (hs : x.rel.size ≤ reachN) (hl : SliceIs Enc.told w w.heap.size a.A a.n a.c x.args) (hW : LexW w) : Calls Tryz.prog 33 #[.agg #[.string x.rel, a.v]] w (RetBool (atomB x) w) := by
  obtain ⟨B, HB⟩ : ∃ B, Hid (B = atomB x) := ⟨_, rfl⟩
  rw [← HB.out]
  have hrb : (w.alloc (.cells #[.string x.rel, a.v] 53)).heap[w.heap.size]? = some (.cells #[.string x.rel, a.v] 53 (0, 0)) := heapNew rfl
  have hba : Below w.heap.size w (w.alloc (.cells #[.string x.rel, a.v] 53)) := belowA (Below.refl _ _) _
  have hn := hl.bound
  have hlen := Lib.hid hl.1
  obtain ⟨N, HN⟩ : ∃ N, Hid (N = singleB 2 x.rel) := ⟨_, rfl⟩
  obtain ⟨E, HEe⟩ : ∃ E, Hid (E = x.args.all rightT) := ⟨_, rfl⟩
  have HE : Hid (B = (N && (decide (x.args.length ≤ 6) && E))) := by show _ = _; rw [HB.out, HN.out, HEe.out]; rfl
  have C1 : Hid (∀ W, Below (w.alloc (.cells #[.string x.rel, a.v] 53)).heap.size (w.alloc (.cells #[.string x.rel, a.v] 53)) W → Calls Tryz.prog 54 #[.string x.rel] W (RetBool N W)) := fun W h => by rw [HN.out]; exact named_any x.rel hs W ((hW.on hba).on h)
  have C2 : Hid (∀ W, Below (w.alloc (.cells #[.string x.rel, a.v] 53)).heap.size (w.alloc (.cells #[.string x.rel, a.v] 53)) W → Calls Tryz.prog 58 #[a.v, .func (.func 59) #[] #[]] W (RetBool E W)) := fun W h => by
    rw [HEe.out]
    exact everyT_any a.A a.n a.c x.args W ((hl.keep hba).keep h) (fun t W' ht h' => tright_any t ht.1 W' (((hW.on hba).on h).on h'))
  have Hrow : Hid (∀ W, Below (w.alloc (.cells #[.string x.rel, a.v] 53)).heap.size (w.alloc (.cells #[.string x.rel, a.v] 53)) W → W.heap[w.heap.size]? = some (.cells #[.string x.rel, a.v] 53 (0, 0))) := fun W h => (h.block _ (Array.getElem?_eq_some_iff.1 hrb).1).trans hrb
  obtain ⟨f0_0, f0_1⟩ := facts2 hrb
  clear hl hW hs hrb HB HN HEe
  by_cases h6 : a.n ≤ 6
  · have z6 : (a.n : Int) ≤ 6 := by omega
    have HE2 : Hid (B = (N && E)) := by show _ = _; rw [HE.out, decide_eq_true (by rw [hlen.out]; exact h6)]; rfl
    clear HE hlen h6
    generalize hwb : (w.alloc (.cells #[.string x.rel, a.v] 53)) = wb at *
    have Hbw0 := Lib.hid (Below.refl wb.heap.size wb)
    go_enter Tryz.func33, Tryz.ntmps33
    go_wp2_with fail
    try simp only [hwb]
    go_wp2_with fail
    refine (C1.out _ Hbw0.out).mono ?_
    rintro e1 w1 ⟨rfl, hq1⟩
    have Hbw1 := Lib.hid (below_next Hbw0.out hq1)
    obtain ⟨f1_0, f1_1⟩ := facts2 (Hrow.out _ Hbw1.out)
    clear hq1 f0_0 f0_1
    cases N with
    | false =>
      go_wp2_with fail
      go_ret
      exact ⟨by rw [HE2.out]; rfl, below_next hba Hbw1.out⟩
    | true =>
      go_wp2_with fail
      refine (C2.out _ Hbw1.out).mono ?_
      rintro e2 w2 ⟨rfl, hq2⟩
      have Hbw2 := Lib.hid (below_next Hbw1.out hq2)
      obtain ⟨f2_0, f2_1⟩ := facts2 (Hrow.out _ Hbw2.out)
      clear hq2 f1_0 f1_1
      cases E <;>
      · go_wp2_with fail
        go_ret
        exact ⟨by rw [HE2.out]; rfl, below_next hba Hbw2.out⟩
  · have z6 : ¬ (a.n : Int) ≤ 6 := by omega
    have HE2 : Hid (B = false) := by show _ = _; rw [HE.out, decide_eq_false (by rw [hlen.out]; exact h6)]; simp
    clear HE hlen h6 C2
    generalize hwb : (w.alloc (.cells #[.string x.rel, a.v] 53)) = wb at *
    have Hbw0 := Lib.hid (Below.refl wb.heap.size wb)
    go_enter Tryz.func33, Tryz.ntmps33
    go_wp2_with fail
    try simp only [hwb]
    go_wp2_with fail
    refine (C1.out _ Hbw0.out).mono ?_
    rintro e1 w1 ⟨rfl, hq1⟩
    have Hbw1 := Lib.hid (below_next Hbw0.out hq1)
    obtain ⟨f1_0, f1_1⟩ := facts2 (Hrow.out _ Hbw1.out)
    clear hq1 f0_0 f0_1
    cases N <;>
    · go_wp2_with fail
      go_ret
      exact ⟨by rw [HE2.out]; rfl, below_next hba Hbw1.out⟩

def cmpB2 (x : GLit) : Bool := (decide (x.atom.rel.size = 0) && decide (x.atom.args.length = 0)) && (decide (1 ≤ x.op) && decide (x.op ≤ 6))
def rightLit (x : GLit) : Bool := if x.k = 1 ∨ x.k = 2 then atomB x.atom && (decide (x.op = 0) && (noneE x.l && noneE x.r)) else
  decide (x.k = 3) && (cmpB2 x && (rightE 20 x.l && rightE 20 x.r))

set_option maxRecDepth 100000 in
set_option maxHeartbeats 4000000 in
theorem rightLit_any (d : Nat) (x : GLit) (a p q : Hd) (w : World) (h : LitAt d w w.heap.size x a p q) (hW : LexW w) : Calls Tryz.prog 17 #[.agg #[.int .i64 x.k, .string x.atom.rel, a.v, .int .i64 x.op, .int .i64 x.l.op, .string x.l.t.x, .int .i64 x.l.t.v.k, .int .i64 x.l.t.v.n, .string x.l.t.v.s, p.v, .int .i64 x.r.op, .string x.r.t.x, .int .i64 x.r.t.v.k, .int .i64 x.r.t.v.n, .string x.r.t.v.s, q.v, .int .i64 x.pos]] w (RetBool (rightLit x) w) := by
  obtain ⟨B, HB⟩ : ∃ B, Hid (B = rightLit x) := ⟨_, rfl⟩
  rw [← HB.out]
  have hrb : (w.alloc (.cells #[.int .i64 x.k, .string x.atom.rel, a.v, .int .i64 x.op, .int .i64 x.l.op, .string x.l.t.x, .int .i64 x.l.t.v.k, .int .i64 x.l.t.v.n, .string x.l.t.v.s, p.v, .int .i64 x.r.op, .string x.r.t.x, .int .i64 x.r.t.v.k, .int .i64 x.r.t.v.n, .string x.r.t.v.s, q.v, .int .i64 x.pos] 63)).heap[w.heap.size]? = some (.cells #[.int .i64 x.k, .string x.atom.rel, a.v, .int .i64 x.op, .int .i64 x.l.op, .string x.l.t.x, .int .i64 x.l.t.v.k, .int .i64 x.l.t.v.n, .string x.l.t.v.s, p.v, .int .i64 x.r.op, .string x.r.t.x, .int .i64 x.r.t.v.k, .int .i64 x.r.t.v.n, .string x.r.t.v.s, q.v, .int .i64 x.pos] 63 (0, 0)) := heapNew rfl
  have hba : Below w.heap.size w (w.alloc (.cells #[.int .i64 x.k, .string x.atom.rel, a.v, .int .i64 x.op, .int .i64 x.l.op, .string x.l.t.x, .int .i64 x.l.t.v.k, .int .i64 x.l.t.v.n, .string x.l.t.v.s, p.v, .int .i64 x.r.op, .string x.r.t.x, .int .i64 x.r.t.v.k, .int .i64 x.r.t.v.n, .string x.r.t.v.s, q.v, .int .i64 x.pos] 63)) := belowA (Below.refl _ _) _
  have hna := h.args.bound
  have Hla := Lib.hid h.args.1
  have HH := Lib.hid (h.keep hba)
  have HW := Lib.hid (hW.on hba)
  clear h hW
  have Hrow : Hid (∀ W, Below (w.alloc (.cells #[.int .i64 x.k, .string x.atom.rel, a.v, .int .i64 x.op, .int .i64 x.l.op, .string x.l.t.x, .int .i64 x.l.t.v.k, .int .i64 x.l.t.v.n, .string x.l.t.v.s, p.v, .int .i64 x.r.op, .string x.r.t.x, .int .i64 x.r.t.v.k, .int .i64 x.r.t.v.n, .string x.r.t.v.s, q.v, .int .i64 x.pos] 63)).heap.size (w.alloc (.cells #[.int .i64 x.k, .string x.atom.rel, a.v, .int .i64 x.op, .int .i64 x.l.op, .string x.l.t.x, .int .i64 x.l.t.v.k, .int .i64 x.l.t.v.n, .string x.l.t.v.s, p.v, .int .i64 x.r.op, .string x.r.t.x, .int .i64 x.r.t.v.k, .int .i64 x.r.t.v.n, .string x.r.t.v.s, q.v, .int .i64 x.pos] 63)) W → W.heap[w.heap.size]? = some (.cells #[.int .i64 x.k, .string x.atom.rel, a.v, .int .i64 x.op, .int .i64 x.l.op, .string x.l.t.x, .int .i64 x.l.t.v.k, .int .i64 x.l.t.v.n, .string x.l.t.v.s, p.v, .int .i64 x.r.op, .string x.r.t.x, .int .i64 x.r.t.v.k, .int .i64 x.r.t.v.n, .string x.r.t.v.s, q.v, .int .i64 x.pos] 63 (0, 0))) := fun W h => (h.block _ (Array.getElem?_eq_some_iff.1 hrb).1).trans hrb
  obtain ⟨f0_0, f0_1, f0_2, f0_3, f0_4, f0_5, f0_6, f0_7, f0_8, f0_9, f0_10, f0_11, f0_12, f0_13, f0_14, f0_15, f0_16⟩ := facts17 hrb
  by_cases hk12 : x.k = 1 ∨ x.k = 2
  · obtain ⟨P1, HP1⟩ : ∃ E, Hid (E = atomB x.atom) := ⟨_, rfl⟩
    obtain ⟨P2, HP2⟩ : ∃ E, Hid (E = noneE x.l) := ⟨_, rfl⟩
    obtain ⟨P3, HP3⟩ : ∃ E, Hid (E = noneE x.r) := ⟨_, rfl⟩
    have HE : Hid (B = (P1 && (decide (x.op = 0) && (P2 && P3)))) := by show _ = _; rw [HB.out, HP1.out, HP2.out, HP3.out]; unfold rightLit; rw [if_pos hk12]
    have C1 : Hid (∀ W, Below (w.alloc (.cells #[.int .i64 x.k, .string x.atom.rel, a.v, .int .i64 x.op, .int .i64 x.l.op, .string x.l.t.x, .int .i64 x.l.t.v.k, .int .i64 x.l.t.v.n, .string x.l.t.v.s, p.v, .int .i64 x.r.op, .string x.r.t.x, .int .i64 x.r.t.v.k, .int .i64 x.r.t.v.n, .string x.r.t.v.s, q.v, .int .i64 x.pos] 63)).heap.size (w.alloc (.cells #[.int .i64 x.k, .string x.atom.rel, a.v, .int .i64 x.op, .int .i64 x.l.op, .string x.l.t.x, .int .i64 x.l.t.v.k, .int .i64 x.l.t.v.n, .string x.l.t.v.s, p.v, .int .i64 x.r.op, .string x.r.t.x, .int .i64 x.r.t.v.k, .int .i64 x.r.t.v.n, .string x.r.t.v.s, q.v, .int .i64 x.pos] 63)) W → Calls Tryz.prog 33 #[.agg #[.string x.atom.rel, a.v]] W (RetBool P1 W)) := fun W h => by rw [HP1.out]; exact aright_any x.atom a W HH.out.rel (HH.out.args.keep h) (HW.out.on h)
    have C2 : Hid (∀ W, Below (w.alloc (.cells #[.int .i64 x.k, .string x.atom.rel, a.v, .int .i64 x.op, .int .i64 x.l.op, .string x.l.t.x, .int .i64 x.l.t.v.k, .int .i64 x.l.t.v.n, .string x.l.t.v.s, p.v, .int .i64 x.r.op, .string x.r.t.x, .int .i64 x.r.t.v.k, .int .i64 x.r.t.v.n, .string x.r.t.v.s, q.v, .int .i64 x.pos] 63)).heap.size (w.alloc (.cells #[.int .i64 x.k, .string x.atom.rel, a.v, .int .i64 x.op, .int .i64 x.l.op, .string x.l.t.x, .int .i64 x.l.t.v.k, .int .i64 x.l.t.v.n, .string x.l.t.v.s, p.v, .int .i64 x.r.op, .string x.r.t.x, .int .i64 x.r.t.v.k, .int .i64 x.r.t.v.n, .string x.r.t.v.s, q.v, .int .i64 x.pos] 63)) W → Calls Tryz.prog 38 #[.agg #[.int .i64 x.l.op, .string x.l.t.x, .int .i64 x.l.t.v.k, .int .i64 x.l.t.v.n, .string x.l.t.v.s, p.v]] W (RetBool P2 W)) := fun W h => by rw [HP2.out]; exact none_any x.l p.A p.n p.c W HH.out.lk.1 HH.out.lk.2.2.2.1
    have C3 : Hid (∀ W, Below (w.alloc (.cells #[.int .i64 x.k, .string x.atom.rel, a.v, .int .i64 x.op, .int .i64 x.l.op, .string x.l.t.x, .int .i64 x.l.t.v.k, .int .i64 x.l.t.v.n, .string x.l.t.v.s, p.v, .int .i64 x.r.op, .string x.r.t.x, .int .i64 x.r.t.v.k, .int .i64 x.r.t.v.n, .string x.r.t.v.s, q.v, .int .i64 x.pos] 63)).heap.size (w.alloc (.cells #[.int .i64 x.k, .string x.atom.rel, a.v, .int .i64 x.op, .int .i64 x.l.op, .string x.l.t.x, .int .i64 x.l.t.v.k, .int .i64 x.l.t.v.n, .string x.l.t.v.s, p.v, .int .i64 x.r.op, .string x.r.t.x, .int .i64 x.r.t.v.k, .int .i64 x.r.t.v.n, .string x.r.t.v.s, q.v, .int .i64 x.pos] 63)) W → Calls Tryz.prog 38 #[.agg #[.int .i64 x.r.op, .string x.r.t.x, .int .i64 x.r.t.v.k, .int .i64 x.r.t.v.n, .string x.r.t.v.s, q.v]] W (RetBool P3 W)) := fun W h => by rw [HP3.out]; exact none_any x.r q.A q.n q.c W HH.out.rk.1 HH.out.rk.2.2.2.1
    clear hrb HB HP1 HP2 HP3 HH HW Hla
    generalize hwb : (w.alloc (.cells #[.int .i64 x.k, .string x.atom.rel, a.v, .int .i64 x.op, .int .i64 x.l.op, .string x.l.t.x, .int .i64 x.l.t.v.k, .int .i64 x.l.t.v.n, .string x.l.t.v.s, p.v, .int .i64 x.r.op, .string x.r.t.x, .int .i64 x.r.t.v.k, .int .i64 x.r.t.v.n, .string x.r.t.v.s, q.v, .int .i64 x.pos] 63)) = wb at *
    have Hbw0 := Lib.hid (Below.refl wb.heap.size wb)
    by_cases ho : x.op = 0
    · have o0 : (x.op == 0) = true := by simp [ho]
      have HE2 : Hid (B = (P1 && (P2 && P3))) := by show _ = _; rw [HE.out, decide_eq_true ho]; rfl
      clear HE ho
      rcases hk12 with hk | hk
      · have k1 : (x.k == 1) = true := by simp [hk]
        clear hk
        go_enter Tryz.func17, Tryz.ntmps17
        go_wp2_with fail
        try simp only [hwb]
        go_wp2_with fail
        refine (C1.out _ Hbw0.out).mono ?_
        rintro e1 w1 ⟨rfl, hq1⟩
        have Hbw1 := Lib.hid (below_next Hbw0.out hq1)
        obtain ⟨f1_0, f1_1, f1_2, f1_3, f1_4, f1_5, f1_6, f1_7, f1_8, f1_9, f1_10, f1_11, f1_12, f1_13, f1_14, f1_15, f1_16⟩ := facts17 (Hrow.out _ Hbw1.out)
        clear hq1 f0_0 f0_1 f0_2 f0_3 f0_4 f0_5 f0_6 f0_7 f0_8 f0_9 f0_10 f0_11 f0_12 f0_13 f0_14 f0_15 f0_16
        cases P1 with
        | false =>
          go_wp2_with fail
          go_ret
          exact ⟨by rw [HE2.out]; rfl, below_next hba Hbw1.out⟩
        | true =>
          go_wp2_with fail
          refine (C2.out _ Hbw1.out).mono ?_
          rintro e2 w2 ⟨rfl, hq2⟩
          have Hbw2 := Lib.hid (below_next Hbw1.out hq2)
          obtain ⟨f2_0, f2_1, f2_2, f2_3, f2_4, f2_5, f2_6, f2_7, f2_8, f2_9, f2_10, f2_11, f2_12, f2_13, f2_14, f2_15, f2_16⟩ := facts17 (Hrow.out _ Hbw2.out)
          clear hq2 f1_0 f1_1 f1_2 f1_3 f1_4 f1_5 f1_6 f1_7 f1_8 f1_9 f1_10 f1_11 f1_12 f1_13 f1_14 f1_15 f1_16
          cases P2 with
          | false =>
            go_wp2_with fail
            go_ret
            exact ⟨by rw [HE2.out]; rfl, below_next hba Hbw2.out⟩
          | true =>
            go_wp2_with fail
            refine (C3.out _ Hbw2.out).mono ?_
            rintro e3 w3 ⟨rfl, hq3⟩
            have Hbw3 := Lib.hid (below_next Hbw2.out hq3)
            obtain ⟨f3_0, f3_1, f3_2, f3_3, f3_4, f3_5, f3_6, f3_7, f3_8, f3_9, f3_10, f3_11, f3_12, f3_13, f3_14, f3_15, f3_16⟩ := facts17 (Hrow.out _ Hbw3.out)
            clear hq3 f2_0 f2_1 f2_2 f2_3 f2_4 f2_5 f2_6 f2_7 f2_8 f2_9 f2_10 f2_11 f2_12 f2_13 f2_14 f2_15 f2_16
            cases P3 <;>
            · go_wp2_with fail
              go_ret
              exact ⟨by rw [HE2.out]; rfl, below_next hba Hbw3.out⟩
      · have k1 : (x.k == 1) = false := by simp [hk]
        have k2 : (x.k == 2) = true := by simp [hk]
        clear hk
        go_enter Tryz.func17, Tryz.ntmps17
        go_wp2_with fail
        try simp only [hwb]
        go_wp2_with fail
        refine (C1.out _ Hbw0.out).mono ?_
        rintro e1 w1 ⟨rfl, hq1⟩
        have Hbw1 := Lib.hid (below_next Hbw0.out hq1)
        obtain ⟨f1_0, f1_1, f1_2, f1_3, f1_4, f1_5, f1_6, f1_7, f1_8, f1_9, f1_10, f1_11, f1_12, f1_13, f1_14, f1_15, f1_16⟩ := facts17 (Hrow.out _ Hbw1.out)
        clear hq1 f0_0 f0_1 f0_2 f0_3 f0_4 f0_5 f0_6 f0_7 f0_8 f0_9 f0_10 f0_11 f0_12 f0_13 f0_14 f0_15 f0_16
        cases P1 with
        | false =>
          go_wp2_with fail
          go_ret
          exact ⟨by rw [HE2.out]; rfl, below_next hba Hbw1.out⟩
        | true =>
          go_wp2_with fail
          refine (C2.out _ Hbw1.out).mono ?_
          rintro e2 w2 ⟨rfl, hq2⟩
          have Hbw2 := Lib.hid (below_next Hbw1.out hq2)
          obtain ⟨f2_0, f2_1, f2_2, f2_3, f2_4, f2_5, f2_6, f2_7, f2_8, f2_9, f2_10, f2_11, f2_12, f2_13, f2_14, f2_15, f2_16⟩ := facts17 (Hrow.out _ Hbw2.out)
          clear hq2 f1_0 f1_1 f1_2 f1_3 f1_4 f1_5 f1_6 f1_7 f1_8 f1_9 f1_10 f1_11 f1_12 f1_13 f1_14 f1_15 f1_16
          cases P2 with
          | false =>
            go_wp2_with fail
            go_ret
            exact ⟨by rw [HE2.out]; rfl, below_next hba Hbw2.out⟩
          | true =>
            go_wp2_with fail
            refine (C3.out _ Hbw2.out).mono ?_
            rintro e3 w3 ⟨rfl, hq3⟩
            have Hbw3 := Lib.hid (below_next Hbw2.out hq3)
            obtain ⟨f3_0, f3_1, f3_2, f3_3, f3_4, f3_5, f3_6, f3_7, f3_8, f3_9, f3_10, f3_11, f3_12, f3_13, f3_14, f3_15, f3_16⟩ := facts17 (Hrow.out _ Hbw3.out)
            clear hq3 f2_0 f2_1 f2_2 f2_3 f2_4 f2_5 f2_6 f2_7 f2_8 f2_9 f2_10 f2_11 f2_12 f2_13 f2_14 f2_15 f2_16
            cases P3 <;>
            · go_wp2_with fail
              go_ret
              exact ⟨by rw [HE2.out]; rfl, below_next hba Hbw3.out⟩
    · have o0 : (x.op == 0) = false := by simp [ho]
      have HE2 : Hid (B = false) := by show _ = _; rw [HE.out, decide_eq_false ho]; simp
      clear HE ho C2 C3
      rcases hk12 with hk | hk
      · have k1 : (x.k == 1) = true := by simp [hk]
        clear hk
        go_enter Tryz.func17, Tryz.ntmps17
        go_wp2_with fail
        try simp only [hwb]
        go_wp2_with fail
        refine (C1.out _ Hbw0.out).mono ?_
        rintro e1 w1 ⟨rfl, hq1⟩
        have Hbw1 := Lib.hid (below_next Hbw0.out hq1)
        obtain ⟨f1_0, f1_1, f1_2, f1_3, f1_4, f1_5, f1_6, f1_7, f1_8, f1_9, f1_10, f1_11, f1_12, f1_13, f1_14, f1_15, f1_16⟩ := facts17 (Hrow.out _ Hbw1.out)
        clear hq1 f0_0 f0_1 f0_2 f0_3 f0_4 f0_5 f0_6 f0_7 f0_8 f0_9 f0_10 f0_11 f0_12 f0_13 f0_14 f0_15 f0_16
        cases P1 <;>
        · go_wp2_with fail
          go_ret
          exact ⟨by rw [HE2.out]; rfl, below_next hba Hbw1.out⟩
      · have k1 : (x.k == 1) = false := by simp [hk]
        have k2 : (x.k == 2) = true := by simp [hk]
        clear hk
        go_enter Tryz.func17, Tryz.ntmps17
        go_wp2_with fail
        try simp only [hwb]
        go_wp2_with fail
        refine (C1.out _ Hbw0.out).mono ?_
        rintro e1 w1 ⟨rfl, hq1⟩
        have Hbw1 := Lib.hid (below_next Hbw0.out hq1)
        obtain ⟨f1_0, f1_1, f1_2, f1_3, f1_4, f1_5, f1_6, f1_7, f1_8, f1_9, f1_10, f1_11, f1_12, f1_13, f1_14, f1_15, f1_16⟩ := facts17 (Hrow.out _ Hbw1.out)
        clear hq1 f0_0 f0_1 f0_2 f0_3 f0_4 f0_5 f0_6 f0_7 f0_8 f0_9 f0_10 f0_11 f0_12 f0_13 f0_14 f0_15 f0_16
        cases P1 <;>
        · go_wp2_with fail
          go_ret
          exact ⟨by rw [HE2.out]; rfl, below_next hba Hbw1.out⟩
  have k1 : (x.k == 1) = false := by simp; omega
  have k2 : (x.k == 2) = false := by simp; omega
  by_cases hk3 : x.k = 3
  rotate_left
  · have k3 : (x.k == 3) = false := by simp [hk3]
    have HE2 : Hid (B = false) := by show _ = _; rw [HB.out]; simp [rightLit, hk12, hk3]
    clear hk3 hk12 HB HH HW Hrow hrb Hla
    go_enter Tryz.func17, Tryz.ntmps17
    go_wp2_with fail
    go_ret
    exact ⟨by rw [HE2.out]; rfl, belowA (Below.refl _ _) _⟩
  have k3 : (x.k == 3) = true := by simp [hk3]
  have HE : Hid (B = (cmpB2 x && (rightE 20 x.l && rightE 20 x.r))) := by show _ = _; rw [HB.out]; simp [rightLit, hk12, hk3]
  by_cases hc : cmpB2 x = true
  rotate_left
  · have HE2 : Hid (B = false) := by show _ = _; rw [HE.out]; simp [hc]
    have hc' : (¬ x.atom.rel.toList = []) ∨ (x.atom.rel.toList = [] ∧ ¬ (a.n : Int) = 0) ∨ (x.atom.rel.toList = [] ∧ (a.n : Int) = 0 ∧ x.op < 1) ∨ (x.atom.rel.toList = [] ∧ (a.n : Int) = 0 ∧ ¬ x.op < 1 ∧ 6 < x.op) := by
      have h1 := Hla.out
      have h2 := @str_empty x.atom.rel
      unfold cmpB2 at hc
      by_cases g1 : x.atom.rel.size = 0
      · have g2 := h2.2 g1
        by_cases g3 : a.n = 0
        · by_cases g4 : x.op < 1
          · exact .inr (.inr (.inl ⟨g2, by omega, g4⟩))
          · by_cases g5 : 6 < x.op
            · exact .inr (.inr (.inr ⟨g2, by omega, g4, g5⟩))
            · exfalso
              apply hc
              have : 1 ≤ x.op := by omega
              have : x.op ≤ 6 := by omega
              have : x.atom.args.length = 0 := by omega
              simp [*]
        · exact .inr (.inl ⟨g2, by omega⟩)
      · exact .inl (fun h => g1 (h2.1 h))
    clear hk3 hk12 HB HH HW Hrow hrb hc HE
    rcases hc' with h | ⟨g0, h⟩ | ⟨g0, g1, h⟩ | ⟨g0, g1, g2, h⟩ <;>
    · go_enter Tryz.func17, Tryz.ntmps17
      go_wp2_with fail
      go_ret
      exact ⟨by rw [HE2.out]; rfl, belowA (Below.refl _ _) _⟩
  have hc' : x.atom.rel.toList = [] ∧ a.n = 0 ∧ 1 ≤ x.op ∧ x.op ≤ 6 := by
    have h1 := Hla.out
    simp only [cmpB2, Bool.and_eq_true, decide_eq_true_eq] at hc
    exact ⟨str_empty.2 hc.1.1, by omega, hc.2.1, hc.2.2⟩
  obtain ⟨g0, hg1, g2, g3⟩ := hc'
  have g1 : (a.n : Int) = 0 := by omega
  obtain ⟨P1, HP1⟩ : ∃ E, Hid (E = rightE 20 x.l) := ⟨_, rfl⟩
  obtain ⟨P2, HP2⟩ : ∃ E, Hid (E = rightE 20 x.r) := ⟨_, rfl⟩
  have HE2 : Hid (B = (P1 && P2)) := by show _ = _; rw [HE.out, hc, HP1.out, HP2.out]; rfl
  have C1 : Hid (∀ W, Below (w.alloc (.cells #[.int .i64 x.k, .string x.atom.rel, a.v, .int .i64 x.op, .int .i64 x.l.op, .string x.l.t.x, .int .i64 x.l.t.v.k, .int .i64 x.l.t.v.n, .string x.l.t.v.s, p.v, .int .i64 x.r.op, .string x.r.t.x, .int .i64 x.r.t.v.k, .int .i64 x.r.t.v.n, .string x.r.t.v.s, q.v, .int .i64 x.pos] 63)).heap.size (w.alloc (.cells #[.int .i64 x.k, .string x.atom.rel, a.v, .int .i64 x.op, .int .i64 x.l.op, .string x.l.t.x, .int .i64 x.l.t.v.k, .int .i64 x.l.t.v.n, .string x.l.t.v.s, p.v, .int .i64 x.r.op, .string x.r.t.x, .int .i64 x.r.t.v.k, .int .i64 x.r.t.v.n, .string x.r.t.v.s, q.v, .int .i64 x.pos] 63)) W → Calls Tryz.prog 39 #[.agg #[.int .i64 x.l.op, .string x.l.t.x, .int .i64 x.l.t.v.k, .int .i64 x.l.t.v.n, .string x.l.t.v.s, p.v]] W (RetBool P1 W)) := fun W h => by rw [HP1.out]; exact rightExp_any x.l p.A p.n p.c d W (HH.out.lk.keep h) HH.out.lx (HW.out.on h)
  have C2 : Hid (∀ W, Below (w.alloc (.cells #[.int .i64 x.k, .string x.atom.rel, a.v, .int .i64 x.op, .int .i64 x.l.op, .string x.l.t.x, .int .i64 x.l.t.v.k, .int .i64 x.l.t.v.n, .string x.l.t.v.s, p.v, .int .i64 x.r.op, .string x.r.t.x, .int .i64 x.r.t.v.k, .int .i64 x.r.t.v.n, .string x.r.t.v.s, q.v, .int .i64 x.pos] 63)).heap.size (w.alloc (.cells #[.int .i64 x.k, .string x.atom.rel, a.v, .int .i64 x.op, .int .i64 x.l.op, .string x.l.t.x, .int .i64 x.l.t.v.k, .int .i64 x.l.t.v.n, .string x.l.t.v.s, p.v, .int .i64 x.r.op, .string x.r.t.x, .int .i64 x.r.t.v.k, .int .i64 x.r.t.v.n, .string x.r.t.v.s, q.v, .int .i64 x.pos] 63)) W → Calls Tryz.prog 39 #[.agg #[.int .i64 x.r.op, .string x.r.t.x, .int .i64 x.r.t.v.k, .int .i64 x.r.t.v.n, .string x.r.t.v.s, q.v]] W (RetBool P2 W)) := fun W h => by rw [HP2.out]; exact rightExp_any x.r q.A q.n q.c d W (HH.out.rk.keep h) HH.out.rx (HW.out.on h)
  clear hrb HB HP1 HP2 HH HW Hla hc HE hk3 hk12 hg1
  generalize hwb : (w.alloc (.cells #[.int .i64 x.k, .string x.atom.rel, a.v, .int .i64 x.op, .int .i64 x.l.op, .string x.l.t.x, .int .i64 x.l.t.v.k, .int .i64 x.l.t.v.n, .string x.l.t.v.s, p.v, .int .i64 x.r.op, .string x.r.t.x, .int .i64 x.r.t.v.k, .int .i64 x.r.t.v.n, .string x.r.t.v.s, q.v, .int .i64 x.pos] 63)) = wb at *
  have Hbw0 := Lib.hid (Below.refl wb.heap.size wb)
  go_enter Tryz.func17, Tryz.ntmps17
  go_wp2_with fail
  try simp only [hwb]
  go_wp2_with fail
  refine (C1.out _ Hbw0.out).mono ?_
  rintro e1 w1 ⟨rfl, hq1⟩
  have Hbw1 := Lib.hid (below_next Hbw0.out hq1)
  obtain ⟨f1_0, f1_1, f1_2, f1_3, f1_4, f1_5, f1_6, f1_7, f1_8, f1_9, f1_10, f1_11, f1_12, f1_13, f1_14, f1_15, f1_16⟩ := facts17 (Hrow.out _ Hbw1.out)
  clear hq1 f0_0 f0_1 f0_2 f0_3 f0_4 f0_5 f0_6 f0_7 f0_8 f0_9 f0_10 f0_11 f0_12 f0_13 f0_14 f0_15 f0_16
  cases P1 with
  | false =>
    go_wp2_with fail
    go_ret
    exact ⟨by rw [HE2.out]; rfl, below_next hba Hbw1.out⟩
  | true =>
    go_wp2_with fail
    refine (C2.out _ Hbw1.out).mono ?_
    rintro e2 w2 ⟨rfl, hq2⟩
    have Hbw2 := Lib.hid (below_next Hbw1.out hq2)
    obtain ⟨f2_0, f2_1, f2_2, f2_3, f2_4, f2_5, f2_6, f2_7, f2_8, f2_9, f2_10, f2_11, f2_12, f2_13, f2_14, f2_15, f2_16⟩ := facts17 (Hrow.out _ Hbw2.out)
    clear hq2 f1_0 f1_1 f1_2 f1_3 f1_4 f1_5 f1_6 f1_7 f1_8 f1_9 f1_10 f1_11 f1_12 f1_13 f1_14 f1_15 f1_16
    cases P2 <;>
    · go_wp2_with fail
      go_ret
      exact ⟨by rw [HE2.out]; rfl, below_next hba Hbw2.out⟩
end Go.Proofs.YtiffmiabhapfnaaGreatDoor

/- The document's RightExp, zero, RightAtom. -/
namespace Go.Proofs.YtiffmiabhapfnaaGreatDoor
open Go.RowKit

abbrev exp5 (e : GExp) (A : Option Addr) (n c : Nat) : Value := .agg #[.int .i64 e.op, .string e.t.x, .int .i64 e.t.v.k, .int .i64 e.t.v.n, .string e.t.v.s, .slice A n c]
set_option maxRecDepth 100000 in
set_option maxHeartbeats 4000000 in
theorem refRightE_any : ∀ (k : Nat) (e : GExp) (A : Option Addr) (n c d : Nat) (w : World), k ≤ 20 → SliceIs (Enc.exp d) w w.heap.size A n c e.kids → e.t.v.ok →
    Calls Tryz.prog 109 #[exp5 e A n c, .int .i64 (k : Int)] w (RetBool (rightE k e) w) := by
  intro k
  induction k using Nat.strongRecOn with
  | ind k ih =>
    intro e A n c d w hk20 hk hv
    have IH := Lib.hid ih
    have hn := hk.bound
    have HK := Lib.hid hk
    have Hlen := Lib.hid hk.1
    have hrb : (w.alloc (.cells #[.int .i64 e.op, .string e.t.x, .int .i64 e.t.v.k, .int .i64 e.t.v.n, .string e.t.v.s, .slice A n c] 37)).heap[w.heap.size]? = some (.cells #[.int .i64 e.op, .string e.t.x, .int .i64 e.t.v.k, .int .i64 e.t.v.n, .string e.t.v.s, .slice A n c] 37 (0, 0)) := heapNew rfl
    have hba : Below w.heap.size w (w.alloc (.cells #[.int .i64 e.op, .string e.t.x, .int .i64 e.t.v.k, .int .i64 e.t.v.n, .string e.t.v.s, .slice A n c] 37)) := belowA (Below.refl _ _) _
    obtain ⟨P, HP⟩ : ∃ P, Hid (P = RetBool (rightE k e) w) := ⟨_, rfl⟩
    rw [← HP.out]
    have HBad : Hid (rightE k e = false → ∀ w', Below w.heap.size w w' → P (.returned (.bool false)) w') := fun h w' hb => by rw [HP.out, h]; exact ⟨rfl, hb⟩
    obtain ⟨b0, b1, b2, b3, b4, b5⟩ := facts6 hrb
    have Hlt := Lib.hid (Array.getElem?_eq_some_iff.1 hrb).1
    have HR := Lib.hid (refTright_any e.t hv (w.alloc (.cells #[.int .i64 e.op, .string e.t.x, .int .i64 e.t.v.k, .int .i64 e.t.v.n, .string e.t.v.s, .slice A n c] 37)))
    clear hk hv ih
    by_cases h0 : e.op = 0
    · have q0 : (e.op == 0) = true := by simp [h0]
      have HL : Hid (rightE k e = (e.kids.isEmpty && rightT e.t)) := rightE_leaf h0
      by_cases hn0 : n = 0
      · have q2 : ((n : Int) == 0) = true := by simp [hn0]
        have hke : e.kids.isEmpty = true := by have := Hlen.out; simp; exact List.eq_nil_of_length_eq_zero (by omega)
        have HG : Hid (∀ w', Below w.heap.size w w' → P (.returned (.bool (rightT e.t))) w') := fun w' hb => by rw [HP.out, HL.out, hke]; exact ⟨rfl, hb⟩
        clear HP hke h0 hn0 HL HBad HK
        generalize hwb : (w.alloc (.cells #[.int .i64 e.op, .string e.t.x, .int .i64 e.t.v.k, .int .i64 e.t.v.n, .string e.t.v.s, .slice A n c] 37)) = wb at *
        go_enter Tryz.func109, Tryz.ntmps109
        go_wp2_with fail
        try simp only [hwb]
        go_wp2_with fail
        refine HR.out.mono ?_
        rintro e1 w1 ⟨rfl, hb⟩
        have Hb := Lib.hid hb
        clear hb
        generalize rightT e.t = bb at *
        cases bb <;>
        · go_wp2_with fail
          first | exact HG.out _ (below_next hba Hb.out) | (go_ret; exact HG.out _ (below_next hba Hb.out))
      · have q2 : ((n : Int) == 0) = false := by rw [beq_eq_false_iff_ne]; omega
        have hke : e.kids.isEmpty = false := by
          have := Hlen.out
          cases h : e.kids with
          | nil => rw [h] at this; simp at this; omega
          | cons a l => rfl
        have HG : Hid (∀ w', Below w.heap.size w w' → P (.returned (.bool false)) w') := HBad.out (by rw [HL.out, hke]; simp)
        clear HP hke h0 hn0 HL HBad HK HR
        go_enter Tryz.func109, Tryz.ntmps109
        go_wp2_with fail
        first | exact HG.out _ hba | (go_ret; exact HG.out _ hba)
    · have q0 : (e.op == 0) = false := by simp [h0]
      by_cases hk0 : k = 0
      · have HG : Hid (∀ w', Below w.heap.size w w' → P (.returned (.bool false)) w') := HBad.out (by subst hk0; exact rightE_flat h0)
        have k1 : ¬ (0 : Int) < (k : Int) := by omega
        clear HP h0 HBad HK HR hk0
        go_enter Tryz.func109, Tryz.ntmps109
        go_wp2_with fail
        first | exact HG.out _ hba | (go_ret; exact HG.out _ hba)
      have k1 : (0 : Int) < (k : Int) := by omega
      by_cases h1 : e.op < 1
      · have h1' : ¬ 1 ≤ e.op := by omega
        have HG : Hid (∀ w', Below w.heap.size w w' → P (.returned (.bool false)) w') := HBad.out (rightE_bad h0 (opE_lo (by omega)))
        clear HP h0 HBad HK HR hk0 h1
        go_enter Tryz.func109, Tryz.ntmps109
        go_wp2_with fail
        first | exact HG.out _ hba | (go_ret; exact HG.out _ hba)
      have h1' : 1 ≤ e.op := by omega
      by_cases h3 : 3 < e.op
      · have h3' : ¬ e.op ≤ 3 := by omega
        have HG : Hid (∀ w', Below w.heap.size w w' → P (.returned (.bool false)) w') := HBad.out (rightE_bad h0 (opE_hi (by omega)))
        clear HP h0 HBad HK HR hk0 h1 h3
        go_enter Tryz.func109, Tryz.ntmps109
        go_wp2_with fail
        first | exact HG.out _ hba | (go_ret; exact HG.out _ hba)
      have h3' : e.op ≤ 3 := by omega
      by_cases hn2 : n = 2
      rotate_left
      · have q2 : ((n : Int) == 2) = false := by rw [beq_eq_false_iff_ne]; omega
        have HG : Hid (∀ w', Below w.heap.size w w' → P (.returned (.bool false)) w') := HBad.out (rightE_kids h0 (by have := Hlen.out; omega))
        clear HP h0 HBad HK HR hk0 h1 h3 hn2
        go_enter Tryz.func109, Tryz.ntmps109
        go_wp2_with fail
        first | exact HG.out _ hba | (go_ret; exact HG.out _ hba)
      subst hn2
      have q2 : (((2 : Nat) : Int) == 2) = true := by decide
      by_cases hz : e.t = zT
      rotate_left
      · have HG : Hid (∀ w', Below w.heap.size w w' → P (.returned (.bool false)) w') := HBad.out (rightE_bad h0 (by simp [opE, hz]))
        rcases told_not_zero hz with hz | ⟨z0, hz⟩ | ⟨z0, z1, hz⟩ | ⟨z0, z1, z2, hz⟩ <;>
        · clear HP h0 HBad HK HR hk0 h1 h3
          go_enter Tryz.func109, Tryz.ntmps109
          go_wp2_with fail
          first | exact HG.out _ (belowA (Below.refl _ _) _) | (go_ret; exact HG.out _ (belowA (Below.refl _ _) _))
      obtain ⟨z0, z1, z2, z3⟩ := told_zero.1 hz
      obtain ⟨b, o, ka, Aa, na, ca, da, hA, hb, hka, hda, x0, x1, x2, x3, x4, x5, -, -, fa, hkka⟩ := HK.out.exp_at (i := 0) (by omega)
      obtain ⟨b', o', kb, Ab, nb, cb, db, hA', hb', hkb, hdb, y0, y1, y2, y3, y4, y5, -, -, fb, hkkb⟩ := HK.out.exp_at (i := 1) (by omega)
      subst hA
      injection hA' with hA'
      injection hA' with h4 h5 _
      subst h4 h5
      simp only [Nat.zero_mul, Nat.add_zero] at x0 x1 x2 x3 x4 x5
      simp only [Nat.one_mul] at y0 y1 y2 y3 y4 y5
      have hop : opE e = true := by simp [opE, h1', h3', hz]
      obtain ⟨k', rfl⟩ : ∃ k', k = k' + 1 := ⟨k - 1, by omega⟩
      have hkids : e.kids = [ka, kb] := by
        have h9 := Hlen.out
        match hq : e.kids, h9 with
        | [u, v], _ =>
          have e1 := hka.out; have e2 := hkb.out
          rw [hq] at e1 e2
          simp at e1 e2
          rw [e1, e2]
      have HV : Hid (rightE (k' + 1) e = (rightE k' ka && rightE k' kb)) := rightE_two h0 hop hkids
      have kk : ((k' + 1 : Nat) : Int) - 1 = (k' : Int) := by omega
      have kk2 : wrap64 (((k' : Int) + 1) - 1) = (k' : Int) := by unfold wrap64; omega
      have HCa := Lib.hid (fun (W : World) (hb : Below w.heap.size w W) => IH.out k' (by omega) ka Aa na ca da W (by omega) (hkka.keep hb) fa)
      have HCb := Lib.hid (fun (W : World) (hb : Below w.heap.size w W) => IH.out k' (by omega) kb Ab nb cb db W (by omega) (hkkb.keep hb) fb)
      have HKe := Lib.hid (fun (W : World) (hb : Below w.heap.size w W) => And.intro (below_cell hb y0) (And.intro (below_cell hb y1) (And.intro (below_cell hb y2) (And.intro (below_cell hb y3) (And.intro (below_cell hb y4) (below_cell hb y5))))))
      have HG1 : Hid (rightE k' ka = false → ∀ w', Below w.heap.size w w' → P (.returned (.bool false)) w') := fun h => HBad.out (by rw [HV.out, h]; rfl)
      have HG2 : Hid (rightE k' ka = true → ∀ w', Below w.heap.size w w' → P (.returned (.bool (rightE k' kb))) w') := fun h w' hb => by rw [HP.out, HV.out, h]; exact ⟨rfl, hb⟩
      clear h0 h1 h3 hz hop hkids HK HBad HP hka hkb hda hdb hkka hkkb hk0 HR IH HV y0 y1 y2 y3 y4 y5
      go_enter Tryz.func109, Tryz.ntmps109
      go_wp2_with fail
      generalize hwv : w.alloc _ = wv
      have hbv : Below w.heap.size w wv := by rw [← hwv]; exact belowA (Below.refl _ _) _
      have hgv : wv.heap[w.heap.size]? = some (.cells #[.int .i64 e.op, .string e.t.x, .int .i64 0, .int .i64 0, .string e.t.v.s, .slice (some ⟨b, o, none⟩) 2 c] 37 (0, 0)) := by rw [← hwv]; exact heapNew rfl
      refine (HCa.out wv hbv).mono ?_
      rintro e1 w1 ⟨rfl, hb1⟩
      have hbw1 := below_next hbv hb1
      obtain ⟨y0, y1, y2, y3, y4, y5⟩ := HKe.out w1 hbw1
      have HC2 := Lib.hid (HCb.out w1 hbw1)
      have Hb1 := Lib.hid hbw1
      have hg := (hb1.block _ (Array.getElem?_eq_some_iff.1 hgv).1).trans hgv
      clear b0 b1 b2 b3 b4 b5 x0 x1 x2 x3 x4 x5 HCa HCb HKe hb1 hrb hba hwv hgv hbw1 hbv
      obtain ⟨b0, b1, b2, b3, b4, b5⟩ := facts6 hg
      cases hr : rightE k' ka with
      | false =>
        have HG3 := Lib.hid (HG1.out hr)
        clear HG1 HG2 hr
        go_wp2_with fail
        first | exact HG3.out _ Hb1.out | (go_ret; exact HG3.out _ Hb1.out)
      | true =>
        have HG3 := Lib.hid (HG2.out hr)
        clear HG1 HG2 hr
        go_wp2_with fail
        refine HC2.out.mono ?_
        rintro e1 w2 ⟨rfl, hb2⟩
        have Hb2 := Lib.hid (below_next Hb1.out hb2)
        clear hb2
        generalize rightE k' kb = bb at *
        cases bb <;>
        · go_wp2_with fail
          first | exact HG3.out _ Hb2.out | (go_ret; exact HG3.out _ Hb2.out)
theorem refRightExp_any (e : GExp) (A : Option Addr) (n c d : Nat) (w : World) (hk : SliceIs (Enc.exp d) w w.heap.size A n c e.kids) (hv : e.t.v.ok) :
    Calls Tryz.prog 93 #[exp5 e A n c] w (RetBool (rightE 20 e) w) := by
  have hrb : (w.alloc (.cells #[.int .i64 e.op, .string e.t.x, .int .i64 e.t.v.k, .int .i64 e.t.v.n, .string e.t.v.s, .slice A n c] 37)).heap[w.heap.size]? = some (.cells #[.int .i64 e.op, .string e.t.x, .int .i64 e.t.v.k, .int .i64 e.t.v.n, .string e.t.v.s, .slice A n c] 37 (0, 0)) := heapNew rfl
  have hba : Below w.heap.size w (w.alloc (.cells #[.int .i64 e.op, .string e.t.x, .int .i64 e.t.v.k, .int .i64 e.t.v.n, .string e.t.v.s, .slice A n c] 37)) := belowA (Below.refl _ _) _
  obtain ⟨b0, b1, b2, b3, b4, b5⟩ := facts6 hrb
  have HC := Lib.hid (refRightE_any 20 e A n c d _ (by decide) (hk.keep hba) hv)
  clear hrb
  go_enter Tryz.func93, Tryz.ntmps93
  go_wp2_with fail
  refine HC.out.mono ?_
  rintro r w1 ⟨rfl, hb⟩
  go_wp2_with fail
  go_ret
  exact ⟨rfl, below_next hba hb⟩
set_option maxRecDepth 100000 in
set_option maxHeartbeats 1000000 in
theorem refZero_any (e : GExp) (A : Option Addr) (n c : Nat) (w : World) (hn : e.kids.length = n) (hn2 : n ≤ reachN) :
    Calls Tryz.prog 92 #[exp5 e A n c] w (RetBool (noneE e) w) := by
  have hn3 : n ≤ 140737488351232 := hn2
  have Hn := Lib.hid hn
  obtain ⟨B, HB⟩ : ∃ B, Hid (B = noneE e) := ⟨_, rfl⟩
  rw [← HB.out]
  clear hn hn2
  by_cases h0 : e.op = 0
  rotate_left
  · have q0 : (e.op == 0) = false := by simp [h0]
    have HE : Hid (B = false) := by show _ = _; rw [HB.out]; simp [noneE, h0]
    clear h0 HB
    go_enter Tryz.func92, Tryz.ntmps92
    go_wp2_with fail
    go_ret
    exact ⟨by rw [HE.out]; rfl, belowA (Below.refl _ _) _⟩
  have q0 : (e.op == 0) = true := by simp [h0]
  by_cases hk : n = 0
  rotate_left
  · have q2 : ((n : Int) == 0) = false := by rw [beq_eq_false_iff_ne]; omega
    have HE : Hid (B = false) := by show _ = _; rw [HB.out]; simp [noneE, h0]; intro _ h; have := Hn.out; rw [h] at this; simp at this; omega
    clear h0 HB hk
    go_enter Tryz.func92, Tryz.ntmps92
    go_wp2_with fail
    go_ret
    exact ⟨by rw [HE.out]; rfl, belowA (Below.refl _ _) _⟩
  have q2 : ((n : Int) == 0) = true := by simp [hk]
  have hke : e.kids = [] := List.eq_nil_of_length_eq_zero (by have := Hn.out; omega)
  by_cases hz : e.t = zT
  rotate_left
  · have HE : Hid (B = false) := by show _ = _; rw [HB.out]; simp [noneE, hz]
    rcases told_not_zero hz with hz | ⟨z0, hz⟩ | ⟨z0, z1, hz⟩ | ⟨z0, z1, z2, hz⟩ <;>
    · clear h0 HB hk hke
      go_enter Tryz.func92, Tryz.ntmps92
      go_wp2_with fail
      go_ret
      exact ⟨by rw [HE.out]; rfl, belowA (Below.refl _ _) _⟩
  obtain ⟨z0, z1, z2, z3⟩ := told_zero.1 hz
  have HE : Hid (B = true) := by show _ = _; rw [HB.out]; simp [noneE, h0, hz, hke]
  clear h0 HB hz hk hke
  go_enter Tryz.func92, Tryz.ntmps92
  go_wp2_with fail
  go_ret
  exact ⟨by rw [HE.out]; rfl, belowA (Below.refl _ _) _⟩

theorem all_take {α : Type} {l : List α} {p : α → Bool} {k : Nat} {x : α} (hx : l[k]? = some x) : (l.take (k + 1)).all p = ((l.take k).all p && p x) := by
  rw [List.take_add_one, hx]; simp
theorem all_false {α : Type} {l : List α} {p : α → Bool} {k : Nat} {x : α} (hx : l[k]? = some x) (h : p x = false) : l.all p = false := by
  cases hl : l.all p
  · rfl
  · rw [List.all_eq_true.1 hl x (List.mem_of_getElem? hx)] at h; cases h
set_option maxRecDepth 100000 in
set_option maxHeartbeats 2000000 in
theorem refRightAtom_any (x : GAtom) (a : Hd) (w : World) (hl : SliceIs Enc.told w w.heap.size a.A a.n a.c x.args) : Calls Tryz.prog 68 #[.agg #[.string x.rel, a.v]] w (RetBool (atomB x) w) := by
  obtain ⟨A, n, c⟩ := a
  obtain ⟨P, HP⟩ : ∃ P, Hid (P = RetBool (atomB x) w) := ⟨_, rfl⟩
  have HBad : Hid ((x.args.length ≤ 6 → x.args.all rightT = false) → ∀ w', Below w.heap.size w w' → P (.returned (.bool false)) w') := fun h w' hb => by
    rw [HP.out]
    refine ⟨?_, hb⟩
    have : atomB x = false := by
      unfold atomB
      by_cases h6 : x.args.length ≤ 6
      · rw [h h6]; simp
      · simp [h6]
    rw [this]
  have HGood : Hid (x.args.length ≤ 6 → x.args.all rightT = true → ∀ w', Below w.heap.size w w' → P (.returned (.bool (singleB 2 x.rel))) w') := fun h1 h2 w' hb => by
    rw [HP.out]
    refine ⟨?_, hb⟩
    unfold atomB
    rw [h2]; simp [h1]
  rw [← HP.out]
  have hn := hl.bound
  have HL := Lib.hid hl
  have Hlen := Lib.hid hl.1
  have HN := Lib.hid (fun W => refNamed_any x.rel W)
  have HT := Lib.hid (fun (t : GTold) (ht : t.v.ok) W => refTright_any t ht W)
  have hrb : (w.alloc (.cells #[.string x.rel, .slice A n c] 100)).heap[w.heap.size]? = some (.cells #[.string x.rel, .slice A n c] 100 (0, 0)) := heapNew rfl
  have hba : Below w.heap.size w (w.alloc (.cells #[.string x.rel, .slice A n c] 100)) := belowA (Below.refl _ _) _
  dsimp only [Hd.v]
  clear hl HP
  go_enter Tryz.func68, Tryz.ntmps68
  go_wp2_with fail
  go_loopw [3] (fun i wr => ∃ k : Nat, k ≤ n ∧ i = .int .i64 k ∧ k ≤ 6 ∧ Hid ((x.args.take k).all rightT = true) ∧ wr.heap[w.heap.size]? = some (.cells #[.string x.rel, .slice A n c] 100 (0, 0)) ∧ Below w.heap.size w wr) (fun i _ => n - (intOf i).toNat)
  case atStart => exact ⟨0, by omega, rfl, by omega, by show _ = _; simp, hrb, hba⟩
  case round =>
    obtain ⟨k, hk, rfl, hk6, HA, hg, hbr⟩ := hrel
    clear hrb hba
    have i0 : (0 : Int) ≤ (k : Int) := by omega
    obtain ⟨b0, b1⟩ := facts2 hg
    by_cases hlt : k < n
    · have i1 : (k : Int) < (n : Int) := by omega
      by_cases h5 : 5 < k
      · have h5' : (5 : Int) < (k : Int) := by omega
        have HG := Lib.hid (HBad.out (fun h => by have := Hlen.out; omega))
        have HBr := Lib.hid hbr
        clear hbr HBad HGood HA
        go_wp2_with fail
        first | exact HG.out _ HBr.out | (go_ret; exact HG.out _ HBr.out)
      have h5' : ¬ (5 : Int) < (k : Int) := by omega
      obtain ⟨b, o, t, rfl, hb, ht, x0, x1, x2, x3, f1, f2⟩ := (HL.out.below hbr).told_at hlt
      have HC := Lib.hid (HT.out t f2 wr)
      have HTk : Hid ((x.args.take (k + 1)).all rightT = rightT t) := by show _ = _; rw [all_take ht.out, HA.out]; rfl
      have HTb : Hid (rightT t = false → ∀ w', Below w.heap.size w w' → P (.returned (.bool false)) w') := fun h => HBad.out (fun _ => all_false ht.out h)
      clear ht
      go_wp2_with fail
      refine HC.out.mono ?_
      rintro r w1 ⟨rfl, hb1⟩
      have hg1 := (hb1.block _ (Array.getElem?_eq_some_iff.1 hg).1).trans hg
      have HBr := Lib.hid (below_next hbr hb1)
      cases hr : rightT t with
      | false =>
        have HG := Lib.hid (HTb.out hr)
        clear hbr HBad HGood HA hr HTb HTk hb1 hg
        go_wp2_with fail
        first | exact HG.out _ HBr.out | (go_ret; exact HG.out _ HBr.out)
      | true =>
        have HT1 : Hid ((x.args.take (k + 1)).all rightT = true) := by show _ = _; rw [HTk.out, hr]
        have hg2 := Lib.hid hg1
        clear hr HTb HTk hb1 hg hg1 hbr
        go_wp2_with fail
        go_roundw
        case rel => exact ⟨k + 1, by omega, by go_num, by omega, HT1, hg2.out, HBr.out⟩
        case measure => simp [intOf]; omega
    · have i1 : ¬ (k : Int) < (n : Int) := by omega
      have hkn : k = n := by omega
      subst hkn
      have HG := Lib.hid (HGood.out (by have := Hlen.out; omega) (by have := HA.out; rwa [List.take_of_length_le (by have := Hlen.out; omega)] at this))
      have HBr := Lib.hid hbr
      clear hbr HBad HGood HA
      go_wp2_with fail
      refine (HN.out wr).mono ?_
      rintro r w1 ⟨rfl, hb1⟩
      have HB1 := Lib.hid (below_next HBr.out hb1)
      clear hb1
      go_wp2_with fail
      first | exact HG.out _ HB1.out | (go_ret; exact HG.out _ HB1.out)
end Go.Proofs.YtiffmiabhapfnaaGreatDoor

/- The document's RightLiteral. Printed by wip/tools/gen_reflit.py. -/
namespace Go.Proofs.YtiffmiabhapfnaaGreatDoor
open Go.RowKit

set_option maxRecDepth 100000 in
set_option maxHeartbeats 4000000 in
theorem refRightLit_any (d : Nat) (x : GLit) (a p q : Hd) (w : World) (h : LitAt d w w.heap.size x a p q) : Calls Tryz.prog 69 #[.agg #[.int .i64 x.k, .string x.atom.rel, a.v, .int .i64 x.op, .int .i64 x.l.op, .string x.l.t.x, .int .i64 x.l.t.v.k, .int .i64 x.l.t.v.n, .string x.l.t.v.s, p.v, .int .i64 x.r.op, .string x.r.t.x, .int .i64 x.r.t.v.k, .int .i64 x.r.t.v.n, .string x.r.t.v.s, q.v, .int .i64 x.pos]] w (RetBool (rightLit x) w) := by
  obtain ⟨B, HB⟩ : ∃ B, Hid (B = rightLit x) := ⟨_, rfl⟩
  rw [← HB.out]
  have hrb : (w.alloc (.cells #[.int .i64 x.k, .string x.atom.rel, a.v, .int .i64 x.op, .int .i64 x.l.op, .string x.l.t.x, .int .i64 x.l.t.v.k, .int .i64 x.l.t.v.n, .string x.l.t.v.s, p.v, .int .i64 x.r.op, .string x.r.t.x, .int .i64 x.r.t.v.k, .int .i64 x.r.t.v.n, .string x.r.t.v.s, q.v, .int .i64 x.pos] 129)).heap[w.heap.size]? = some (.cells #[.int .i64 x.k, .string x.atom.rel, a.v, .int .i64 x.op, .int .i64 x.l.op, .string x.l.t.x, .int .i64 x.l.t.v.k, .int .i64 x.l.t.v.n, .string x.l.t.v.s, p.v, .int .i64 x.r.op, .string x.r.t.x, .int .i64 x.r.t.v.k, .int .i64 x.r.t.v.n, .string x.r.t.v.s, q.v, .int .i64 x.pos] 129 (0, 0)) := heapNew rfl
  have hba : Below w.heap.size w (w.alloc (.cells #[.int .i64 x.k, .string x.atom.rel, a.v, .int .i64 x.op, .int .i64 x.l.op, .string x.l.t.x, .int .i64 x.l.t.v.k, .int .i64 x.l.t.v.n, .string x.l.t.v.s, p.v, .int .i64 x.r.op, .string x.r.t.x, .int .i64 x.r.t.v.k, .int .i64 x.r.t.v.n, .string x.r.t.v.s, q.v, .int .i64 x.pos] 129)) := belowA (Below.refl _ _) _
  have hna := h.args.bound
  have Hla := Lib.hid h.args.1
  have HH := Lib.hid (h.keep hba)
  clear h
  have Hrow : Hid (∀ W, Below (w.alloc (.cells #[.int .i64 x.k, .string x.atom.rel, a.v, .int .i64 x.op, .int .i64 x.l.op, .string x.l.t.x, .int .i64 x.l.t.v.k, .int .i64 x.l.t.v.n, .string x.l.t.v.s, p.v, .int .i64 x.r.op, .string x.r.t.x, .int .i64 x.r.t.v.k, .int .i64 x.r.t.v.n, .string x.r.t.v.s, q.v, .int .i64 x.pos] 129)).heap.size (w.alloc (.cells #[.int .i64 x.k, .string x.atom.rel, a.v, .int .i64 x.op, .int .i64 x.l.op, .string x.l.t.x, .int .i64 x.l.t.v.k, .int .i64 x.l.t.v.n, .string x.l.t.v.s, p.v, .int .i64 x.r.op, .string x.r.t.x, .int .i64 x.r.t.v.k, .int .i64 x.r.t.v.n, .string x.r.t.v.s, q.v, .int .i64 x.pos] 129)) W → W.heap[w.heap.size]? = some (.cells #[.int .i64 x.k, .string x.atom.rel, a.v, .int .i64 x.op, .int .i64 x.l.op, .string x.l.t.x, .int .i64 x.l.t.v.k, .int .i64 x.l.t.v.n, .string x.l.t.v.s, p.v, .int .i64 x.r.op, .string x.r.t.x, .int .i64 x.r.t.v.k, .int .i64 x.r.t.v.n, .string x.r.t.v.s, q.v, .int .i64 x.pos] 129 (0, 0))) := fun W h => (h.block _ (Array.getElem?_eq_some_iff.1 hrb).1).trans hrb
  obtain ⟨f0_0, f0_1, f0_2, f0_3, f0_4, f0_5, f0_6, f0_7, f0_8, f0_9, f0_10, f0_11, f0_12, f0_13, f0_14, f0_15, f0_16⟩ := facts17 hrb
  by_cases hk12 : x.k = 1 ∨ x.k = 2
  · obtain ⟨P1, HP1⟩ : ∃ E, Hid (E = atomB x.atom) := ⟨_, rfl⟩
    obtain ⟨P2, HP2⟩ : ∃ E, Hid (E = noneE x.l) := ⟨_, rfl⟩
    obtain ⟨P3, HP3⟩ : ∃ E, Hid (E = noneE x.r) := ⟨_, rfl⟩
    have HE : Hid (B = (P1 && (decide (x.op = 0) && (P2 && P3)))) := by show _ = _; rw [HB.out, HP1.out, HP2.out, HP3.out]; unfold rightLit; rw [if_pos hk12]
    have C1 : Hid (∀ W, Below (w.alloc (.cells #[.int .i64 x.k, .string x.atom.rel, a.v, .int .i64 x.op, .int .i64 x.l.op, .string x.l.t.x, .int .i64 x.l.t.v.k, .int .i64 x.l.t.v.n, .string x.l.t.v.s, p.v, .int .i64 x.r.op, .string x.r.t.x, .int .i64 x.r.t.v.k, .int .i64 x.r.t.v.n, .string x.r.t.v.s, q.v, .int .i64 x.pos] 129)).heap.size (w.alloc (.cells #[.int .i64 x.k, .string x.atom.rel, a.v, .int .i64 x.op, .int .i64 x.l.op, .string x.l.t.x, .int .i64 x.l.t.v.k, .int .i64 x.l.t.v.n, .string x.l.t.v.s, p.v, .int .i64 x.r.op, .string x.r.t.x, .int .i64 x.r.t.v.k, .int .i64 x.r.t.v.n, .string x.r.t.v.s, q.v, .int .i64 x.pos] 129)) W → Calls Tryz.prog 68 #[.agg #[.string x.atom.rel, a.v]] W (RetBool P1 W)) := fun W h => by rw [HP1.out]; exact refRightAtom_any x.atom a W (HH.out.args.keep h)
    have C2 : Hid (∀ W, Below (w.alloc (.cells #[.int .i64 x.k, .string x.atom.rel, a.v, .int .i64 x.op, .int .i64 x.l.op, .string x.l.t.x, .int .i64 x.l.t.v.k, .int .i64 x.l.t.v.n, .string x.l.t.v.s, p.v, .int .i64 x.r.op, .string x.r.t.x, .int .i64 x.r.t.v.k, .int .i64 x.r.t.v.n, .string x.r.t.v.s, q.v, .int .i64 x.pos] 129)).heap.size (w.alloc (.cells #[.int .i64 x.k, .string x.atom.rel, a.v, .int .i64 x.op, .int .i64 x.l.op, .string x.l.t.x, .int .i64 x.l.t.v.k, .int .i64 x.l.t.v.n, .string x.l.t.v.s, p.v, .int .i64 x.r.op, .string x.r.t.x, .int .i64 x.r.t.v.k, .int .i64 x.r.t.v.n, .string x.r.t.v.s, q.v, .int .i64 x.pos] 129)) W → Calls Tryz.prog 92 #[.agg #[.int .i64 x.l.op, .string x.l.t.x, .int .i64 x.l.t.v.k, .int .i64 x.l.t.v.n, .string x.l.t.v.s, p.v]] W (RetBool P2 W)) := fun W h => by rw [HP2.out]; exact refZero_any x.l p.A p.n p.c W HH.out.lk.1 HH.out.lk.2.2.2.1
    have C3 : Hid (∀ W, Below (w.alloc (.cells #[.int .i64 x.k, .string x.atom.rel, a.v, .int .i64 x.op, .int .i64 x.l.op, .string x.l.t.x, .int .i64 x.l.t.v.k, .int .i64 x.l.t.v.n, .string x.l.t.v.s, p.v, .int .i64 x.r.op, .string x.r.t.x, .int .i64 x.r.t.v.k, .int .i64 x.r.t.v.n, .string x.r.t.v.s, q.v, .int .i64 x.pos] 129)).heap.size (w.alloc (.cells #[.int .i64 x.k, .string x.atom.rel, a.v, .int .i64 x.op, .int .i64 x.l.op, .string x.l.t.x, .int .i64 x.l.t.v.k, .int .i64 x.l.t.v.n, .string x.l.t.v.s, p.v, .int .i64 x.r.op, .string x.r.t.x, .int .i64 x.r.t.v.k, .int .i64 x.r.t.v.n, .string x.r.t.v.s, q.v, .int .i64 x.pos] 129)) W → Calls Tryz.prog 92 #[.agg #[.int .i64 x.r.op, .string x.r.t.x, .int .i64 x.r.t.v.k, .int .i64 x.r.t.v.n, .string x.r.t.v.s, q.v]] W (RetBool P3 W)) := fun W h => by rw [HP3.out]; exact refZero_any x.r q.A q.n q.c W HH.out.rk.1 HH.out.rk.2.2.2.1
    clear hrb HB HP1 HP2 HP3 HH Hla
    generalize hwb : (w.alloc (.cells #[.int .i64 x.k, .string x.atom.rel, a.v, .int .i64 x.op, .int .i64 x.l.op, .string x.l.t.x, .int .i64 x.l.t.v.k, .int .i64 x.l.t.v.n, .string x.l.t.v.s, p.v, .int .i64 x.r.op, .string x.r.t.x, .int .i64 x.r.t.v.k, .int .i64 x.r.t.v.n, .string x.r.t.v.s, q.v, .int .i64 x.pos] 129)) = wb at *
    have Hbw0 := Lib.hid (Below.refl wb.heap.size wb)
    by_cases ho : x.op = 0
    · have o0 : (x.op == 0) = true := by simp [ho]
      have HE2 : Hid (B = (P1 && (P2 && P3))) := by show _ = _; rw [HE.out, decide_eq_true ho]; rfl
      clear HE ho
      rcases hk12 with hk | hk
      · have k1 : (x.k == 1) = true := by simp [hk]
        clear hk
        go_enter Tryz.func69, Tryz.ntmps69
        go_wp2_with fail
        try simp only [hwb]
        go_wp2_with fail
        refine (C1.out _ Hbw0.out).mono ?_
        rintro e1 w1 ⟨rfl, hq1⟩
        have Hbw1 := Lib.hid (below_next Hbw0.out hq1)
        obtain ⟨f1_0, f1_1, f1_2, f1_3, f1_4, f1_5, f1_6, f1_7, f1_8, f1_9, f1_10, f1_11, f1_12, f1_13, f1_14, f1_15, f1_16⟩ := facts17 (Hrow.out _ Hbw1.out)
        clear hq1 f0_0 f0_1 f0_2 f0_3 f0_4 f0_5 f0_6 f0_7 f0_8 f0_9 f0_10 f0_11 f0_12 f0_13 f0_14 f0_15 f0_16
        cases P1 with
        | false =>
          go_wp2_with fail
          go_ret
          exact ⟨by rw [HE2.out]; rfl, below_next hba Hbw1.out⟩
        | true =>
          go_wp2_with fail
          refine (C2.out _ Hbw1.out).mono ?_
          rintro e2 w2 ⟨rfl, hq2⟩
          have Hbw2 := Lib.hid (below_next Hbw1.out hq2)
          obtain ⟨f2_0, f2_1, f2_2, f2_3, f2_4, f2_5, f2_6, f2_7, f2_8, f2_9, f2_10, f2_11, f2_12, f2_13, f2_14, f2_15, f2_16⟩ := facts17 (Hrow.out _ Hbw2.out)
          clear hq2 f1_0 f1_1 f1_2 f1_3 f1_4 f1_5 f1_6 f1_7 f1_8 f1_9 f1_10 f1_11 f1_12 f1_13 f1_14 f1_15 f1_16
          cases P2 with
          | false =>
            go_wp2_with fail
            go_ret
            exact ⟨by rw [HE2.out]; rfl, below_next hba Hbw2.out⟩
          | true =>
            go_wp2_with fail
            refine (C3.out _ Hbw2.out).mono ?_
            rintro e3 w3 ⟨rfl, hq3⟩
            have Hbw3 := Lib.hid (below_next Hbw2.out hq3)
            obtain ⟨f3_0, f3_1, f3_2, f3_3, f3_4, f3_5, f3_6, f3_7, f3_8, f3_9, f3_10, f3_11, f3_12, f3_13, f3_14, f3_15, f3_16⟩ := facts17 (Hrow.out _ Hbw3.out)
            clear hq3 f2_0 f2_1 f2_2 f2_3 f2_4 f2_5 f2_6 f2_7 f2_8 f2_9 f2_10 f2_11 f2_12 f2_13 f2_14 f2_15 f2_16
            cases P3 <;>
            · go_wp2_with fail
              go_ret
              exact ⟨by rw [HE2.out]; rfl, below_next hba Hbw3.out⟩
      · have k1 : (x.k == 1) = false := by simp [hk]
        have k2 : (x.k == 2) = true := by simp [hk]
        clear hk
        go_enter Tryz.func69, Tryz.ntmps69
        go_wp2_with fail
        try simp only [hwb]
        go_wp2_with fail
        refine (C1.out _ Hbw0.out).mono ?_
        rintro e1 w1 ⟨rfl, hq1⟩
        have Hbw1 := Lib.hid (below_next Hbw0.out hq1)
        obtain ⟨f1_0, f1_1, f1_2, f1_3, f1_4, f1_5, f1_6, f1_7, f1_8, f1_9, f1_10, f1_11, f1_12, f1_13, f1_14, f1_15, f1_16⟩ := facts17 (Hrow.out _ Hbw1.out)
        clear hq1 f0_0 f0_1 f0_2 f0_3 f0_4 f0_5 f0_6 f0_7 f0_8 f0_9 f0_10 f0_11 f0_12 f0_13 f0_14 f0_15 f0_16
        cases P1 with
        | false =>
          go_wp2_with fail
          go_ret
          exact ⟨by rw [HE2.out]; rfl, below_next hba Hbw1.out⟩
        | true =>
          go_wp2_with fail
          refine (C2.out _ Hbw1.out).mono ?_
          rintro e2 w2 ⟨rfl, hq2⟩
          have Hbw2 := Lib.hid (below_next Hbw1.out hq2)
          obtain ⟨f2_0, f2_1, f2_2, f2_3, f2_4, f2_5, f2_6, f2_7, f2_8, f2_9, f2_10, f2_11, f2_12, f2_13, f2_14, f2_15, f2_16⟩ := facts17 (Hrow.out _ Hbw2.out)
          clear hq2 f1_0 f1_1 f1_2 f1_3 f1_4 f1_5 f1_6 f1_7 f1_8 f1_9 f1_10 f1_11 f1_12 f1_13 f1_14 f1_15 f1_16
          cases P2 with
          | false =>
            go_wp2_with fail
            go_ret
            exact ⟨by rw [HE2.out]; rfl, below_next hba Hbw2.out⟩
          | true =>
            go_wp2_with fail
            refine (C3.out _ Hbw2.out).mono ?_
            rintro e3 w3 ⟨rfl, hq3⟩
            have Hbw3 := Lib.hid (below_next Hbw2.out hq3)
            obtain ⟨f3_0, f3_1, f3_2, f3_3, f3_4, f3_5, f3_6, f3_7, f3_8, f3_9, f3_10, f3_11, f3_12, f3_13, f3_14, f3_15, f3_16⟩ := facts17 (Hrow.out _ Hbw3.out)
            clear hq3 f2_0 f2_1 f2_2 f2_3 f2_4 f2_5 f2_6 f2_7 f2_8 f2_9 f2_10 f2_11 f2_12 f2_13 f2_14 f2_15 f2_16
            cases P3 <;>
            · go_wp2_with fail
              go_ret
              exact ⟨by rw [HE2.out]; rfl, below_next hba Hbw3.out⟩
    · have o0 : (x.op == 0) = false := by simp [ho]
      have HE2 : Hid (B = false) := by show _ = _; rw [HE.out, decide_eq_false ho]; simp
      clear HE ho C2 C3
      rcases hk12 with hk | hk
      · have k1 : (x.k == 1) = true := by simp [hk]
        clear hk
        go_enter Tryz.func69, Tryz.ntmps69
        go_wp2_with fail
        try simp only [hwb]
        go_wp2_with fail
        refine (C1.out _ Hbw0.out).mono ?_
        rintro e1 w1 ⟨rfl, hq1⟩
        have Hbw1 := Lib.hid (below_next Hbw0.out hq1)
        obtain ⟨f1_0, f1_1, f1_2, f1_3, f1_4, f1_5, f1_6, f1_7, f1_8, f1_9, f1_10, f1_11, f1_12, f1_13, f1_14, f1_15, f1_16⟩ := facts17 (Hrow.out _ Hbw1.out)
        clear hq1 f0_0 f0_1 f0_2 f0_3 f0_4 f0_5 f0_6 f0_7 f0_8 f0_9 f0_10 f0_11 f0_12 f0_13 f0_14 f0_15 f0_16
        cases P1 <;>
        · go_wp2_with fail
          go_ret
          exact ⟨by rw [HE2.out]; rfl, below_next hba Hbw1.out⟩
      · have k1 : (x.k == 1) = false := by simp [hk]
        have k2 : (x.k == 2) = true := by simp [hk]
        clear hk
        go_enter Tryz.func69, Tryz.ntmps69
        go_wp2_with fail
        try simp only [hwb]
        go_wp2_with fail
        refine (C1.out _ Hbw0.out).mono ?_
        rintro e1 w1 ⟨rfl, hq1⟩
        have Hbw1 := Lib.hid (below_next Hbw0.out hq1)
        obtain ⟨f1_0, f1_1, f1_2, f1_3, f1_4, f1_5, f1_6, f1_7, f1_8, f1_9, f1_10, f1_11, f1_12, f1_13, f1_14, f1_15, f1_16⟩ := facts17 (Hrow.out _ Hbw1.out)
        clear hq1 f0_0 f0_1 f0_2 f0_3 f0_4 f0_5 f0_6 f0_7 f0_8 f0_9 f0_10 f0_11 f0_12 f0_13 f0_14 f0_15 f0_16
        cases P1 <;>
        · go_wp2_with fail
          go_ret
          exact ⟨by rw [HE2.out]; rfl, below_next hba Hbw1.out⟩
  have k1 : (x.k == 1) = false := by simp; omega
  have k2 : (x.k == 2) = false := by simp; omega
  by_cases hk3 : x.k = 3
  rotate_left
  · have k3 : (x.k == 3) = false := by simp [hk3]
    have HE2 : Hid (B = false) := by show _ = _; rw [HB.out]; simp [rightLit, hk12, hk3]
    clear hk3 hk12 HB HH Hrow hrb Hla
    go_enter Tryz.func69, Tryz.ntmps69
    go_wp2_with fail
    go_ret
    exact ⟨by rw [HE2.out]; rfl, belowA (Below.refl _ _) _⟩
  have k3 : (x.k == 3) = true := by simp [hk3]
  have HE : Hid (B = (cmpB2 x && (rightE 20 x.l && rightE 20 x.r))) := by show _ = _; rw [HB.out]; simp [rightLit, hk12, hk3]
  by_cases hc : cmpB2 x = true
  rotate_left
  · have HE2 : Hid (B = false) := by show _ = _; rw [HE.out]; simp [hc]
    have hc' : (((x.atom.rel.size : Int) == 0) = false) ∨ (((x.atom.rel.size : Int) == 0) = true ∧ ((a.n : Int) == 0) = false) ∨ (((x.atom.rel.size : Int) == 0) = true ∧ ((a.n : Int) == 0) = true ∧ ¬ 1 ≤ x.op) ∨ (((x.atom.rel.size : Int) == 0) = true ∧ ((a.n : Int) == 0) = true ∧ 1 ≤ x.op ∧ ¬ x.op ≤ 6) := by
      have h1 := Hla.out
      unfold cmpB2 at hc
      by_cases g1 : x.atom.rel.size = 0
      · have g2 : ((x.atom.rel.size : Int) == 0) = true := by simp [g1]
        by_cases g3 : a.n = 0
        · have g6 : ((a.n : Int) == 0) = true := by simp [g3]
          by_cases g4 : 1 ≤ x.op
          · by_cases g5 : x.op ≤ 6
            · exfalso
              apply hc
              have : x.atom.args.length = 0 := by omega
              simp [*]
            · exact .inr (.inr (.inr ⟨g2, g6, g4, g5⟩))
          · exact .inr (.inr (.inl ⟨g2, g6, g4⟩))
        · exact .inr (.inl ⟨g2, by rw [beq_eq_false_iff_ne]; omega⟩)
      · exact .inl (by rw [beq_eq_false_iff_ne]; omega)
    clear hk3 hk12 HB HH Hrow hrb hc HE
    rcases hc' with h | ⟨g0, h⟩ | ⟨g0, g1, h⟩ | ⟨g0, g1, g2, h⟩ <;>
    · go_enter Tryz.func69, Tryz.ntmps69
      go_wp2_with fail
      go_ret
      exact ⟨by rw [HE2.out]; rfl, belowA (Below.refl _ _) _⟩
  have hc' : ((x.atom.rel.size : Int) == 0) = true ∧ ((a.n : Int) == 0) = true ∧ 1 ≤ x.op ∧ x.op ≤ 6 := by
    have h1 := Hla.out
    simp only [cmpB2, Bool.and_eq_true, decide_eq_true_eq] at hc
    have h2 : x.atom.rel.size = 0 := hc.1.1
    have h3 : a.n = 0 := by omega
    exact ⟨by simp [h2], by simp [h3], hc.2.1, hc.2.2⟩
  obtain ⟨g0, g1, g2, g3⟩ := hc'
  obtain ⟨P1, HP1⟩ : ∃ E, Hid (E = rightE 20 x.l) := ⟨_, rfl⟩
  obtain ⟨P2, HP2⟩ : ∃ E, Hid (E = rightE 20 x.r) := ⟨_, rfl⟩
  have HE2 : Hid (B = (P1 && P2)) := by show _ = _; rw [HE.out, hc, HP1.out, HP2.out]; rfl
  have C1 : Hid (∀ W, Below (w.alloc (.cells #[.int .i64 x.k, .string x.atom.rel, a.v, .int .i64 x.op, .int .i64 x.l.op, .string x.l.t.x, .int .i64 x.l.t.v.k, .int .i64 x.l.t.v.n, .string x.l.t.v.s, p.v, .int .i64 x.r.op, .string x.r.t.x, .int .i64 x.r.t.v.k, .int .i64 x.r.t.v.n, .string x.r.t.v.s, q.v, .int .i64 x.pos] 129)).heap.size (w.alloc (.cells #[.int .i64 x.k, .string x.atom.rel, a.v, .int .i64 x.op, .int .i64 x.l.op, .string x.l.t.x, .int .i64 x.l.t.v.k, .int .i64 x.l.t.v.n, .string x.l.t.v.s, p.v, .int .i64 x.r.op, .string x.r.t.x, .int .i64 x.r.t.v.k, .int .i64 x.r.t.v.n, .string x.r.t.v.s, q.v, .int .i64 x.pos] 129)) W → Calls Tryz.prog 93 #[.agg #[.int .i64 x.l.op, .string x.l.t.x, .int .i64 x.l.t.v.k, .int .i64 x.l.t.v.n, .string x.l.t.v.s, p.v]] W (RetBool P1 W)) := fun W h => by rw [HP1.out]; exact refRightExp_any x.l p.A p.n p.c d W (HH.out.lk.keep h) HH.out.lv
  have C2 : Hid (∀ W, Below (w.alloc (.cells #[.int .i64 x.k, .string x.atom.rel, a.v, .int .i64 x.op, .int .i64 x.l.op, .string x.l.t.x, .int .i64 x.l.t.v.k, .int .i64 x.l.t.v.n, .string x.l.t.v.s, p.v, .int .i64 x.r.op, .string x.r.t.x, .int .i64 x.r.t.v.k, .int .i64 x.r.t.v.n, .string x.r.t.v.s, q.v, .int .i64 x.pos] 129)).heap.size (w.alloc (.cells #[.int .i64 x.k, .string x.atom.rel, a.v, .int .i64 x.op, .int .i64 x.l.op, .string x.l.t.x, .int .i64 x.l.t.v.k, .int .i64 x.l.t.v.n, .string x.l.t.v.s, p.v, .int .i64 x.r.op, .string x.r.t.x, .int .i64 x.r.t.v.k, .int .i64 x.r.t.v.n, .string x.r.t.v.s, q.v, .int .i64 x.pos] 129)) W → Calls Tryz.prog 93 #[.agg #[.int .i64 x.r.op, .string x.r.t.x, .int .i64 x.r.t.v.k, .int .i64 x.r.t.v.n, .string x.r.t.v.s, q.v]] W (RetBool P2 W)) := fun W h => by rw [HP2.out]; exact refRightExp_any x.r q.A q.n q.c d W (HH.out.rk.keep h) HH.out.rv
  clear hrb HB HP1 HP2 HH Hla hc HE hk3 hk12
  generalize hwb : (w.alloc (.cells #[.int .i64 x.k, .string x.atom.rel, a.v, .int .i64 x.op, .int .i64 x.l.op, .string x.l.t.x, .int .i64 x.l.t.v.k, .int .i64 x.l.t.v.n, .string x.l.t.v.s, p.v, .int .i64 x.r.op, .string x.r.t.x, .int .i64 x.r.t.v.k, .int .i64 x.r.t.v.n, .string x.r.t.v.s, q.v, .int .i64 x.pos] 129)) = wb at *
  have Hbw0 := Lib.hid (Below.refl wb.heap.size wb)
  go_enter Tryz.func69, Tryz.ntmps69
  go_wp2_with fail
  try simp only [hwb]
  go_wp2_with fail
  refine (C1.out _ Hbw0.out).mono ?_
  rintro e1 w1 ⟨rfl, hq1⟩
  have Hbw1 := Lib.hid (below_next Hbw0.out hq1)
  obtain ⟨f1_0, f1_1, f1_2, f1_3, f1_4, f1_5, f1_6, f1_7, f1_8, f1_9, f1_10, f1_11, f1_12, f1_13, f1_14, f1_15, f1_16⟩ := facts17 (Hrow.out _ Hbw1.out)
  clear hq1 f0_0 f0_1 f0_2 f0_3 f0_4 f0_5 f0_6 f0_7 f0_8 f0_9 f0_10 f0_11 f0_12 f0_13 f0_14 f0_15 f0_16
  cases P1 with
  | false =>
    go_wp2_with fail
    go_ret
    exact ⟨by rw [HE2.out]; rfl, below_next hba Hbw1.out⟩
  | true =>
    go_wp2_with fail
    refine (C2.out _ Hbw1.out).mono ?_
    rintro e2 w2 ⟨rfl, hq2⟩
    have Hbw2 := Lib.hid (below_next Hbw1.out hq2)
    obtain ⟨f2_0, f2_1, f2_2, f2_3, f2_4, f2_5, f2_6, f2_7, f2_8, f2_9, f2_10, f2_11, f2_12, f2_13, f2_14, f2_15, f2_16⟩ := facts17 (Hrow.out _ Hbw2.out)
    clear hq2 f1_0 f1_1 f1_2 f1_3 f1_4 f1_5 f1_6 f1_7 f1_8 f1_9 f1_10 f1_11 f1_12 f1_13 f1_14 f1_15 f1_16
    cases P2 <;>
    · go_wp2_with fail
      go_ret
      exact ⟨by rw [HE2.out]; rfl, below_next hba Hbw2.out⟩
end Go.Proofs.YtiffmiabhapfnaaGreatDoor

/- term.every over a list of literals. -/
namespace Go.Proofs.YtiffmiabhapfnaaGreatDoor
open Go.RowKit

set_option maxRecDepth 100000 in
set_option maxHeartbeats 1000000 in
theorem ev1L_any (x : GLit) (a p q : Hd) (g : Nat) (w : World) (hg : w.cell? ⟨g, 0, none⟩ = some (.func (.func 17) #[] #[])) (HC : Hid (∀ W, Below w.heap.size w W → Calls Tryz.prog 17 #[.agg #[.int .i64 x.k, .string x.atom.rel, a.v, .int .i64 x.op, .int .i64 x.l.op, .string x.l.t.x, .int .i64 x.l.t.v.k, .int .i64 x.l.t.v.n, .string x.l.t.v.s, p.v, .int .i64 x.r.op, .string x.r.t.x, .int .i64 x.r.t.v.k, .int .i64 x.r.t.v.n, .string x.r.t.v.s, q.v, .int .i64 x.pos]] W (RetBool (rightLit x) W))) :
    Calls Tryz.prog 61 #[.agg #[.int .i64 x.k, .string x.atom.rel, a.v, .int .i64 x.op, .int .i64 x.l.op, .string x.l.t.x, .int .i64 x.l.t.v.k, .int .i64 x.l.t.v.n, .string x.l.t.v.s, p.v, .int .i64 x.r.op, .string x.r.t.x, .int .i64 x.r.t.v.k, .int .i64 x.r.t.v.n, .string x.r.t.v.s, q.v, .int .i64 x.pos], .pointer (some ⟨g, 0, none⟩)] w (RetBool (!rightLit x) w) := by
  have hrb : (w.alloc (.cells #[.int .i64 x.k, .string x.atom.rel, a.v, .int .i64 x.op, .int .i64 x.l.op, .string x.l.t.x, .int .i64 x.l.t.v.k, .int .i64 x.l.t.v.n, .string x.l.t.v.s, p.v, .int .i64 x.r.op, .string x.r.t.x, .int .i64 x.r.t.v.k, .int .i64 x.r.t.v.n, .string x.r.t.v.s, q.v, .int .i64 x.pos] 63)).heap[w.heap.size]? = some (.cells #[.int .i64 x.k, .string x.atom.rel, a.v, .int .i64 x.op, .int .i64 x.l.op, .string x.l.t.x, .int .i64 x.l.t.v.k, .int .i64 x.l.t.v.n, .string x.l.t.v.s, p.v, .int .i64 x.r.op, .string x.r.t.x, .int .i64 x.r.t.v.k, .int .i64 x.r.t.v.n, .string x.r.t.v.s, q.v, .int .i64 x.pos] 63 (0, 0)) := heapNew rfl
  obtain ⟨b0, b1, b2, b3, b4, b5, b6, b7, b8, b9, b10, b11, b12, b13, b14, b15, b16⟩ := facts17 hrb
  have cg : (w.alloc (.cells #[.int .i64 x.k, .string x.atom.rel, a.v, .int .i64 x.op, .int .i64 x.l.op, .string x.l.t.x, .int .i64 x.l.t.v.k, .int .i64 x.l.t.v.n, .string x.l.t.v.s, p.v, .int .i64 x.r.op, .string x.r.t.x, .int .i64 x.r.t.v.k, .int .i64 x.r.t.v.n, .string x.r.t.v.s, q.v, .int .i64 x.pos] 63)).cell? ⟨g, 0, none⟩ = some (.func (.func 17) #[] #[]) := cellA hg
  clear hrb hg
  generalize rightLit x = B at *
  go_enter Tryz.func61, Tryz.ntmps61
  go_wp2_with fail
  refine (HC.out _ (by first | exact Below.refl _ _ | exact belowA (Below.refl _ _) _)).mono ?_
  rintro e w1 ⟨rfl, hb⟩
  have Hb := Lib.hid hb
  clear hb
  go_wp2_with fail
  go_ret
  exact ⟨rfl, below_next (belowA (Below.refl _ _) _) Hb.out⟩

set_option maxRecDepth 100000 in
set_option maxHeartbeats 1000000 in
theorem evIL_any (d : Nat) (A : Option Addr) (n c : Nat) (l : List GLit) (g : Nat) (w : World) (hl : SliceIs (Enc.lit d) w w.heap.size A n c l) (hg : w.cell? ⟨g, 0, none⟩ = some (.func (.func 17) #[] #[]))
    (HC : Hid (∀ (x : GLit) (a p q : Hd) W, LitAt d W W.heap.size x a p q → Below w.heap.size w W → Calls Tryz.prog 17 #[.agg #[.int .i64 x.k, .string x.atom.rel, a.v, .int .i64 x.op, .int .i64 x.l.op, .string x.l.t.x, .int .i64 x.l.t.v.k, .int .i64 x.l.t.v.n, .string x.l.t.v.s, p.v, .int .i64 x.r.op, .string x.r.t.x, .int .i64 x.r.t.v.k, .int .i64 x.r.t.v.n, .string x.r.t.v.s, q.v, .int .i64 x.pos]] W (RetBool (rightLit x) W))) :
    Calls Tryz.prog 87 #[.slice A n c, .func (.func 61) #[] #[.pointer (some ⟨g, 0, none⟩)]] w (fun e w' => ∃ k : Int, e = .returned (.int .i64 k) ∧ decide (0 ≤ k) = !(l.all rightLit) ∧ Below w.heap.size w w') := by
  have hn := hl.bound
  have HL := Lib.hid hl
  have hlen := Lib.hid hl.1
  have Hg := Lib.hid hg
  clear hl hg
  go_enter Tryz.func87, Tryz.ntmps87
  go_wp2_with fail
  go_loopw [5, 8] (fun _ i wr => ∃ k : Nat, k ≤ n ∧ i = .int .i64 k ∧ Hid ((l.take k).all rightLit = true) ∧ Below w.heap.size w wr) (fun _ i _ => n - (intOf i).toNat)
  case atStart => exact ⟨0, by omega, rfl, by simp [Hid], Below.refl _ _⟩
  case round =>
    obtain ⟨k, hk, rfl, hpre, hbr⟩ := hrel
    by_cases hlt : k < n
    · have HLr := (HL.out.below hbr)
      obtain ⟨b, o, x, a, p, q, rfl, hbb, hx, hat, z0, z1, z2, z3, z4, z5, z6, z7, z8, z9, z10, z11, z12, z13, z14, z15, z16⟩ := HLr.lit_at hlt
      have hokx : LitAt d wr wr.heap.size x a p q := hat.mono' hbr.size (Kept.of fun _ _ => rfl)
      have C := Lib.hid (ev1L_any x a p q g wr (below_cell hbr Hg.out) (fun W hW => HC.out x a p q W (hokx.keep hW) (below_next hbr hW)))
      have i0 : (0 : Int) ≤ (k : Int) := by omega
      have i1 : (k : Int) < (n : Int) := by omega
      have HT : Hid ((l.take (k + 1)).all rightLit = rightLit x) := by
        show _ = _
        obtain ⟨g1, g2⟩ := List.getElem?_eq_some_iff.1 hx.out
        rw [List.take_succ_eq_append_getElem g1, g2, List.all_append, hpre.out]; simp
      have HF : Hid (rightLit x = false → l.all rightLit = false) := fun h => by
        rw [List.all_eq_false]
        exact ⟨x, List.mem_of_getElem? hx.out, by simp [h]⟩
      clear HLr hokx
      generalize rightLit x = B at *
      cases B with
      | true =>
        clear HF
        go_wp2_with fail
        refine C.out.mono ?_
        rintro e w1 ⟨rfl, hb⟩
        have Hb := Lib.hid hb
        clear hb
        go_wp2_with fail
        go_roundw
        case rel => exact ⟨k + 1, by omega, by go_num, HT, below_next hbr Hb.out⟩
        case measure => simp [intOf]; omega
      | false =>
        have HF' : Hid (l.all rightLit = false) := HF.out rfl
        clear HF
        go_wp2_with fail
        refine C.out.mono ?_
        rintro e w1 ⟨rfl, hb⟩
        have Hb := Lib.hid hb
        clear hb
        go_wp2_with fail
        go_ret
        exact ⟨_, rfl, by rw [HF'.out]; simp, below_next hbr Hb.out⟩
    · have i1 : ¬ (k : Int) < (n : Int) := by omega
      have HA : Hid (l.all rightLit = true) := by
        show _ = _
        have h := hpre.out
        rw [List.take_of_length_le (by have := hlen.out; omega)] at h
        exact h
      go_wp2_with fail
      go_ret
      exact ⟨_, rfl, by rw [HA.out]; rfl, hbr⟩

set_option maxRecDepth 100000 in
set_option maxHeartbeats 1000000 in
theorem everyL_any (d : Nat) (A : Option Addr) (n c : Nat) (l : List GLit) (w : World) (hl : SliceIs (Enc.lit d) w w.heap.size A n c l)
    (HC : Hid (∀ (x : GLit) (a p q : Hd) W, LitAt d W W.heap.size x a p q → Below w.heap.size w W → Calls Tryz.prog 17 #[.agg #[.int .i64 x.k, .string x.atom.rel, a.v, .int .i64 x.op, .int .i64 x.l.op, .string x.l.t.x, .int .i64 x.l.t.v.k, .int .i64 x.l.t.v.n, .string x.l.t.v.s, p.v, .int .i64 x.r.op, .string x.r.t.x, .int .i64 x.r.t.v.k, .int .i64 x.r.t.v.n, .string x.r.t.v.s, q.v, .int .i64 x.pos]] W (RetBool (rightLit x) W))) :
    Calls Tryz.prog 35 #[.slice A n c, .func (.func 17) #[] #[]] w (RetBool (l.all rightLit) w) := by
  have hba : Below w.heap.size w (w.alloc (.cells #[.func (.func 17) #[] #[]] 64)) := belowA (Below.refl _ _) _
  have C := Lib.hid (evIL_any d A n c l w.heap.size (w.alloc (.cells #[.func (.func 17) #[] #[]] 64)) (hl.keep hba) ((cell_of_row _ _ 0 _ _ _ (heapNew rfl)).trans rfl) (fun x a p q W h hW => HC.out x a p q W h (below_next hba hW)))
  generalize l.all rightLit = B at *
  clear hl HC
  have CC : Hid (Calls Tryz.prog 60 #[.slice A n c, .func (.func 61) #[] #[.pointer (some ⟨w.heap.size, 0, none⟩)]] (w.alloc (.cells #[.func (.func 17) #[] #[]] 64)) (RetBool (!B) (w.alloc (.cells #[.func (.func 17) #[] #[]] 64)))) := by
    show Calls _ _ _ _ _
    generalize w.alloc (.cells #[.func (.func 17) #[] #[]] 64) = wb at *
    go_enter Tryz.func60, Tryz.ntmps60
    go_wp2_with fail
    refine C.out.mono ?_
    rintro e w1 ⟨k, rfl, hk, hb⟩
    have Hb := Lib.hid hb
    have Hk := Lib.hid hk
    clear hb hk
    go_wp2_with fail
    go_ret
    exact ⟨by rw [← Hk.out]; rfl, Hb.out⟩
  clear C
  go_enter Tryz.func35, Tryz.ntmps35
  go_wp2_with fail
  refine CC.out.mono ?_
  rintro e w1 ⟨rfl, hb⟩
  have Hb := Lib.hid hb
  clear hb CC
  go_wp2_with fail
  go_ret
  exact ⟨by cases B <;> rfl, below_next hba Hb.out⟩
end Go.Proofs.YtiffmiabhapfnaaGreatDoor

/- term.aggregated, term.RightRule. -/
namespace Go.Proofs.YtiffmiabhapfnaaGreatDoor
open Go.RowKit

def varAt (l : List GTold) (k : Nat) : Bool := match l[k]? with | some t => !decide (t.x.size = 0) | none => false
def aggB (x : GRule) : Bool := if x.agg = 0 then decide (x.col = 0) else decide (0 ≤ x.agg ∧ x.agg ≤ 4 ∧ 0 ≤ x.col) && varAt x.head.args x.col.toNat
set_option maxRecDepth 100000 in
set_option maxHeartbeats 2000000 in
theorem agg_any (x : GRule) (a m : Hd) (w : World) (hl : SliceIs Enc.told w w.heap.size a.A a.n a.c x.head.args) : Calls Tryz.prog 34 #[.agg #[.string x.head.rel, a.v, .int .i64 x.agg, .int .i64 x.col, m.v, .int .i64 x.pos]] w (RetBool (aggB x) w) := by
  obtain ⟨B, HB⟩ : ∃ B, Hid (B = aggB x) := ⟨_, rfl⟩
  rw [← HB.out]
  have hn := hl.bound
  have Hlen := Lib.hid hl.1
  have HL := Lib.hid hl
  clear hl
  by_cases h0 : x.agg = 0
  · have q0 : (x.agg == 0) = true := by simp [h0]
    have HE : Hid (B = decide (x.col = 0)) := by show _ = _; rw [HB.out]; unfold aggB; rw [if_pos h0]
    clear h0 HB
    by_cases h1 : x.col = 0
    · have q1 : (x.col == 0) = true := by simp [h1]
      rw [decide_eq_true h1] at HE
      clear h1
      go_enter Tryz.func34, Tryz.ntmps34
      go_wp2_with fail
      go_ret
      exact ⟨by rw [HE.out]; rfl, belowA (Below.refl _ _) _⟩
    · have q1 : (x.col == 0) = false := by simp [h1]
      rw [decide_eq_false h1] at HE
      clear h1
      go_enter Tryz.func34, Tryz.ntmps34
      go_wp2_with fail
      go_ret
      exact ⟨by rw [HE.out]; rfl, belowA (Below.refl _ _) _⟩
  have q0 : (x.agg == 0) = false := by simp [h0]
  have HE : Hid (B = (decide (0 ≤ x.agg ∧ x.agg ≤ 4 ∧ 0 ≤ x.col) && varAt x.head.args x.col.toNat)) := by show _ = _; rw [HB.out]; unfold aggB; rw [if_neg h0]
  clear h0 HB
  by_cases hb : 0 ≤ x.agg ∧ x.agg ≤ 4 ∧ 0 ≤ x.col ∧ x.col < (a.n : Int)
  rotate_left
  · have HE2 : Hid (B = false) := by
      show _ = _
      rw [HE.out]
      by_cases h1 : 0 ≤ x.agg ∧ x.agg ≤ 4 ∧ 0 ≤ x.col
      · have : varAt x.head.args x.col.toNat = false := by
          unfold varAt
          rw [List.getElem?_eq_none (by have := Hlen.out; omega)]
        rw [this]; simp
      · rw [decide_eq_false h1]; rfl
    have hd : x.agg < 0 ∨ (¬ x.agg < 0 ∧ 4 < x.agg) ∨ (¬ x.agg < 0 ∧ ¬ 4 < x.agg ∧ x.col < 0) ∨ (¬ x.agg < 0 ∧ ¬ 4 < x.agg ∧ ¬ x.col < 0 ∧ (a.n : Int) ≤ x.col) := by omega
    clear HE hb
    rcases hd with h | ⟨h1, h⟩ | ⟨h1, h2, h⟩ | ⟨h1, h2, h3, h⟩ <;>
    · go_enter Tryz.func34, Tryz.ntmps34
      go_wp2_with fail
      go_ret
      exact ⟨by rw [HE2.out]; rfl, belowA (Below.refl _ _) _⟩
  obtain ⟨c1, c2, c3, c4⟩ := hb
  obtain ⟨k, hk⟩ : ∃ k : Nat, x.col = (k : Int) := ⟨x.col.toNat, by omega⟩
  have c5 : ¬ x.agg < 0 := by omega
  have c6 : ¬ 4 < x.agg := by omega
  have c7 : ¬ x.col < 0 := by omega
  have c8 : ¬ (a.n : Int) ≤ x.col := by omega
  have hkn : k < a.n := by omega
  obtain ⟨b, o, t, hA, hbb, ht, y0, -, -, -, -, -⟩ := HL.out.told_at hkn
  have HE2 : Hid (B = !decide (t.x.size = 0)) := by
    show _ = _
    rw [HE.out, decide_eq_true ⟨c1, c2, c3⟩, hk, Int.toNat_natCast]
    unfold varAt
    rw [ht.out]; rfl
  obtain ⟨A, n, c⟩ := a
  simp only at hA hkn c4 c8 hn
  subst hA
  rw [hk] at c3 c4 c7 c8
  have z0 := cellA (o := .cells #[.string x.head.rel, .slice (some ⟨b, o, none⟩) n c, .int .i64 x.agg, .int .i64 (k : Int), m.v, .int .i64 x.pos] 56) y0
  simp only [hk]
  clear HE HL Hlen ht hbb y0 hk c1 c2
  by_cases he : t.x.size = 0
  · have e0 : t.x.toList = [] := str_empty.2 he
    have e1 : t.x.toList.isEmpty = true := by rw [e0]; rfl
    have HE3 : Hid (B = false) := by show _ = _; rw [HE2.out, decide_eq_true he]; rfl
    clear he HE2
    dsimp only [Hd.v, ruleC]
    go_enter Tryz.func34, Tryz.ntmps34
    go_wp2_with fail
    go_ret
    exact ⟨by rw [HE3.out]; rfl, belowA (Below.refl _ _) _⟩
  · have e0 : ¬ t.x.toList = [] := fun h => he (str_empty.1 h)
    have e1 : t.x.toList.isEmpty = false := by cases hl : t.x.toList with
      | nil => exact absurd hl e0
      | cons _ _ => rfl
    have HE3 : Hid (B = true) := by show _ = _; rw [HE2.out, decide_eq_false he]; rfl
    clear he HE2
    dsimp only [Hd.v, ruleC]
    go_enter Tryz.func34, Tryz.ntmps34
    go_wp2_with fail
    go_ret
    exact ⟨by rw [HE3.out]; rfl, belowA (Below.refl _ _) _⟩

def rightRule (x : GRule) : Bool := atomB x.head && (aggB x && (decide (x.body.length ≤ 8) && x.body.all rightLit))
set_option maxRecDepth 100000 in
set_option maxHeartbeats 2000000 in
theorem rightRule_any (d : Nat) (x : GRule) (a m : Hd) (w : World) (h : RuleAt d w w.heap.size x a m) (hW : LexW w) : Calls Tryz.prog 15 #[.agg #[.string x.head.rel, a.v, .int .i64 x.agg, .int .i64 x.col, m.v, .int .i64 x.pos]] w (RetBool (rightRule x) w) := by
  obtain ⟨B, HB⟩ : ∃ B, Hid (B = rightRule x) := ⟨_, rfl⟩
  rw [← HB.out]
  have hrb : (w.alloc (.cells #[.string x.head.rel, a.v, .int .i64 x.agg, .int .i64 x.col, m.v, .int .i64 x.pos] 56)).heap[w.heap.size]? = some (.cells #[.string x.head.rel, a.v, .int .i64 x.agg, .int .i64 x.col, m.v, .int .i64 x.pos] 56 (0, 0)) := heapNew rfl
  have hba : Below w.heap.size w (w.alloc (.cells #[.string x.head.rel, a.v, .int .i64 x.agg, .int .i64 x.col, m.v, .int .i64 x.pos] 56)) := belowA (Below.refl _ _) _
  have hn := h.body.bound
  have Hlen := Lib.hid h.body.1
  have HH := Lib.hid (h.keep hba)
  have HW := Lib.hid (hW.on hba)
  clear h hW
  obtain ⟨P1, HP1⟩ : ∃ E, Hid (E = atomB x.head) := ⟨_, rfl⟩
  obtain ⟨P2, HP2⟩ : ∃ E, Hid (E = aggB x) := ⟨_, rfl⟩
  obtain ⟨P3, HP3⟩ : ∃ E, Hid (E = x.body.all rightLit) := ⟨_, rfl⟩
  have HE : Hid (B = (P1 && (P2 && (decide (x.body.length ≤ 8) && P3)))) := by show _ = _; rw [HB.out, HP1.out, HP2.out, HP3.out]; rfl
  have Hrow : Hid (∀ W, Below (w.alloc (.cells #[.string x.head.rel, a.v, .int .i64 x.agg, .int .i64 x.col, m.v, .int .i64 x.pos] 56)).heap.size (w.alloc (.cells #[.string x.head.rel, a.v, .int .i64 x.agg, .int .i64 x.col, m.v, .int .i64 x.pos] 56)) W → W.heap[w.heap.size]? = some (.cells #[.string x.head.rel, a.v, .int .i64 x.agg, .int .i64 x.col, m.v, .int .i64 x.pos] 56 (0, 0))) := fun W h => (h.block _ (Array.getElem?_eq_some_iff.1 hrb).1).trans hrb
  obtain ⟨f0_0, f0_1, f0_2, f0_3, f0_4, f0_5⟩ := facts6 hrb
  have C1 : Hid (∀ W, Below (w.alloc (.cells #[.string x.head.rel, a.v, .int .i64 x.agg, .int .i64 x.col, m.v, .int .i64 x.pos] 56)).heap.size (w.alloc (.cells #[.string x.head.rel, a.v, .int .i64 x.agg, .int .i64 x.col, m.v, .int .i64 x.pos] 56)) W → Calls Tryz.prog 33 #[.agg #[.string x.head.rel, a.v]] W (RetBool P1 W)) := fun W h => by rw [HP1.out]; exact aright_any x.head a W HH.out.rel (HH.out.args.keep h) (HW.out.on h)
  have C2 : Hid (∀ W, Below (w.alloc (.cells #[.string x.head.rel, a.v, .int .i64 x.agg, .int .i64 x.col, m.v, .int .i64 x.pos] 56)).heap.size (w.alloc (.cells #[.string x.head.rel, a.v, .int .i64 x.agg, .int .i64 x.col, m.v, .int .i64 x.pos] 56)) W → Calls Tryz.prog 34 #[.agg #[.string x.head.rel, a.v, .int .i64 x.agg, .int .i64 x.col, m.v, .int .i64 x.pos]] W (RetBool P2 W)) := fun W h => by rw [HP2.out]; exact agg_any x a m W (HH.out.args.keep h)
  have C3 : Hid (∀ W, Below (w.alloc (.cells #[.string x.head.rel, a.v, .int .i64 x.agg, .int .i64 x.col, m.v, .int .i64 x.pos] 56)).heap.size (w.alloc (.cells #[.string x.head.rel, a.v, .int .i64 x.agg, .int .i64 x.col, m.v, .int .i64 x.pos] 56)) W → Calls Tryz.prog 35 #[m.v, .func (.func 17) #[] #[]] W (RetBool P3 W)) := fun W h => by
    rw [HP3.out]
    exact everyL_any d m.A m.n m.c x.body W (HH.out.body.keep h) (fun y a p q W' hy h' => rightLit_any d y a p q W' hy ((HW.out.on h).on h'))
  clear hrb HB HP1 HP2 HP3 HH HW
  by_cases h8 : m.n ≤ 8
  · have z8 : (m.n : Int) ≤ 8 := by omega
    have HE2 : Hid (B = (P1 && (P2 && P3))) := by show _ = _; rw [HE.out, decide_eq_true (by rw [Hlen.out]; exact h8)]; rfl
    clear HE Hlen h8
    generalize hwb : (w.alloc (.cells #[.string x.head.rel, a.v, .int .i64 x.agg, .int .i64 x.col, m.v, .int .i64 x.pos] 56)) = wb at *
    have Hbw0 := Lib.hid (Below.refl wb.heap.size wb)
    go_enter Tryz.func15, Tryz.ntmps15
    go_wp2_with fail
    try simp only [hwb]
    go_wp2_with fail
    refine (C1.out _ Hbw0.out).mono ?_
    rintro e1 w1 ⟨rfl, hq1⟩
    have Hbw1 := Lib.hid (below_next Hbw0.out hq1)
    obtain ⟨f1_0, f1_1, f1_2, f1_3, f1_4, f1_5⟩ := facts6 (Hrow.out _ Hbw1.out)
    clear hq1 f0_0 f0_1 f0_2 f0_3 f0_4 f0_5
    cases P1 with
    | false =>
      go_wp2_with fail
      go_ret
      exact ⟨by rw [HE2.out]; rfl, below_next hba Hbw1.out⟩
    | true =>
      go_wp2_with fail
      refine (C2.out _ Hbw1.out).mono ?_
      rintro e2 w2 ⟨rfl, hq2⟩
      have Hbw2 := Lib.hid (below_next Hbw1.out hq2)
      obtain ⟨f2_0, f2_1, f2_2, f2_3, f2_4, f2_5⟩ := facts6 (Hrow.out _ Hbw2.out)
      clear hq2 f1_0 f1_1 f1_2 f1_3 f1_4 f1_5
      cases P2 with
      | false =>
        go_wp2_with fail
        go_ret
        exact ⟨by rw [HE2.out]; rfl, below_next hba Hbw2.out⟩
      | true =>
        go_wp2_with fail
        refine (C3.out _ Hbw2.out).mono ?_
        rintro e3 w3 ⟨rfl, hq3⟩
        have Hbw3 := Lib.hid (below_next Hbw2.out hq3)
        obtain ⟨f3_0, f3_1, f3_2, f3_3, f3_4, f3_5⟩ := facts6 (Hrow.out _ Hbw3.out)
        clear hq3 f2_0 f2_1 f2_2 f2_3 f2_4 f2_5
        cases P3 <;>
        · go_wp2_with fail
          go_ret
          exact ⟨by rw [HE2.out]; rfl, below_next hba Hbw3.out⟩
  · have z8 : ¬ (m.n : Int) ≤ 8 := by omega
    have HE2 : Hid (B = false) := by show _ = _; rw [HE.out, decide_eq_false (by rw [Hlen.out]; exact h8)]; simp
    clear HE Hlen h8 C3
    generalize hwb : (w.alloc (.cells #[.string x.head.rel, a.v, .int .i64 x.agg, .int .i64 x.col, m.v, .int .i64 x.pos] 56)) = wb at *
    have Hbw0 := Lib.hid (Below.refl wb.heap.size wb)
    go_enter Tryz.func15, Tryz.ntmps15
    go_wp2_with fail
    try simp only [hwb]
    go_wp2_with fail
    refine (C1.out _ Hbw0.out).mono ?_
    rintro e1 w1 ⟨rfl, hq1⟩
    have Hbw1 := Lib.hid (below_next Hbw0.out hq1)
    obtain ⟨f1_0, f1_1, f1_2, f1_3, f1_4, f1_5⟩ := facts6 (Hrow.out _ Hbw1.out)
    clear hq1 f0_0 f0_1 f0_2 f0_3 f0_4 f0_5
    cases P1 with
    | false =>
      go_wp2_with fail
      go_ret
      exact ⟨by rw [HE2.out]; rfl, below_next hba Hbw1.out⟩
    | true =>
      go_wp2_with fail
      refine (C2.out _ Hbw1.out).mono ?_
      rintro e2 w2 ⟨rfl, hq2⟩
      have Hbw2 := Lib.hid (below_next Hbw1.out hq2)
      obtain ⟨f2_0, f2_1, f2_2, f2_3, f2_4, f2_5⟩ := facts6 (Hrow.out _ Hbw2.out)
      clear hq2 f1_0 f1_1 f1_2 f1_3 f1_4 f1_5
      cases P2 <;>
      · go_wp2_with fail
        go_ret
        exact ⟨by rw [HE2.out]; rfl, below_next hba Hbw2.out⟩
end Go.Proofs.YtiffmiabhapfnaaGreatDoor

/- The document's RightRule. Printed by wip/tools/gen_refrule.py. -/
namespace Go.Proofs.YtiffmiabhapfnaaGreatDoor
open Go.RowKit

theorem lit5_size (x : GLit) (a p q : Hd) : (Tryz.prog.info? 129).map (·.size) = some (litC x a p q).length := by
  show _ = some 17
  kernel_rfl
set_option maxRecDepth 100000 in
set_option maxHeartbeats 4000000 in
theorem refRightRule_any (d : Nat) (x : GRule) (a m : Hd) (w : World) (h : RuleAt d w w.heap.size x a m) : Calls Tryz.prog 42 #[.agg (ruleC x a m).toArray] w (RetBool (rightRule x) w) := by
  obtain ⟨P, HP⟩ : ∃ P, Hid (P = RetBool (rightRule x) w) := ⟨_, rfl⟩
  have HBad : Hid (rightRule x = false → ∀ w', Below w.heap.size w w' → P (.returned (.bool false)) w') := fun h w' hb => by rw [HP.out, h]; exact ⟨rfl, hb⟩
  have HGod : Hid (rightRule x = true → ∀ w', Below w.heap.size w w' → P (.returned (.bool true)) w') := fun h w' hb => by rw [HP.out, h]; exact ⟨rfl, hb⟩
  rw [← HP.out]
  have hna := h.args.bound
  have hn := h.body.bound
  have Hla := Lib.hid h.args.1
  have Hlen := Lib.hid h.body.1
  have HK := Lib.hid h
  have HBA : Hid (atomB x.head = false → ∀ w', Below w.heap.size w w' → P (.returned (.bool false)) w') := fun h => HBad.out (by unfold rightRule; rw [h]; rfl)
  have HBL : Hid (x.body.all rightLit = false → ∀ w', Below w.heap.size w w' → P (.returned (.bool false)) w') := fun h => HBad.out (by unfold rightRule; rw [h]; simp)
  obtain ⟨aA, an, ac⟩ := a
  obtain ⟨A, n, c⟩ := m
  have Hla : Hid (x.head.args.length = an) := Hla.out
  have Hlen : Hid (x.body.length = n) := Hlen.out
  clear h HP
  show Calls Tryz.prog 42 #[.agg #[.string x.head.rel, .slice aA an ac, .int .i64 x.agg, .int .i64 x.col, .slice A n c, .int .i64 x.pos]] w P
  have HGood : Hid (x.body.length ≤ 8 → aggB x = true → atomB x.head = true → x.body.all rightLit = true → ∀ w', Below w.heap.size w w' → P (.returned (.bool true)) w') := fun h1 h2 h3 h4 => HGod.out (by unfold rightRule; rw [h2, h3, h4]; simp [h1])
  have HBg : Hid (aggB x = false → ∀ w', Below w.heap.size w w' → P (.returned (.bool false)) w') := fun h => HBad.out (by unfold rightRule; rw [h]; simp)
  by_cases h8 : 8 < n
  · have h8' : (8 : Int) < (n : Int) := by omega
    have HB := Lib.hid (HBad.out (by unfold rightRule; have := Hlen.out; have h9 : ¬ x.body.length ≤ 8 := by omega
                                     simp [h9]))
    clear HBad HGod HBA HBL HBg
    clear HGood
    have hrb : (w.alloc (.cells #[.string x.head.rel, .slice aA an ac, .int .i64 x.agg, .int .i64 x.col, .slice A n c, .int .i64 x.pos] 103)).heap[w.heap.size]? = some (.cells #[.string x.head.rel, .slice aA an ac, .int .i64 x.agg, .int .i64 x.col, .slice A n c, .int .i64 x.pos] 103 (0, 0)) := heapNew rfl
    have hba : Below w.heap.size w (w.alloc (.cells #[.string x.head.rel, .slice aA an ac, .int .i64 x.agg, .int .i64 x.col, .slice A n c, .int .i64 x.pos] 103)) := belowA (Below.refl _ _) _
    obtain ⟨b0, b1, b2, b3, b4, b5⟩ := facts6 hrb
    have HC := Lib.hid (refRightAtom_any x.head ⟨aA, an, ac⟩ (w.alloc (.cells #[.string x.head.rel, .slice aA an ac, .int .i64 x.agg, .int .i64 x.col, .slice A n c, .int .i64 x.pos] 103)) (HK.out.keep hba).args)
    go_enter Tryz.func42, Tryz.ntmps42
    go_wp2_with fail
    refine HC.out.mono ?_
    rintro r w1 ⟨rfl, hb1⟩
    have hr1 := (hb1.block _ (Array.getElem?_eq_some_iff.1 hrb).1).trans hrb
    have Hb1 := Lib.hid (below_next hba hb1)
    clear b0 b1 b2 b3 b4 b5 HC hb1 hba hrb
    obtain ⟨b0, b1, b2, b3, b4, b5⟩ := facts6 hr1
    cases hq : atomB x.head with
    | false =>
      clear hq
      go_wp2_with fail
      first | exact HB.out _ Hb1.out | (go_ret; exact HB.out _ Hb1.out)
    | true =>
      clear hq
      go_wp2_with fail
      first | exact HB.out _ Hb1.out | (go_ret; exact HB.out _ Hb1.out)
  have h8' : ¬ (8 : Int) < (n : Int) := by omega
  have HGood := Lib.hid (HGood.out (by have := Hlen.out; omega))
  clear HBad HGod
  by_cases ha0 : x.agg < 0
  · have HB := Lib.hid (HBg.out (by unfold aggB; rw [if_neg (by omega)]; have h9 : ¬ 0 ≤ x.agg := by omega
                                    simp [h9]))
    clear HBA HBL HBg
    clear HGood
    have hrb : (w.alloc (.cells #[.string x.head.rel, .slice aA an ac, .int .i64 x.agg, .int .i64 x.col, .slice A n c, .int .i64 x.pos] 103)).heap[w.heap.size]? = some (.cells #[.string x.head.rel, .slice aA an ac, .int .i64 x.agg, .int .i64 x.col, .slice A n c, .int .i64 x.pos] 103 (0, 0)) := heapNew rfl
    have hba : Below w.heap.size w (w.alloc (.cells #[.string x.head.rel, .slice aA an ac, .int .i64 x.agg, .int .i64 x.col, .slice A n c, .int .i64 x.pos] 103)) := belowA (Below.refl _ _) _
    obtain ⟨b0, b1, b2, b3, b4, b5⟩ := facts6 hrb
    have HC := Lib.hid (refRightAtom_any x.head ⟨aA, an, ac⟩ (w.alloc (.cells #[.string x.head.rel, .slice aA an ac, .int .i64 x.agg, .int .i64 x.col, .slice A n c, .int .i64 x.pos] 103)) (HK.out.keep hba).args)
    go_enter Tryz.func42, Tryz.ntmps42
    go_wp2_with fail
    refine HC.out.mono ?_
    rintro r w1 ⟨rfl, hb1⟩
    have hr1 := (hb1.block _ (Array.getElem?_eq_some_iff.1 hrb).1).trans hrb
    have Hb1 := Lib.hid (below_next hba hb1)
    clear b0 b1 b2 b3 b4 b5 HC hb1 hba hrb
    obtain ⟨b0, b1, b2, b3, b4, b5⟩ := facts6 hr1
    cases hq : atomB x.head with
    | false =>
      clear hq
      go_wp2_with fail
      first | exact HB.out _ Hb1.out | (go_ret; exact HB.out _ Hb1.out)
    | true =>
      clear hq
      go_wp2_with fail
      first | exact HB.out _ Hb1.out | (go_ret; exact HB.out _ Hb1.out)
  by_cases ha4 : 4 < x.agg
  · have HB := Lib.hid (HBg.out (by unfold aggB; rw [if_neg (by omega)]; have h9 : ¬ x.agg ≤ 4 := by omega
                                    simp [h9]))
    clear HBA HBL HBg
    clear HGood
    have hrb : (w.alloc (.cells #[.string x.head.rel, .slice aA an ac, .int .i64 x.agg, .int .i64 x.col, .slice A n c, .int .i64 x.pos] 103)).heap[w.heap.size]? = some (.cells #[.string x.head.rel, .slice aA an ac, .int .i64 x.agg, .int .i64 x.col, .slice A n c, .int .i64 x.pos] 103 (0, 0)) := heapNew rfl
    have hba : Below w.heap.size w (w.alloc (.cells #[.string x.head.rel, .slice aA an ac, .int .i64 x.agg, .int .i64 x.col, .slice A n c, .int .i64 x.pos] 103)) := belowA (Below.refl _ _) _
    obtain ⟨b0, b1, b2, b3, b4, b5⟩ := facts6 hrb
    have HC := Lib.hid (refRightAtom_any x.head ⟨aA, an, ac⟩ (w.alloc (.cells #[.string x.head.rel, .slice aA an ac, .int .i64 x.agg, .int .i64 x.col, .slice A n c, .int .i64 x.pos] 103)) (HK.out.keep hba).args)
    go_enter Tryz.func42, Tryz.ntmps42
    go_wp2_with fail
    refine HC.out.mono ?_
    rintro r w1 ⟨rfl, hb1⟩
    have hr1 := (hb1.block _ (Array.getElem?_eq_some_iff.1 hrb).1).trans hrb
    have Hb1 := Lib.hid (below_next hba hb1)
    clear b0 b1 b2 b3 b4 b5 HC hb1 hba hrb
    obtain ⟨b0, b1, b2, b3, b4, b5⟩ := facts6 hr1
    cases hq : atomB x.head with
    | false =>
      clear hq
      go_wp2_with fail
      first | exact HB.out _ Hb1.out | (go_ret; exact HB.out _ Hb1.out)
    | true =>
      clear hq
      go_wp2_with fail
      first | exact HB.out _ Hb1.out | (go_ret; exact HB.out _ Hb1.out)
  by_cases hz : x.agg = 0
  · have z0 : (x.agg == 0) = true := by simp [hz]
    have z1 : ¬ 0 < x.agg := by omega
    by_cases hc : x.col = 0
    · have c0 : (x.col != 0) = false := by simp [hc]
      have HGood := Lib.hid (HGood.out (by unfold aggB; rw [if_pos hz]; simp [hc]))
      clear HBg hc hz
      have hrb : (w.alloc (.cells #[.string x.head.rel, .slice aA an ac, .int .i64 x.agg, .int .i64 x.col, .slice A n c, .int .i64 x.pos] 103)).heap[w.heap.size]? = some (.cells #[.string x.head.rel, .slice aA an ac, .int .i64 x.agg, .int .i64 x.col, .slice A n c, .int .i64 x.pos] 103 (0, 0)) := heapNew rfl
      have hba : Below w.heap.size w (w.alloc (.cells #[.string x.head.rel, .slice aA an ac, .int .i64 x.agg, .int .i64 x.col, .slice A n c, .int .i64 x.pos] 103)) := belowA (Below.refl _ _) _
      obtain ⟨b0, b1, b2, b3, b4, b5⟩ := facts6 hrb
      have HC := Lib.hid (refRightAtom_any x.head ⟨aA, an, ac⟩ (w.alloc (.cells #[.string x.head.rel, .slice aA an ac, .int .i64 x.agg, .int .i64 x.col, .slice A n c, .int .i64 x.pos] 103)) (HK.out.keep hba).args)
      go_enter Tryz.func42, Tryz.ntmps42
      go_wp2_with fail
      refine HC.out.mono ?_
      rintro r w1 ⟨rfl, hb1⟩
      have hr1 := (hb1.block _ (Array.getElem?_eq_some_iff.1 hrb).1).trans hrb
      have Hb1 := Lib.hid (below_next hba hb1)
      clear b0 b1 b2 b3 b4 b5 HC hb1 hba hrb
      obtain ⟨b0, b1, b2, b3, b4, b5⟩ := facts6 hr1
      cases hq : atomB x.head with
      | false =>
        have HB2 := Lib.hid (HBA.out hq)
        clear hq HGood HBA HBL
        go_wp2_with fail
        first | exact HB2.out _ Hb1.out | (go_ret; exact HB2.out _ Hb1.out)
      | true =>
        have HG2 := Lib.hid (HGood.out hq)
        have HR1 := Lib.hid hr1
        clear hq HGood HBA hr1
        go_wp2_with fail
        clear b0 b1 b2 b3 b4 b5
        go_loopw [3] (fun i wr => ∃ k : Nat, k ≤ n ∧ i = .int .i64 k ∧ Hid ((x.body.take k).all rightLit = true) ∧ Hid (wr.heap[w.heap.size]? = some (.cells #[.string x.head.rel, .slice aA an ac, .int .i64 x.agg, .int .i64 x.col, .slice A n c, .int .i64 x.pos] 103 (0, 0))) ∧ Hid (Below w.heap.size w wr)) (fun i _ => n - (intOf i).toNat)
        case atStart => exact ⟨0, by omega, rfl, by show _ = _; simp, HR1, Hb1⟩
        case round =>
          obtain ⟨k, hk, rfl, HA, HR2, HBr⟩ := hrel
          clear HR1 Hb1
          have i0 : (0 : Int) ≤ (k : Int) := by omega
          obtain ⟨b0, b1, b2, b3, b4, b5⟩ := facts6 HR2.out
          by_cases hlt : k < n
          · have i1 : (k : Int) < (n : Int) := by omega
            obtain ⟨b, o, y, a', p', q', hAA, hbb, hy, hly, hr⟩ := (HK.out.keep HBr.out).body.lit_range hlt
            simp only at hAA
            subst hAA
            have HL := Lib.hid (refRightLit_any d y a' p' q' wr hly)
            have HT1 : Hid (rightLit y = true → (x.body.take (k + 1)).all rightLit = true) := fun h => by rw [all_take hy.out, HA.out, h]; rfl
            have HT2 := Lib.hid (fun h => HBL.out (all_false hy.out h))
            clear hy hly
            go_wp2_with (first
              | refine wpList_load_mid rfl 129 (.tmp 73) rfl b (o + k * 17) rfl (litC y a' p' q') _ hr.out Tryz.underlying129 rfl (lit5_size y a' p' q') ?_)
            refine HL.out.mono ?_
            rintro r w2 ⟨rfl, hb2⟩
            have HB2 := Lib.hid (below_next HBr.out hb2)
            have HR3 := Lib.hid ((hb2.block _ (Array.getElem?_eq_some_iff.1 HR2.out).1).trans HR2.out)
            clear hb2 hr HL b0 b1 b2 b3 b4 b5
            cases hq : rightLit y with
            | false =>
              have HB3 := Lib.hid (HT2.out hq)
              clear hq HT1 HT2
              go_wp2_with fail
              first | exact HB3.out _ HB2.out | (go_ret; exact HB3.out _ HB2.out)
            | true =>
              have HA2 := Lib.hid (HT1.out hq)
              clear hq HT1 HT2
              go_wp2_with fail
              go_roundw
              case rel => exact ⟨k + 1, by omega, by go_num, HA2, HR3, HB2⟩
              case measure => simp [intOf]; omega
          · have i1 : ¬ (k : Int) < (n : Int) := by omega
            have HG3 := Lib.hid (HG2.out (by have := HA.out; rwa [List.take_of_length_le (by have := Hlen.out; omega)] at this))
            clear HG2
            go_wp2_with fail
            first | exact HG3.out _ HBr.out | (go_ret; exact HG3.out _ HBr.out)
    · have c0 : (x.col != 0) = true := by simp [hc]
      have HB := Lib.hid (HBg.out (by unfold aggB; rw [if_pos hz]; simp [hc]))
      clear HBA HBL HBg hc hz
      clear HGood
      have hrb : (w.alloc (.cells #[.string x.head.rel, .slice aA an ac, .int .i64 x.agg, .int .i64 x.col, .slice A n c, .int .i64 x.pos] 103)).heap[w.heap.size]? = some (.cells #[.string x.head.rel, .slice aA an ac, .int .i64 x.agg, .int .i64 x.col, .slice A n c, .int .i64 x.pos] 103 (0, 0)) := heapNew rfl
      have hba : Below w.heap.size w (w.alloc (.cells #[.string x.head.rel, .slice aA an ac, .int .i64 x.agg, .int .i64 x.col, .slice A n c, .int .i64 x.pos] 103)) := belowA (Below.refl _ _) _
      obtain ⟨b0, b1, b2, b3, b4, b5⟩ := facts6 hrb
      have HC := Lib.hid (refRightAtom_any x.head ⟨aA, an, ac⟩ (w.alloc (.cells #[.string x.head.rel, .slice aA an ac, .int .i64 x.agg, .int .i64 x.col, .slice A n c, .int .i64 x.pos] 103)) (HK.out.keep hba).args)
      go_enter Tryz.func42, Tryz.ntmps42
      go_wp2_with fail
      refine HC.out.mono ?_
      rintro r w1 ⟨rfl, hb1⟩
      have hr1 := (hb1.block _ (Array.getElem?_eq_some_iff.1 hrb).1).trans hrb
      have Hb1 := Lib.hid (below_next hba hb1)
      clear b0 b1 b2 b3 b4 b5 HC hb1 hba hrb
      obtain ⟨b0, b1, b2, b3, b4, b5⟩ := facts6 hr1
      cases hq : atomB x.head with
      | false =>
        clear hq
        go_wp2_with fail
        first | exact HB.out _ Hb1.out | (go_ret; exact HB.out _ Hb1.out)
      | true =>
        clear hq
        go_wp2_with fail
        first | exact HB.out _ Hb1.out | (go_ret; exact HB.out _ Hb1.out)
  have z0 : (x.agg == 0) = false := by simp [hz]
  have z1 : 0 < x.agg := by omega
  by_cases hc0 : x.col < 0
  · have HB := Lib.hid (HBg.out (by unfold aggB; rw [if_neg hz]; have h9 : ¬ 0 ≤ x.col := by omega
                                    simp [h9]))
    clear HBA HBL HBg hz
    clear HGood
    have hrb : (w.alloc (.cells #[.string x.head.rel, .slice aA an ac, .int .i64 x.agg, .int .i64 x.col, .slice A n c, .int .i64 x.pos] 103)).heap[w.heap.size]? = some (.cells #[.string x.head.rel, .slice aA an ac, .int .i64 x.agg, .int .i64 x.col, .slice A n c, .int .i64 x.pos] 103 (0, 0)) := heapNew rfl
    have hba : Below w.heap.size w (w.alloc (.cells #[.string x.head.rel, .slice aA an ac, .int .i64 x.agg, .int .i64 x.col, .slice A n c, .int .i64 x.pos] 103)) := belowA (Below.refl _ _) _
    obtain ⟨b0, b1, b2, b3, b4, b5⟩ := facts6 hrb
    have HC := Lib.hid (refRightAtom_any x.head ⟨aA, an, ac⟩ (w.alloc (.cells #[.string x.head.rel, .slice aA an ac, .int .i64 x.agg, .int .i64 x.col, .slice A n c, .int .i64 x.pos] 103)) (HK.out.keep hba).args)
    go_enter Tryz.func42, Tryz.ntmps42
    go_wp2_with fail
    refine HC.out.mono ?_
    rintro r w1 ⟨rfl, hb1⟩
    have hr1 := (hb1.block _ (Array.getElem?_eq_some_iff.1 hrb).1).trans hrb
    have Hb1 := Lib.hid (below_next hba hb1)
    clear b0 b1 b2 b3 b4 b5 HC hb1 hba hrb
    obtain ⟨b0, b1, b2, b3, b4, b5⟩ := facts6 hr1
    cases hq : atomB x.head with
    | false =>
      clear hq
      go_wp2_with fail
      first | exact HB.out _ Hb1.out | (go_ret; exact HB.out _ Hb1.out)
    | true =>
      clear hq
      go_wp2_with fail
      first | exact HB.out _ Hb1.out | (go_ret; exact HB.out _ Hb1.out)
  obtain ⟨k0, hk0⟩ : ∃ k0 : Nat, x.col = (k0 : Int) := ⟨x.col.toNat, by omega⟩
  have Hk0 := Lib.hid hk0
  have k00 : (0 : Int) ≤ (k0 : Int) := by omega
  have k01 : ¬ (k0 : Int) < 0 := by omega
  simp only [hk0]
  clear hc0
  by_cases hca : (an : Int) ≤ (k0 : Int)
  · have HB := Lib.hid (HBg.out (by
      unfold aggB varAt
      rw [if_neg hz, Hk0.out, Int.toNat_natCast, List.getElem?_eq_none (by have := Hla.out; omega)]
      simp))
    clear HBA HBL HBg hz hk0
    clear HGood
    have hrb : (w.alloc (.cells #[.string x.head.rel, .slice aA an ac, .int .i64 x.agg, .int .i64 (k0 : Int), .slice A n c, .int .i64 x.pos] 103)).heap[w.heap.size]? = some (.cells #[.string x.head.rel, .slice aA an ac, .int .i64 x.agg, .int .i64 (k0 : Int), .slice A n c, .int .i64 x.pos] 103 (0, 0)) := heapNew rfl
    have hba : Below w.heap.size w (w.alloc (.cells #[.string x.head.rel, .slice aA an ac, .int .i64 x.agg, .int .i64 (k0 : Int), .slice A n c, .int .i64 x.pos] 103)) := belowA (Below.refl _ _) _
    obtain ⟨b0, b1, b2, b3, b4, b5⟩ := facts6 hrb
    have HC := Lib.hid (refRightAtom_any x.head ⟨aA, an, ac⟩ (w.alloc (.cells #[.string x.head.rel, .slice aA an ac, .int .i64 x.agg, .int .i64 (k0 : Int), .slice A n c, .int .i64 x.pos] 103)) (HK.out.keep hba).args)
    go_enter Tryz.func42, Tryz.ntmps42
    go_wp2_with fail
    refine HC.out.mono ?_
    rintro r w1 ⟨rfl, hb1⟩
    have hr1 := (hb1.block _ (Array.getElem?_eq_some_iff.1 hrb).1).trans hrb
    have Hb1 := Lib.hid (below_next hba hb1)
    clear b0 b1 b2 b3 b4 b5 HC hb1 hba hrb
    obtain ⟨b0, b1, b2, b3, b4, b5⟩ := facts6 hr1
    cases hq : atomB x.head with
    | false =>
      clear hq
      go_wp2_with fail
      first | exact HB.out _ Hb1.out | (go_ret; exact HB.out _ Hb1.out)
    | true =>
      clear hq
      go_wp2_with fail
      first | exact HB.out _ Hb1.out | (go_ret; exact HB.out _ Hb1.out)
  have hca' : (k0 : Int) < (an : Int) := by omega
  have hca3 : decide (an ≤ k0) = false := by simp; omega
  have hca4 : ¬ an ≤ k0 := by omega
  obtain ⟨ba, oa, t, hA', hbA, ht, x0, x1, x2, x3, f1, f2⟩ := HK.out.args.told_at (i := k0) (by show k0 < an; omega)
  try simp only at hA'
  subst hA'
  have Ht := Lib.hid (fun (W : World) (hb : Below w.heap.size w W) => below_cell hb x0)
  by_cases hts : t.x.size = 0
  · have t0 : ((t.x.size : Int) == 0) = true := by simp [hts]
    have HB := Lib.hid (HBg.out (by
      unfold aggB varAt
      rw [if_neg hz, Hk0.out, Int.toNat_natCast, ht.out]
      simp [hts]))
    clear HBA HBL HBg hz hk0 ht x0 x1 x2 x3
    clear HGood
    have hrb : (w.alloc (.cells #[.string x.head.rel, .slice (some ⟨ba, oa, none⟩) an ac, .int .i64 x.agg, .int .i64 (k0 : Int), .slice A n c, .int .i64 x.pos] 103)).heap[w.heap.size]? = some (.cells #[.string x.head.rel, .slice (some ⟨ba, oa, none⟩) an ac, .int .i64 x.agg, .int .i64 (k0 : Int), .slice A n c, .int .i64 x.pos] 103 (0, 0)) := heapNew rfl
    have hba : Below w.heap.size w (w.alloc (.cells #[.string x.head.rel, .slice (some ⟨ba, oa, none⟩) an ac, .int .i64 x.agg, .int .i64 (k0 : Int), .slice A n c, .int .i64 x.pos] 103)) := belowA (Below.refl _ _) _
    obtain ⟨b0, b1, b2, b3, b4, b5⟩ := facts6 hrb
    have HC := Lib.hid (refRightAtom_any x.head ⟨(some ⟨ba, oa, none⟩), an, ac⟩ (w.alloc (.cells #[.string x.head.rel, .slice (some ⟨ba, oa, none⟩) an ac, .int .i64 x.agg, .int .i64 (k0 : Int), .slice A n c, .int .i64 x.pos] 103)) (HK.out.keep hba).args)
    go_enter Tryz.func42, Tryz.ntmps42
    go_wp2_with fail
    refine HC.out.mono ?_
    rintro r w1 ⟨rfl, hb1⟩
    have hr1 := (hb1.block _ (Array.getElem?_eq_some_iff.1 hrb).1).trans hrb
    have Hb1 := Lib.hid (below_next hba hb1)
    clear b0 b1 b2 b3 b4 b5 HC hb1 hba hrb
    obtain ⟨b0, b1, b2, b3, b4, b5⟩ := facts6 hr1
    have x0 := Ht.out w1 Hb1.out
    cases hq : atomB x.head with
    | false =>
      clear hq
      go_wp2_with fail
      first | exact HB.out _ Hb1.out | (go_ret; exact HB.out _ Hb1.out)
    | true =>
      clear hq
      go_wp2_with fail
      first | exact HB.out _ Hb1.out | (go_ret; exact HB.out _ Hb1.out)
  · have t0 : ((t.x.size : Int) == 0) = false := by rw [beq_eq_false_iff_ne]; omega
    have HGood := Lib.hid (HGood.out (by
      unfold aggB varAt
      rw [if_neg hz, Hk0.out, Int.toNat_natCast, ht.out]
      have h1 : 0 ≤ x.agg := by omega
      have h2 : x.agg ≤ 4 := by omega
      simp [hts, h1, h2]))
    clear HBg hz hk0 ht x0 x1 x2 x3
    have hrb : (w.alloc (.cells #[.string x.head.rel, .slice (some ⟨ba, oa, none⟩) an ac, .int .i64 x.agg, .int .i64 (k0 : Int), .slice A n c, .int .i64 x.pos] 103)).heap[w.heap.size]? = some (.cells #[.string x.head.rel, .slice (some ⟨ba, oa, none⟩) an ac, .int .i64 x.agg, .int .i64 (k0 : Int), .slice A n c, .int .i64 x.pos] 103 (0, 0)) := heapNew rfl
    have hba : Below w.heap.size w (w.alloc (.cells #[.string x.head.rel, .slice (some ⟨ba, oa, none⟩) an ac, .int .i64 x.agg, .int .i64 (k0 : Int), .slice A n c, .int .i64 x.pos] 103)) := belowA (Below.refl _ _) _
    obtain ⟨b0, b1, b2, b3, b4, b5⟩ := facts6 hrb
    have HC := Lib.hid (refRightAtom_any x.head ⟨(some ⟨ba, oa, none⟩), an, ac⟩ (w.alloc (.cells #[.string x.head.rel, .slice (some ⟨ba, oa, none⟩) an ac, .int .i64 x.agg, .int .i64 (k0 : Int), .slice A n c, .int .i64 x.pos] 103)) (HK.out.keep hba).args)
    go_enter Tryz.func42, Tryz.ntmps42
    go_wp2_with fail
    refine HC.out.mono ?_
    rintro r w1 ⟨rfl, hb1⟩
    have hr1 := (hb1.block _ (Array.getElem?_eq_some_iff.1 hrb).1).trans hrb
    have Hb1 := Lib.hid (below_next hba hb1)
    clear b0 b1 b2 b3 b4 b5 HC hb1 hba hrb
    obtain ⟨b0, b1, b2, b3, b4, b5⟩ := facts6 hr1
    have x0 := Ht.out w1 Hb1.out
    cases hq : atomB x.head with
    | false =>
      have HB2 := Lib.hid (HBA.out hq)
      clear hq HGood HBA HBL
      go_wp2_with fail
      first | exact HB2.out _ Hb1.out | (go_ret; exact HB2.out _ Hb1.out)
    | true =>
      have HG2 := Lib.hid (HGood.out hq)
      have HR1 := Lib.hid hr1
      clear hq HGood HBA hr1
      go_wp2_with fail
      clear b0 b1 b2 b3 b4 b5
      go_loopw [3] (fun i wr => ∃ k : Nat, k ≤ n ∧ i = .int .i64 k ∧ Hid ((x.body.take k).all rightLit = true) ∧ Hid (wr.heap[w.heap.size]? = some (.cells #[.string x.head.rel, .slice (some ⟨ba, oa, none⟩) an ac, .int .i64 x.agg, .int .i64 (k0 : Int), .slice A n c, .int .i64 x.pos] 103 (0, 0))) ∧ Hid (Below w.heap.size w wr)) (fun i _ => n - (intOf i).toNat)
      case atStart => exact ⟨0, by omega, rfl, by show _ = _; simp, HR1, Hb1⟩
      case round =>
        obtain ⟨k, hk, rfl, HA, HR2, HBr⟩ := hrel
        clear HR1 Hb1
        have i0 : (0 : Int) ≤ (k : Int) := by omega
        obtain ⟨b0, b1, b2, b3, b4, b5⟩ := facts6 HR2.out
        by_cases hlt : k < n
        · have i1 : (k : Int) < (n : Int) := by omega
          obtain ⟨b, o, y, a', p', q', hAA, hbb, hy, hly, hr⟩ := (HK.out.keep HBr.out).body.lit_range hlt
          simp only at hAA
          subst hAA
          have HL := Lib.hid (refRightLit_any d y a' p' q' wr hly)
          have HT1 : Hid (rightLit y = true → (x.body.take (k + 1)).all rightLit = true) := fun h => by rw [all_take hy.out, HA.out, h]; rfl
          have HT2 := Lib.hid (fun h => HBL.out (all_false hy.out h))
          clear hy hly
          go_wp2_with (first
            | refine wpList_load_mid rfl 129 (.tmp 73) rfl b (o + k * 17) rfl (litC y a' p' q') _ hr.out Tryz.underlying129 rfl (lit5_size y a' p' q') ?_)
          refine HL.out.mono ?_
          rintro r w2 ⟨rfl, hb2⟩
          have HB2 := Lib.hid (below_next HBr.out hb2)
          have HR3 := Lib.hid ((hb2.block _ (Array.getElem?_eq_some_iff.1 HR2.out).1).trans HR2.out)
          clear hb2 hr HL b0 b1 b2 b3 b4 b5
          cases hq : rightLit y with
          | false =>
            have HB3 := Lib.hid (HT2.out hq)
            clear hq HT1 HT2
            go_wp2_with fail
            first | exact HB3.out _ HB2.out | (go_ret; exact HB3.out _ HB2.out)
          | true =>
            have HA2 := Lib.hid (HT1.out hq)
            clear hq HT1 HT2
            go_wp2_with fail
            go_roundw
            case rel => exact ⟨k + 1, by omega, by go_num, HA2, HR3, HB2⟩
            case measure => simp [intOf]; omega
        · have i1 : ¬ (k : Int) < (n : Int) := by omega
          have HG3 := Lib.hid (HG2.out (by have := HA.out; rwa [List.take_of_length_le (by have := Hlen.out; omega)] at this))
          clear HG2
          go_wp2_with fail
          first | exact HG3.out _ HBr.out | (go_ret; exact HG3.out _ HBr.out)
end Go.Proofs.YtiffmiabhapfnaaGreatDoor

/- corollarylaw05.Atom, Literal: an atom and a literal of the program's as the document's. -/
namespace Go.Proofs.YtiffmiabhapfnaaGreatDoor
open Go.RowKit

theorem told_okA {w : World} {B : Nat} {A : Option Addr} {n c : Nat} {l : List GTold} (h : SliceIs Enc.told w B A n c l) : ∀ t ∈ l, t.x.size ≤ reachN ∧ t.v.ok := by
  intro t ht
  rcases h.2.2.2.2 with h4 | ⟨b, o, _, _, hc⟩
  · subst h4; cases ht
  · obtain ⟨i, hi⟩ := List.mem_iff_getElem?.1 ht
    obtain ⟨cs, hok, _⟩ := hc i t hi
    exact hok.2
def CopyAtom (x : GAtom) (w : World) (r : Ending) (w' : World) : Prop :=
  ∃ (A : Option Addr) (c : Nat), r = .returned (.agg (atomC x ⟨A, x.args.length, c⟩).toArray) ∧ w'.ownsRow w.heap.size 34 4 (.slice A x.args.length c) x.args.length (x.args.flatMap GTold.cells) ∧ Below w.heap.size w w'
theorem own_far {w : World} {base : Nat} {A : Option Addr} {n c : Nat} {l : List GTold} (h : w.ownsRow base 34 4 (.slice A n c) n (l.flatMap GTold.cells)) (hl : l.length = n) (hn : n ≤ 1000000) (hok : ∀ t ∈ l, t.x.size ≤ reachN ∧ t.v.ok) : SliceFar Enc.told w (List.range base) A n c l := by
  have h2 := own_sans (S := List.range base) h (fun b hb' => by have := List.mem_range.1 hb'; omega)
  have h3 := SliceIs.of_flat (E := Enc.told) GTold.cells (fun _ => rfl) h2 hl (by simp [reachN]; omega) (fun q hq => ⟨rfl, hok q hq⟩)
  rw [sans_size] at h3
  exact h3
set_option maxRecDepth 100000 in
set_option maxHeartbeats 4000000 in
theorem copyAtom_any (x : GAtom) (a : Hd) (w : World) (hk : SliceIs Enc.told w w.heap.size a.A a.n a.c x.args) (hx : x.rel.size ≤ reachN) (hs : x.args.length ≤ 1500) :
    Calls Tryz.prog 66 #[.agg (atomC x a).toArray] w (CopyAtom x w) := by
  have hn := hk.bound
  have HK := Lib.hid hk
  have Hlen := Lib.hid hk.1
  have Hok := Lib.hid (told_okA hk)
  obtain ⟨P, HP⟩ : ∃ P : Ending → World → Prop, Hid (P = CopyAtom x w) := ⟨_, rfl⟩
  rw [← HP.out]
  obtain ⟨A, n, c⟩ := a
  dsimp only [Hd.v] at *
  have hrb : (w.alloc (.cells (atomC x ⟨A, n, c⟩).toArray 53)).heap[w.heap.size]? = some (.cells (atomC x ⟨A, n, c⟩).toArray 53 (0, 0)) := heapNew rfl
  obtain ⟨b0, b1⟩ := facts2 hrb
  dsimp only [Hd.v] at b0 b1
  have hr2 : (((w.alloc (.cells (atomC x ⟨A, n, c⟩).toArray 53)).alloc (.cells #[.string ⟨#[]⟩, .slice none 0 0] 100)).alloc (.cells (atomC x ⟨none, 0, 0⟩).toArray 100)).heap[w.heap.size + 2]? = some (.cells (atomC x ⟨none, 0, 0⟩).toArray 100 (0, 0)) := heapNew (by simp)
  have hr1 : (((w.alloc (.cells (atomC x ⟨A, n, c⟩).toArray 53)).alloc (.cells #[.string ⟨#[]⟩, .slice none 0 0] 100)).alloc (.cells (atomC x ⟨none, 0, 0⟩).toArray 100)).heap[w.heap.size + 1]? = some (.cells #[.string ⟨#[]⟩, .slice none 0 0] 100 (0, 0)) := heapOld (heapNew (by simp))
  have hbw : Below w.heap.size w (((w.alloc (.cells (atomC x ⟨A, n, c⟩).toArray 53)).alloc (.cells #[.string ⟨#[]⟩, .slice none 0 0] 100)).alloc (.cells (atomC x ⟨none, 0, 0⟩).toArray 100)) := belowA (belowA (belowA (Below.refl _ _) _) _) _
  have hzw : (((w.alloc (.cells (atomC x ⟨A, n, c⟩).toArray 53)).alloc (.cells #[.string ⟨#[]⟩, .slice none 0 0] 100)).alloc (.cells (atomC x ⟨none, 0, 0⟩).toArray 100)).heap.size = w.heap.size + 3 := by simp
  have Hx := Lib.hid hx
  clear hk hrb hx
  show Calls Tryz.prog 66 #[.agg #[.string x.rel, .slice A n c]] w P
  go_enter Tryz.func66, Tryz.ntmps66
  go_wp2_with fail
  try simp only [Nat.add_assoc, Nat.reduceAdd]
  generalize hw3 : ((w.alloc _).alloc _).alloc _ = w3
  rw [hw3] at hr2 hr1 hbw hzw
  have HZ := Lib.hid hzw
  clear hzw b0 b1 hw3
  go_loopw [12] (fun i wr => ∃ (j c' : Nat) (A' : Option Addr), j ≤ n ∧ i = .int .i64 j ∧ Hid (wr.ownsRow (w.heap.size + 3) 34 4 (.slice A' j c') j ((x.args.take j).flatMap GTold.cells)) ∧ wr.heap[w.heap.size + 2]? = some (.cells (atomC x ⟨A', j, c'⟩).toArray 100 (0, 0)) ∧ wr.heap[w.heap.size + 1]? = some (.cells #[.string ⟨#[]⟩, .slice none 0 0] 100 (0, 0)) ∧ Below w.heap.size w wr ∧ w.heap.size + 3 ≤ wr.heap.size) (fun i _ => n - (intOf i).toNat)
  case atStart => exact ⟨0, 0, none, by omega, rfl, World.ownsRow_nil _ _ _ _, hr2, hr1, hbw, by have := HZ.out; omega⟩
  case round =>
    obtain ⟨j, c', A', hj, rfl, HO, hg, hg1, hbr, hzr⟩ := hrel
    have i0 : (0 : Int) ≤ (j : Int) := by omega
    obtain ⟨q0, q1⟩ := facts2 hg
    dsimp only [Hd.v] at q0 q1
    by_cases hlt : j < n
    · have i1 : (j : Int) < (n : Int) := by omega
      obtain ⟨b, o, t, rfl, hb, ht, x0, x1, x2, x3, f1, f2⟩ := (HK.out.below hbr).told_at hlt
      have HT : Hid (x.args.take (j + 1) = x.args.take j ++ [t]) := by show _ = _; rw [List.take_add_one, ht.out]; rfl
      have hba : Below wr.heap.size wr (wr.alloc (.cells #[.string t.x, .int .i64 t.v.k, .int .i64 t.v.n, .string t.v.s] 26)) := belowA (Below.refl _ _) _
      have hn1 : j + 1 ≤ 1500 := by have := Hlen.out; omega
      have hgA := heapOld (o := .cells #[.string t.x, .int .i64 t.v.k, .int .i64 t.v.n, .string t.v.s] 26) hg
      have hg1A := heapOld (o := .cells #[.string t.x, .int .i64 t.v.k, .int .i64 t.v.n, .string t.v.s] 26) hg1
      obtain ⟨r0, r1⟩ := facts2 hgA
      dsimp only [Hd.v] at r0 r1
      have HOA := own_below HO.out hba
      obtain ⟨A2, c2, w4, hrun, hown2, hb4, hk4⟩ := term5_push HOA t (by omega) (by simp; omega)
      simp only [World.size_alloc] at hrun
      have HRun := Lib.hid hrun
      have hbA := below_next hbr hba
      have hgB := hk4 _ _ _ _ hgA (by decide)
      have hg1B := hk4 _ _ _ _ hg1A (by decide)
      have hz4 : wr.heap.size + 1 ≤ w4.heap.size := by have := hb4.size; simp at this; exact this
      have hB2 : Below w.heap.size w (w4.setCell ⟨w.heap.size + 2, 1, none⟩ (.slice A2 (j + 1) c2)) := (hbA.trans (hb4.mono (by omega))).setCell (by show w.heap.size ≤ w.heap.size + 2; omega) _
      have HO2 : Hid ((w4.setCell ⟨w.heap.size + 2, 1, none⟩ (.slice A2 (j + 1) c2)).ownsRow (w.heap.size + 3) 34 4 (.slice A2 (j + 1) c2) (j + 1) ((x.args.take (j + 1)).flatMap GTold.cells)) := by
        show World.ownsRow _ _ _ _ _ _ _
        rw [HT.out]
        exact own_out' hown2 (set_out w4 _ 1 _) (fun b hb hb' => by have := (own_blk hown2 hb).1; simp at hb'; omega)
      have hG2 : (w4.setCell ⟨w.heap.size + 2, 1, none⟩ (.slice A2 (j + 1) c2)).heap[w.heap.size + 2]? = some (.cells (atomC x ⟨A2, j + 1, c2⟩).toArray 100 (0, 0)) := set_one hgB
      have hG1 : (w4.setCell ⟨w.heap.size + 2, 1, none⟩ (.slice A2 (j + 1) c2)).heap[w.heap.size + 1]? = some (.cells #[.string ⟨#[]⟩, .slice none 0 0] 100 (0, 0)) := (World.heap_setCells_other' (by omega)).trans hg1B
      have hzs : (w4.setCell ⟨w.heap.size + 2, 1, none⟩ (.slice A2 (j + 1) c2)).heap.size = w4.heap.size := World.size_setCell'
      have HZ2 : Hid (w.heap.size + 3 ≤ (w4.setCell ⟨w.heap.size + 2, 1, none⟩ (.slice A2 (j + 1) c2)).heap.size) := by show _ ≤ _; rw [hzs]; omega
      have k1 : w4.cell? ⟨w.heap.size + 2, 1, none⟩ = some (.slice A' j c') := (cell_of_row _ _ 1 _ _ _ hgB).trans rfl
      have k2 : w4.frozen? ⟨w.heap.size + 2, 1, none⟩ = false := frozen_of_row _ _ _ _ _ hgB
      have HG2 := Lib.hid hG2
      have HG1 := Lib.hid hG1
      have HB2 := Lib.hid hB2
      clear hrun hown2 hk4 hgA hg1A hgB hg1B hb4 hba hbA HOA HO ht hzs hG2 hG1 hB2 hg hg1
      go_wp2_with (at_builtin; refine wpList_append_run (o := ⟨some 20, _, _, _, _, _⟩) rfl _ _ _ rfl _ _ rfl rfl (HRun.out _) ?_)
      go_roundw
      case rel => exact ⟨j + 1, c2, A2, by omega, by go_num, HO2, HG2.out, HG1.out, HB2.out, HZ2.out⟩
      case measure => simp [intOf]; omega
    · have i1 : ¬ (j : Int) < (n : Int) := by omega
      have hjn : j = n := by omega
      subst hjn
      have hll := Hlen.out
      have hS := setRow_at (cs' := (atomC x ⟨A', j, c'⟩).toArray) hg1
      obtain ⟨s0, s1⟩ := facts2 hS
      dsimp only [Hd.v] at s0 s1
      have hbS : Below w.heap.size w (wr.setRow (w.heap.size + 1) (atomC x ⟨A', j, c'⟩).toArray) := ⟨hbr.os, hbr.tape, hbr.output, by rw [setRow_size]; exact hbr.size, fun x hx => (setRow_ne (by omega)).trans (hbr.block x hx)⟩
      have hoS : Out [w.heap.size + 1] wr (wr.setRow (w.heap.size + 1) (atomC x ⟨A', j, c'⟩).toArray) := ⟨rfl, rfl, rfl, by rw [setRow_size]; exact Nat.le_refl _, fun x _ hx => setRow_ne (by simpa using hx)⟩
      have hO3 := own_out' HO.out hoS (fun b hb hb' => by have := (own_blk HO.out hb).1; simp at hb'; omega)
      rw [List.take_of_length_le (by omega)] at hO3
      have hpost : P (.returned (.agg (atomC x ⟨A', j, c'⟩).toArray)) (wr.setRow (w.heap.size + 1) (atomC x ⟨A', j, c'⟩).toArray) := by
        rw [HP.out]
        refine ⟨A', c', by rw [hll], ?_, hbS⟩
        rw [hll]
        refine ⟨hO3.1, ?_⟩
        rcases hO3.2 with hn | ⟨g, cap, cur, hv, hbg, rest⟩
        · exact .inl hn
        · exact .inr ⟨g, cap, cur, hv, by omega, rest⟩
      have HPo := Lib.hid hpost
      clear HO hO3 hll hpost hoS hbS hS HP
      go_wp2_with (refine wpList_store_rowTo rfl 100 (.tmp 2) (.tmp 23) rfl rfl (w.heap.size + 1) (atomC x ⟨A', j, c'⟩).toArray rfl rfl 100 #[.string ⟨#[]⟩, .slice none 0 0] hg1 (by kernel_rfl) rfl (by simp [Value.oneCell']) ?_)
      refine bodyPost_ret (v := .agg (atomC x ⟨A', j, c'⟩).toArray) ?_ rfl HPo.out
      simp [results, Tryz.results66, go_sem, s0, s1]

/-- a literal whose rows are new -/
def CopyLit (d : Nat) (x : GLit) (w : World) (r : Ending) (w' : World) : Prop :=
  ∃ a p q : Hd, r = .returned (.agg (litC x a p q).toArray) ∧ LitAt d (sans w' (List.range w.heap.size)) w'.heap.size x a p q ∧ Below w.heap.size w w'
def litF (d : Nat) (x : GLit) (a p q : Hd) (g n0 : Nat) (i : Nat) (v : Value) (W : World) : Prop := match i with
  | 0 => v = .pointer (some ⟨g, 0, none⟩)
  | 1 => v = .int .i64 x.k
  | 2 => v = .pointer (some ⟨g, 1, none⟩)
  | 3 => v = .agg (atomC x.atom a).toArray
  | 4 => ∃ (A : Option Addr) (c : Nat), v = .agg (atomC x.atom ⟨A, x.atom.args.length, c⟩).toArray ∧ SliceFar Enc.told W (List.range n0) A x.atom.args.length c x.atom.args
  | 5 => v = .pointer (some ⟨g, 3, none⟩)
  | 6 => v = .int .i64 x.op
  | 7 => v = .pointer (some ⟨g, 4, none⟩)
  | 8 => v = .agg (expC x.l p.A p.n p.c).toArray
  | 9 => ∃ (A : Option Addr) (c : Nat), v = expV x.l A x.l.kids.length c ∧ SliceFar (Enc.exp d) W (List.range n0) A x.l.kids.length c x.l.kids
  | 10 => v = .pointer (some ⟨g, 10, none⟩)
  | 11 => v = .agg (expC x.r q.A q.n q.c).toArray
  | 12 => ∃ (A : Option Addr) (c : Nat), v = expV x.r A x.r.kids.length c ∧ SliceFar (Enc.exp d) W (List.range n0) A x.r.kids.length c x.r.kids
  | 13 => v = .pointer (some ⟨g, 16, none⟩)
  | 14 => v = .int .i64 x.pos
  | 15 => ∃ a p q : Hd, v = .agg (litC x a p q).toArray ∧ SliceFar Enc.told W (List.range n0) a.A a.n a.c x.atom.args ∧ SliceFar (Enc.exp d) W (List.range n0) p.A p.n p.c x.l.kids ∧ SliceFar (Enc.exp d) W (List.range n0) q.A q.n q.c x.r.kids
  | _ => True
theorem litF_keep {d : Nat} {x : GLit} {a p q : Hd} {g n0 i : Nat} {v : Value} {W W' : World} (h : litF d x a p q g n0 i v W) (hb : Below W.heap.size W W') : litF d x a p q g n0 i v W' := by
  match i, h with
  | 0, h => exact h
  | 1, h => exact h
  | 2, h => exact h
  | 3, h => exact h
  | 4, ⟨A, c, h1, h2⟩ => exact ⟨A, c, h1, h2.on hb⟩
  | 5, h => exact h
  | 6, h => exact h
  | 7, h => exact h
  | 8, h => exact h
  | 9, ⟨A, c, h1, h2⟩ => exact ⟨A, c, h1, h2.on hb⟩
  | 10, h => exact h
  | 11, h => exact h
  | 12, ⟨A, c, h1, h2⟩ => exact ⟨A, c, h1, h2.on hb⟩
  | 13, h => exact h
  | 14, h => exact h
  | 15, ⟨a, p, q, h1, h2, h3, h4⟩ => exact ⟨a, p, q, h1, h2.on hb, h3.on hb, h4.on hb⟩
  | _ + 16, _ => exact trivial
/-- what is new in a later call is new in the caller's eyes -/
theorem SliceFar.low {α : Type} {E : Enc α} {w : World} {n n0 : Nat} {A : Option Addr} {k c : Nat} {l : List α} (h : SliceFar E w (List.range n) A k c l) (hn : n0 ≤ n) : SliceFar E w (List.range n0) A k c l :=
  SliceFar.out (S := []) h (Out.refl _ _) (fun _ h _ => by cases h) (fun b hb _ => List.mem_range.2 (by have := List.mem_range.1 hb; omega))
abbrev zlC : List Value := [.int .i64 0, .string ⟨#[]⟩, .slice none 0 0, .int .i64 0, .int .i64 0, .string ⟨#[]⟩, .int .i64 0, .int .i64 0, .string ⟨#[]⟩, .slice none 0 0, .int .i64 0, .string ⟨#[]⟩, .int .i64 0, .int .i64 0, .string ⟨#[]⟩, .slice none 0 0, .int .i64 0]
set_option maxRecDepth 100000 in
set_option maxHeartbeats 4000000 in
theorem copyLit_any (d : Nat) (x : GLit) (a p q : Hd) (w : World) (hk : LitAt d w w.heap.size x a p q) (hs : SmLit x) :
    Calls Tryz.prog 67 #[.agg (litC x a p q).toArray] w (CopyLit d x w) := by
  have mixed : Tryz.prog.follows .mixedOrders = true := by kernel_rfl
  have hg0 : ((w.alloc (.cells (litC x a p q).toArray 63)).alloc (.cells zlC.toArray 129)).heap[w.heap.size]? = some (.cells (litC x a p q).toArray 63 (0, 0)) := heapOld (heapNew rfl)
  have hg1 : ((w.alloc (.cells (litC x a p q).toArray 63)).alloc (.cells zlC.toArray 129)).heap[w.heap.size + 1]? = some (.cells zlC.toArray 129 (0, 0)) := heapNew (by simp)
  have hbw : Below w.heap.size w ((w.alloc (.cells (litC x a p q).toArray 63)).alloc (.cells zlC.toArray 129)) := belowA (belowA (Below.refl _ _) _) _
  have hzw : ((w.alloc (.cells (litC x a p q).toArray 63)).alloc (.cells zlC.toArray 129)).heap.size = w.heap.size + 2 := by simp
  go_enter Tryz.func67, Tryz.ntmps67
  go_wp2_with fail
  generalize hwb : (w.alloc _).alloc _ = wb
  rw [hwb] at hg0 hg1 hbw hzw
  clear hwb
  have HK := Lib.hid (hk.keep hbw)
  have C1 := Lib.hid (fun (W : World) (h : Below wb.heap.size wb W) => copyAtom_any x.atom a W ((HK.out.keep h).args) hk.rel hs.args)
  have C2 := Lib.hid (fun (W : World) (h : Below wb.heap.size wb W) => copyExp_any d x.l p.A p.n p.c W ((HK.out.keep h).lk) hs.l hk.lop hk.lx hk.lv)
  have C3 := Lib.hid (fun (W : World) (h : Below wb.heap.size wb W) => copyExp_any d x.r q.A q.n q.c W ((HK.out.keep h).rk) hs.r hk.rop hk.rx hk.rv)
  refine drawn2 mixed 16 19 [3, 4, 5, 6, 7, 8, 9, 10, 11, 12, 13, 14, 15, 16, 17, 18] (fun _ W => Below wb.heap.size wb W) (litF d x a p q w.heap.size wb.heap.size) (fun _ W W' => Below W.heap.size W W') rfl (by kernel_rfl) (by kernel_rfl) rfl (fun j _ => below_drewN _ 1 _) (fun i j v W W' _ _ _ h h' => litF_keep h h') (fun _ _ _ _ _ _ _ _ h h' => below_next h h') ?_ ?_
  · intro i o2 a2 W hi ho hd hold hG _ hw
    have hr1 : a2.tmps[1]? = some (.pointer (some ⟨w.heap.size, 0, none⟩)) := hold 1 (by kernel_rfl)
    have hgW := (hG.block _ (Array.getElem?_eq_some_iff.1 hg0).1).trans hg0
    have k0 : W.cell? ⟨w.heap.size, 0, none⟩ = some (.int .i64 x.k) := (cell_of_row _ _ 0 _ _ _ hgW).trans rfl
    have k3 : W.cell? ⟨w.heap.size, 3, none⟩ = some (.int .i64 x.op) := (cell_of_row _ _ 3 _ _ _ hgW).trans rfl
    have k16 : W.cell? ⟨w.heap.size, 16, none⟩ = some (.int .i64 x.pos) := (cell_of_row _ _ 16 _ _ _ hgW).trans rfl
    have hWz := hG.size
    clear hold
    match i, hi, ho with
    | 0, _, ho =>
      injection ho with ho; subst ho
      exact op_val _ (by simp [execOp, Act.eval, hr1, go_sem]) ⟨_, rfl, Below.refl _ _, rfl⟩
    | 1, _, ho =>
      injection ho with ho; subst ho
      obtain ⟨v0, h0, e0⟩ := hw 0 3 (by kernel_rfl)
      obtain rfl : v0 = _ := e0
      exact op_val _ (by simp [execOp, Act.eval, h0, go_sem, k0]) ⟨_, rfl, Below.refl _ _, rfl⟩
    | 2, _, ho =>
      injection ho with ho; subst ho
      exact op_val _ (by simp [execOp, Act.eval, hr1, go_sem]) ⟨_, rfl, Below.refl _ _, rfl⟩
    | 3, _, ho =>
      injection ho with ho; subst ho
      obtain ⟨v0, h0, e0⟩ := hw 2 5 (by kernel_rfl)
      obtain rfl : v0 = _ := e0
      exact wp_load_mid 53 (.tmp 5) rfl _ _ (eval_tmp h0) (atomC x.atom a) _ (range_off hgW rfl) Tryz.underlying53 rfl (atom_size _ _) ⟨_, rfl, Below.refl _ _, rfl⟩
    | 4, _, ho =>
      injection ho with ho; subst ho
      obtain ⟨v0, h0, e0⟩ := hw 3 6 (by kernel_rfl)
      obtain rfl : v0 = _ := e0
      refine op_call 66 _ rfl rfl #[.agg (atomC x.atom a).toArray] (by simp [Act.eval, h0]) _ Tryz.func66 (by kernel_rfl) (by kernel_rfl) ((C1.out W hG).mono ?_)
      rintro r w' ⟨A', c', rfl, hs', hb⟩
      exact ⟨_, rfl, _, rfl, hb, A', c', rfl, (own_far hs' rfl (by have := hs.args; omega) (told_okA hk.args)).low hWz⟩
    | 5, _, ho =>
      injection ho with ho; subst ho
      exact op_val _ (by simp [execOp, Act.eval, hr1, go_sem]) ⟨_, rfl, Below.refl _ _, rfl⟩
    | 6, _, ho =>
      injection ho with ho; subst ho
      obtain ⟨v0, h0, e0⟩ := hw 5 8 (by kernel_rfl)
      obtain rfl : v0 = _ := e0
      exact op_val _ (by simp [execOp, Act.eval, h0, go_sem, k3]) ⟨_, rfl, Below.refl _ _, rfl⟩
    | 7, _, ho =>
      injection ho with ho; subst ho
      exact op_val _ (by simp [execOp, Act.eval, hr1, go_sem]) ⟨_, rfl, Below.refl _ _, rfl⟩
    | 8, _, ho =>
      injection ho with ho; subst ho
      obtain ⟨v0, h0, e0⟩ := hw 7 10 (by kernel_rfl)
      obtain rfl : v0 = _ := e0
      exact wp_load_mid 29 (.tmp 10) rfl _ _ (eval_tmp h0) (expC x.l p.A p.n p.c) _ (range_off hgW rfl) Tryz.underlying29 rfl (exp_size _ _ _ _) ⟨_, rfl, Below.refl _ _, rfl⟩
    | 9, _, ho =>
      injection ho with ho; subst ho
      obtain ⟨v0, h0, e0⟩ := hw 8 11 (by kernel_rfl)
      obtain rfl : v0 = _ := e0
      refine op_call 9 _ rfl rfl #[expV x.l p.A p.n p.c] (by simp [Act.eval, h0]) _ Tryz.func9 (by kernel_rfl) (by kernel_rfl) ((C2.out W hG).mono ?_)
      rintro r w' ⟨A', c', rfl, hs', hb⟩
      exact ⟨_, rfl, _, rfl, hb, A', c', rfl, hs'.low hWz⟩
    | 10, _, ho =>
      injection ho with ho; subst ho
      exact op_val _ (by simp [execOp, Act.eval, hr1, go_sem]) ⟨_, rfl, Below.refl _ _, rfl⟩
    | 11, _, ho =>
      injection ho with ho; subst ho
      obtain ⟨v0, h0, e0⟩ := hw 10 13 (by kernel_rfl)
      obtain rfl : v0 = _ := e0
      exact wp_load_mid 29 (.tmp 13) rfl _ _ (eval_tmp h0) (expC x.r q.A q.n q.c) _ (range_off hgW rfl) Tryz.underlying29 rfl (exp_size _ _ _ _) ⟨_, rfl, Below.refl _ _, rfl⟩
    | 12, _, ho =>
      injection ho with ho; subst ho
      obtain ⟨v0, h0, e0⟩ := hw 11 14 (by kernel_rfl)
      obtain rfl : v0 = _ := e0
      refine op_call 9 _ rfl rfl #[expV x.r q.A q.n q.c] (by simp [Act.eval, h0]) _ Tryz.func9 (by kernel_rfl) (by kernel_rfl) ((C3.out W hG).mono ?_)
      rintro r w' ⟨A', c', rfl, hs', hb⟩
      exact ⟨_, rfl, _, rfl, hb, A', c', rfl, hs'.low hWz⟩
    | 13, _, ho =>
      injection ho with ho; subst ho
      exact op_val _ (by simp [execOp, Act.eval, hr1, go_sem]) ⟨_, rfl, Below.refl _ _, rfl⟩
    | 14, _, ho =>
      injection ho with ho; subst ho
      obtain ⟨v0, h0, e0⟩ := hw 13 16 (by kernel_rfl)
      obtain rfl : v0 = _ := e0
      exact op_val _ (by simp [execOp, Act.eval, h0, go_sem, k16]) ⟨_, rfl, Below.refl _ _, rfl⟩
    | 15, _, ho =>
      injection ho with ho; subst ho
      obtain ⟨v1, h1, e1⟩ := hw 1 4 (by kernel_rfl)
      obtain ⟨v4, h4, A4, c4, e4, f4⟩ := hw 4 7 (by kernel_rfl)
      obtain ⟨v6, h6, e6⟩ := hw 6 9 (by kernel_rfl)
      obtain ⟨v9, h9, A9, c9, e9, f9⟩ := hw 9 12 (by kernel_rfl)
      obtain ⟨v12, h12, A12, c12, e12, f12⟩ := hw 12 15 (by kernel_rfl)
      obtain ⟨v14, h14, e14⟩ := hw 14 17 (by kernel_rfl)
      obtain rfl : v1 = _ := e1
      obtain rfl : v4 = _ := e4
      obtain rfl : v6 = _ := e6
      obtain rfl : v9 = _ := e9
      obtain rfl : v12 = _ := e12
      obtain rfl : v14 = _ := e14
      exact op_build 129 _ rfl [(0, .int .i64 x.k), (1, .agg (atomC x.atom ⟨A4, x.atom.args.length, c4⟩).toArray), (2, .int .i64 x.op), (3, expV x.l A9 x.l.kids.length c9), (4, expV x.r A12 x.r.kids.length c12), (5, .int .i64 x.pos)] (litC x ⟨A4, x.atom.args.length, c4⟩ ⟨A9, x.l.kids.length, c9⟩ ⟨A12, x.r.kids.length, c12⟩).toArray (by simp [Act.eval, h1, h4, h6, h9, h12, h14]) (by kernel_rfl) ⟨_, rfl, Below.refl _ _, ⟨A4, x.atom.args.length, c4⟩, ⟨A9, x.l.kids.length, c9⟩, ⟨A12, x.r.kids.length, c12⟩, rfl, f4, f9, f12⟩
    | n + 16, hi, _ => omega
  · intro o2 u W ho hG hw
    obtain ⟨a', p', q', e0, h1, h2, h3⟩ := hw 15 18 (by decide) (by kernel_rfl)
    have hgW := (hG.block _ (Array.getElem?_eq_some_iff.1 hg1).1).trans hg1
    injection ho with ho; subst ho
    simp only [List.foldl_cons, List.foldl_nil, Act.put, List.setIfInBounds_toArray, List.set_cons_zero, List.set_cons_succ]
    rw [e0]
    refine wp_store_row 129 (.tmp 2) (.tmp 18) rfl (w.heap.size + 1) (litC x a' p' q').toArray rfl rfl 129 zlC.toArray hgW (by kernel_rfl) rfl (by simp [Value.oneCell']) ?_
    have hS := setRow_at (cs' := (litC x a' p' q').toArray) hgW
    have hoS : Out [w.heap.size + 1] W (W.setRow (w.heap.size + 1) (litC x a' p' q').toArray) := ⟨rfl, rfl, rfl, by rw [setRow_size]; exact Nat.le_refl _, fun x _ hx => setRow_ne (by simpa using hx)⟩
    have hfin : CopyLit d x w (.returned (.agg (litC x a' p' q').toArray)) (W.setRow (w.heap.size + 1) (litC x a' p' q').toArray) := by
      have t1 := h1.out hoS (U := List.range w.heap.size) (fun b hb _ => List.mem_range.2 (by simp at hb; omega)) (fun b hb _ => List.mem_range.2 (by have := List.mem_range.1 hb; omega))
      have t2 := h2.out hoS (U := List.range w.heap.size) (fun b hb _ => List.mem_range.2 (by simp at hb; omega)) (fun b hb _ => List.mem_range.2 (by have := List.mem_range.1 hb; omega))
      have t3 := h3.out hoS (U := List.range w.heap.size) (fun b hb _ => List.mem_range.2 (by simp at hb; omega)) (fun b hb _ => List.mem_range.2 (by have := List.mem_range.1 hb; omega))
      exact ⟨a', p', q', rfl, ⟨hk.k, hk.op, hk.pos, hk.rel, t1, hk.lop, hk.lx, hk.lv, t2, hk.rop, hk.rx, hk.rv, t3⟩, (hbw.trans (hG.mono (by omega))).trans (hoS.below (fun b hb => by simp at hb; omega) (by have := hG.size; omega))⟩
    have HF := Lib.hid hfin
    obtain ⟨s0, s1, s2, s3, s4, s5, s6, s7, s8, s9, s10, s11, s12, s13, s14, s15, s16⟩ := facts17 hS
    clear hfin hS hoS h1 h2 h3 hw C1 C2 C3 HK hk hs hG hgW hg0 hg1
    generalize W.setRow _ _ = W2 at *
    simp only [Act.put]
    go_wp2_with fail
    refine bodyPost_ret (v := .agg (litC x a' p' q').toArray) ?_ rfl HF.out
    simp [results, Tryz.results67, go_sem, s0, s1, s2, s3, s4, s5, s6, s7, s8, s9, s10, s11, s12, s13, s14, s15, s16]
end Go.Proofs.YtiffmiabhapfnaaGreatDoor

/- The document's SameRule. -/
namespace Go.Proofs.YtiffmiabhapfnaaGreatDoor
open Go.RowKit

def rrF (A : Option Addr) (n c : Nat) (B : Option Addr) (d : Nat) (b1 o1 b2 o2 : Nat) (k : Nat) (x1 y1 : List Value) (g : Nat) (i : Nat) (v : Value) (_W : World) : Prop := match i with
  | 0 => v = .pointer (some ⟨g, 4, none⟩)
  | 1 => v = .slice A n c
  | 2 => v = .int .i64 k
  | 3 => v = .pointer (some ⟨b1, o1 + k * 17, none⟩)
  | 4 => v = .agg x1.toArray
  | 5 => v = .pointer (some ⟨g + 1, 4, none⟩)
  | 6 => v = .slice B n d
  | 7 => v = .int .i64 k
  | 8 => v = .pointer (some ⟨b2, o2 + k * 17, none⟩)
  | 9 => v = .agg y1.toArray
  | _ => True
theorem bneq_of {a b : Int} (h : ¬ a = b) : (a != b) = true := by simp [h]
theorem bneq_no {a b : Int} (h : a = b) : (a != b) = false := by simp [h]
set_option maxRecDepth 100000 in
set_option maxHeartbeats 8000000 in
theorem refSameR_any (d1 d2 : Nat) (x y : GRule) (A : Option Addr) (na ca : Nat) (E : Option Addr) (n c : Nat) (A' : Option Addr) (na' ca' : Nat) (E' : Option Addr) (m d : Nat) (w : World)
    (hx : RuleAt d1 w w.heap.size x ⟨A, na, ca⟩ ⟨E, n, c⟩) (hy : RuleAt d2 w w.heap.size y ⟨A', na', ca'⟩ ⟨E', m, d⟩) :
    Calls Tryz.prog 47 #[.agg (ruleC x ⟨A, na, ca⟩ ⟨E, n, c⟩).toArray, .agg (ruleC y ⟨A', na', ca'⟩ ⟨E', m, d⟩).toArray] w (RetBool (sameR x y) w) := by
  have mixed : Tryz.prog.follows .mixedOrders = true := by kernel_rfl
  obtain ⟨R, HR⟩ : ∃ R, Hid (R = sameR x y) := ⟨_, rfl⟩
  rw [← HR.out]
  obtain ⟨P1, HP1⟩ : ∃ P, Hid (P = sameA x.head y.head) := ⟨_, rfl⟩
  have HR' : Hid (R = (P1 && (decide (x.agg = y.agg ∧ x.col = y.col) && eqL sameLt x.body y.body))) := by show _ = _; rw [HR.out, HP1.out]; rfl
  have hrX : ((w.alloc (.cells (ruleC x ⟨A, na, ca⟩ ⟨E, n, c⟩).toArray 103)).alloc (.cells (ruleC y ⟨A', na', ca'⟩ ⟨E', m, d⟩).toArray 103)).heap[w.heap.size]? = some (.cells (ruleC x ⟨A, na, ca⟩ ⟨E, n, c⟩).toArray 103 (0, 0)) := heapOld (heapNew rfl)
  have hrY : ((w.alloc (.cells (ruleC x ⟨A, na, ca⟩ ⟨E, n, c⟩).toArray 103)).alloc (.cells (ruleC y ⟨A', na', ca'⟩ ⟨E', m, d⟩).toArray 103)).heap[w.heap.size + 1]? = some (.cells (ruleC y ⟨A', na', ca'⟩ ⟨E', m, d⟩).toArray 103 (0, 0)) := heapNew (by simp)
  have hba : Below w.heap.size w ((w.alloc (.cells (ruleC x ⟨A, na, ca⟩ ⟨E, n, c⟩).toArray 103)).alloc (.cells (ruleC y ⟨A', na', ca'⟩ ⟨E', m, d⟩).toArray 103)) := belowA (belowA (Below.refl _ _) _) _
  go_enter Tryz.func47, Tryz.ntmps47
  have Hl1 := Lib.hid hx.body.1
  have Hl2 := Lib.hid hy.body.1
  have hn := hx.body.bound
  have hm := hy.body.bound
  obtain ⟨f0, f1, f2, f3, f4, f5⟩ := facts6 hrX
  obtain ⟨e0, e1, e2, e3, e4, e5⟩ := facts6 hrY
  have Hx := Lib.hid (hx.keep hba)
  have Hy := Lib.hid (hy.keep hba)
  have HX0 := Lib.hid hrX
  have HY0 := Lib.hid hrY
  have HB0 := Lib.hid hba
  clear hx hy HR hrX hrY hba
  go_wp2_with fail
  generalize hwb : (w.alloc _).alloc _ = wb at *
  clear hwb
  refine (refSameA_any x.head y.head A na ca A' na' ca' wb Hx.out.args Hy.out.args).mono ?_
  rintro e1' w1 ⟨rfl, hq1⟩
  rw [← HP1.out]
  have HX1 := Lib.hid ((hq1.block _ (Array.getElem?_eq_some_iff.1 HX0.out).1).trans HX0.out)
  have HY1 := Lib.hid ((hq1.block _ (Array.getElem?_eq_some_iff.1 HY0.out).1).trans HY0.out)
  have Hx1 := Lib.hid (Hx.out.keep hq1)
  have Hy1 := Lib.hid (Hy.out.keep hq1)
  have HB1 := Lib.hid (below_next HB0.out hq1)
  clear f0 f1 f2 f3 f4 f5 e0 e1 e2 e3 e4 e5 Hx Hy HX0 HY0 HB0 hq1 HP1
  obtain ⟨f0, f1, f2, f3, f4, f5⟩ := facts6 HX1.out
  obtain ⟨e0, e1, e2, e3, e4, e5⟩ := facts6 HY1.out
  cases P1 with
  | false =>
    have HF : Hid (R = false) := by show _ = _; rw [HR'.out]; rfl
    clear HR'
    go_wp2_with fail
    go_ret
    exact ⟨by rw [HF.out]; rfl, HB1.out⟩
  | true =>
    by_cases h1 : x.agg = y.agg
    rotate_left
    · have hs := bneq_of h1
      have HF : Hid (R = false) := by show _ = _; rw [HR'.out]; simp [h1]
      clear HR' h1
      go_wp2_with fail
      go_ret
      exact ⟨by rw [HF.out]; rfl, HB1.out⟩
    have hs1 := bneq_no h1
    by_cases h2 : x.col = y.col
    rotate_left
    · have hs := bneq_of h2
      have HF : Hid (R = false) := by show _ = _; rw [HR'.out]; simp [h2]
      clear HR' h1 h2
      go_wp2_with fail
      go_ret
      exact ⟨by rw [HF.out]; rfl, HB1.out⟩
    have hs2 := bneq_no h2
    have HR1 : Hid (R = eqL sameLt x.body y.body) := by show _ = _; rw [HR'.out]; simp [h1, h2]
    clear HR' h1 h2
    by_cases hnm : n = m
    rotate_left
    · have hq : ((n : Int) != (m : Int)) = true := by simp; omega
      have HF : Hid (R = false) := by show _ = _; rw [HR1.out]; exact eqL_len (by have h1 := Hl1.out; have h2 := Hl2.out; rw [h1, h2]; exact hnm)
      clear HR1 hnm
      go_wp2_with fail
      go_ret
      exact ⟨by rw [HF.out]; rfl, HB1.out⟩
    subst hnm
    have hq : ((n : Int) != (n : Int)) = false := by simp
    have HR0 : Hid (R = eqL sameLt (x.body.drop 0) (y.body.drop 0)) := HR1.out
    clear HR1
    go_wp2_with fail
    clear f0 f1 f2 f3 f4 f5 e0 e1 e2 e3 e4 e5 hs1 hs2 hq
    have Hbx := Lib.hid Hx1.out.body
    have Hby := Lib.hid Hy1.out.body
    clear Hx1 Hy1
    go_loopw [5] (fun i wr => ∃ k : Nat, k ≤ n ∧ i = .int .i64 k ∧ Hid (R = eqL sameLt (x.body.drop k) (y.body.drop k)) ∧ Hid (Below w1.heap.size w1 wr)) (fun i _ => n - (intOf i).toNat)
    case atStart => exact ⟨0, by omega, rfl, HR0, Below.refl _ _⟩
    case round =>
      clear HR0
      obtain ⟨k, hk, rfl, HRk, HBr⟩ := hrel
      have i0 : (0 : Int) ≤ (k : Int) := by omega
      have hgX := (HBr.out.block _ (Array.getElem?_eq_some_iff.1 HX1.out).1).trans HX1.out
      have hgY := (HBr.out.block _ (Array.getElem?_eq_some_iff.1 HY1.out).1).trans HY1.out
      have f4 : wr.cell? ⟨w.heap.size, 4, none⟩ = some (.slice E n c) := (cell_of_row _ _ 4 _ _ _ hgX).trans rfl
      by_cases hlt : k < n
      · have i1 : (k : Int) < (n : Int) := by omega
        obtain ⟨b1, o1, kx, cs1, hA1, _, h1, ok1, hc1⟩ := (Hbx.out.keep HBr.out).at_ hlt
        obtain ⟨b2, o2, ky, cs2, hA2, _, h2, ok2, hc2⟩ := (Hby.out.keep HBr.out).at_ hlt
        obtain ⟨a1, p1, q1, rfl, k1⟩ := ok1
        obtain ⟨a2, p2, q2, rfl, k2⟩ := ok2
        obtain rfl : E = _ := hA1
        obtain rfl : E' = _ := hA2
        have Hc1 : Hid (wr.rangeAt b1 (o1 + k * 17) (litC kx a1 p1 q1)) := fun j v hj => hc1 j v hj
        have Hc2 : Hid (wr.rangeAt b2 (o2 + k * 17) (litC ky a2 p2 q2)) := fun j v hj => hc2 j v hj
        have HRn : Hid (R = (sameLt kx ky && eqL sameLt (x.body.drop (k + 1)) (y.body.drop (k + 1)))) := by show _ = _; rw [HRk.out, eqL_drop h1.out h2.out]
        have HK1 := Lib.hid k1
        have HK2 := Lib.hid k2
        have HgX := Lib.hid hgX
        have HgY := Lib.hid hgY
        clear h1 h2 HRk hc1 hc2 k1 k2 hgX hgY
        go_wp2_with fail
        clear f4
        refine drawnJ3 mixed 13 90 [44, 45, 46, 47, 48, 49, 50, 51, 52, 53, 6, 7] (fun _ W => Below wr.heap.size wr W) (rrF (some ⟨b1, o1, none⟩) n c (some ⟨b2, o2, none⟩) d b1 o1 b2 o2 k (litC kx a1 p1 q1) (litC ky a2 p2 q2) w.heap.size) (fun _ W W' => Below wr.heap.size W W')
          (twoJ wr.heap.size 129 10 11 12 6 7 (litC kx a1 p1 q1).toArray zlC.toArray) rfl (by kernel_rfl) (by kernel_rfl) rfl ⟨0, 0, (fun h => by cases h), (fun h => by cases h), (fun h => by cases h), (fun h => by cases h)⟩ (fun j _ => below_drewN _ 1 _) (fun i j v W W' _ _ _ h _ => by unfold rrF at h ⊢; exact h) (fun _ _ _ _ _ _ _ _ h h' => h.trans h') ?_ ?_
        · intro l i o2' a2' W hJ hli hlw hi ho hd hsz hold hG _ hw
          have hr2 : a2'.tmps[2]? = some (.pointer (some ⟨w.heap.size, 0, none⟩)) := hold 2 (by kernel_rfl)
          have hr3 : a2'.tmps[3]? = some (.pointer (some ⟨w.heap.size + 1, 0, none⟩)) := hold 3 (by kernel_rfl)
          have hr5 : a2'.tmps[5]? = some (.int .i64 k) := hold 5 (by kernel_rfl)
          have hgX := (hG.block _ (Array.getElem?_eq_some_iff.1 HgX.out).1).trans HgX.out
          have hgY := (hG.block _ (Array.getElem?_eq_some_iff.1 HgY.out).1).trans HgY.out
          have f4 : W.cell? ⟨w.heap.size, 4, none⟩ = some (.slice (some ⟨b1, o1, none⟩) n c) := (cell_of_row _ _ 4 _ _ _ hgX).trans rfl
          have e4 : W.cell? ⟨w.heap.size + 1, 4, none⟩ = some (.slice (some ⟨b2, o2, none⟩) n d) := (cell_of_row _ _ 4 _ _ _ hgY).trans rfl
          clear hold
          match i, hi, ho with
          | 0, _, ho =>
            injection ho with ho; subst ho
            exact op_val _ (by simp [execOp, Act.eval, hr2, go_sem]) ⟨_, rfl, Below.refl _ _, rfl, fun l' h1 h2 => twoJ_val hJ (by decide) (by decide) (by decide) (by decide) (by decide) h1 h2⟩
          | 1, _, ho =>
            injection ho with ho; subst ho
            obtain ⟨v0, h0, e0'⟩ := hw 0 44 (by kernel_rfl)
            obtain rfl : v0 = _ := e0'
            exact op_val _ (by simp [execOp, Act.eval, h0, run_load1 Tryz.underlying101 f4]) ⟨_, rfl, Below.refl _ _, rfl, fun l' h1 h2 => twoJ_val hJ (by decide) (by decide) (by decide) (by decide) (by decide) h1 h2⟩
          | 2, _, ho =>
            injection ho with ho; subst ho
            exact op_assign (.tmp 5) (.inr rfl) _ (eval_tmp hr5) ⟨_, rfl, Below.refl _ _, rfl, fun l' h1 h2 => twoJ_val hJ (by decide) (by decide) (by decide) (by decide) (by decide) h1 h2⟩
          | 3, _, ho =>
            injection ho with ho; subst ho
            obtain ⟨v0, h0, e0'⟩ := hw 1 45 (by kernel_rfl)
            obtain rfl : v0 = _ := e0'
            obtain ⟨v1, h1, e1'⟩ := hw 2 46 (by kernel_rfl)
            obtain rfl : v1 = _ := e1'
            exact op_val _ (by simp [execOp, Act.eval, h0, h1, go_sem, i0, i1]) ⟨_, rfl, Below.refl _ _, rfl, fun l' h1 h2 => twoJ_val hJ (by decide) (by decide) (by decide) (by decide) (by decide) h1 h2⟩
          | 4, _, ho =>
            injection ho with ho; subst ho
            obtain ⟨v0, h0, e0'⟩ := hw 3 47 (by kernel_rfl)
            obtain rfl : v0 = _ := e0'
            exact wp_load_mid 129 (.tmp 47) rfl _ _ (eval_tmp h0) (litC kx a1 p1 q1) _ (range_below Hc1.out hG) Tryz.underlying129 rfl (lit5_size _ _ _ _) ⟨_, rfl, Below.refl _ _, rfl, fun l' h1 h2 => twoJ_val hJ (by decide) (by decide) (by decide) (by decide) (by decide) h1 h2⟩
          | 5, _, ho =>
            injection ho with ho; subst ho
            exact op_val _ (by simp [execOp, Act.eval, hr3, go_sem]) ⟨_, rfl, Below.refl _ _, rfl, fun l' h1 h2 => twoJ_val hJ (by decide) (by decide) (by decide) (by decide) (by decide) h1 h2⟩
          | 6, _, ho =>
            injection ho with ho; subst ho
            obtain ⟨v0, h0, e0'⟩ := hw 5 49 (by kernel_rfl)
            obtain rfl : v0 = _ := e0'
            exact op_val _ (by simp [execOp, Act.eval, h0, run_load1 Tryz.underlying101 e4]) ⟨_, rfl, Below.refl _ _, rfl, fun l' h1 h2 => twoJ_val hJ (by decide) (by decide) (by decide) (by decide) (by decide) h1 h2⟩
          | 7, _, ho =>
            injection ho with ho; subst ho
            exact op_assign (.tmp 5) (.inr rfl) _ (eval_tmp hr5) ⟨_, rfl, Below.refl _ _, rfl, fun l' h1 h2 => twoJ_val hJ (by decide) (by decide) (by decide) (by decide) (by decide) h1 h2⟩
          | 8, _, ho =>
            injection ho with ho; subst ho
            obtain ⟨v0, h0, e0'⟩ := hw 6 50 (by kernel_rfl)
            obtain rfl : v0 = _ := e0'
            obtain ⟨v1, h1, e1'⟩ := hw 7 51 (by kernel_rfl)
            obtain rfl : v1 = _ := e1'
            exact op_val _ (by simp [execOp, Act.eval, h0, h1, go_sem, i0, i1]) ⟨_, rfl, Below.refl _ _, rfl, fun l' h1 h2 => twoJ_val hJ (by decide) (by decide) (by decide) (by decide) (by decide) h1 h2⟩
          | 9, _, ho =>
            injection ho with ho; subst ho
            obtain ⟨v0, h0, e0'⟩ := hw 8 52 (by kernel_rfl)
            obtain rfl : v0 = _ := e0'
            exact wp_load_mid 129 (.tmp 52) rfl _ _ (eval_tmp h0) (litC ky a2 p2 q2) _ (range_below Hc2.out hG) Tryz.underlying129 rfl (lit5_size _ _ _ _) ⟨_, rfl, Below.refl _ _, rfl, fun l' h1 h2 => twoJ_val hJ (by decide) (by decide) (by decide) (by decide) (by decide) h1 h2⟩
          | 10, _, ho =>
            injection ho with ho; subst ho
            exact op_alloc 129 rfl zlC.toArray 17 (by kernel_rfl) ⟨_, rfl, below_al (Below.refl _ _) hG.size _, trivial, fun l' h1 h2 => twoJ_a0 hJ (by decide) (by decide) (by decide) (by rw [hsz]; decide) hG.size hli h1 h2⟩
          | 11, _, ho =>
            injection ho with ho; subst ho
            exact op_alloc 129 rfl zlC.toArray 17 (by kernel_rfl) ⟨_, rfl, below_al (Below.refl _ _) hG.size _, trivial, fun l' h1 h2 => twoJ_a1 hJ (by decide) (by decide) (by decide) (by rw [hsz]; decide) hG.size h1 h2⟩
          | 12, _, ho =>
            injection ho with ho; subst ho
            have hl10 : l 10 = true := hlw ⟨10, .data⟩ (by simp) rfl
            obtain ⟨v0, h0, e0'⟩ := hw 4 48 (by kernel_rfl)
            obtain rfl : v0 = _ := e0'
            obtain ⟨g, h, j1, j2, j3, j4⟩ := id hJ
            obtain ⟨t6, hBg, hgz, cs, hcs, hrow, -⟩ := j1 hl10
            exact wp_store_row 129 (.tmp 6) (.tmp 48) rfl g (litC kx a1 p1 q1).toArray (eval_tmp t6) (eval_tmp h0) 129 cs hrow (by kernel_rfl) (by rw [hcs]; rfl) (by simp [Value.oneCell']) ⟨undef, rfl, below_set (Below.refl _ _) hBg _, trivial, fun l' h1 h2 => twoJ_s hJ (by decide) (by decide) t6 rfl hl10 h1 h2⟩
          | n + 13, hi, _ => omega
        · intro l o2' u W t hJ ht hlL ho hG hw
          have e0 := hw 9 53 (by decide) (by kernel_rfl)
          obtain ⟨g, h, t6', t7', hBg, hBh, hgh, hrow, cs2, hcs2, hrow2⟩ := twoJ_fin hJ (hlL 10 (by decide)) (hlL 11 (by decide)) (hlL 12 (by decide)) (ht 6 (by decide) (by decide)) (ht 7 (by decide) (by decide))
          injection ho with ho; subst ho
          clear hJ hlL ht
          simp only [List.foldl_cons, List.foldl_nil, Act.put, List.setIfInBounds_toArray, List.set_cons_zero, List.set_cons_succ]
          rw [show u 53 = Value.agg (litC ky a2 p2 q2).toArray from e0, t6', t7']
          refine wp_store_row 129 (.tmp 7) (.tmp 53) rfl h (litC ky a2 p2 q2).toArray rfl rfl 129 cs2 hrow2 (by kernel_rfl) (by rw [hcs2]; rfl) (by simp [Value.oneCell']) ?_
          have rX := Lib.hid ((setRow_ne (cs' := (litC ky a2 p2 q2).toArray) hgh).trans hrow)
          have rY := Lib.hid (setRow_at (cs' := (litC ky a2 p2 q2).toArray) hrow2)
          have hBW : Below wr.heap.size wr (W.setRow h (litC ky a2 p2 q2).toArray) := below_set hG hBh _
          have HBW := Lib.hid hBW
          clear hw e0 Hc1 Hc2 hG t6' t7' hrow hrow2 hcs2 hBW hBg hBh hgh
          generalize W.setRow _ _ = W2 at *
          simp only [Act.put]
          have C1 := Lib.hid (fun (W : World) (h : Below W2.heap.size W2 W) => refSameA_any kx.atom ky.atom a1.A a1.n a1.c a2.A a2.n a2.c W (HK1.out.keep (below_next HBW.out h)).args (HK2.out.keep (below_next HBW.out h)).args)
          have C2 := Lib.hid (fun (W : World) (h : Below W2.heap.size W2 W) => refSameE_any d1 d2 kx.l ky.l p1.A p1.n p1.c p2.A p2.n p2.c W (HK1.out.keep (below_next HBW.out h)).lk (HK2.out.keep (below_next HBW.out h)).lk)
          have C3 := Lib.hid (fun (W : World) (h : Below W2.heap.size W2 W) => refSameE_any d1 d2 kx.r ky.r q1.A q1.n q1.c q2.A q2.n q2.c W (HK1.out.keep (below_next HBW.out h)).rk (HK2.out.keep (below_next HBW.out h)).rk)
          have HB2 := Lib.hid (below_next HB1.out (below_next HBr.out HBW.out))
          have HBk := Lib.hid (below_next HBr.out HBW.out)
          have HRf : Hid (R = (decide (kx.k = ky.k) && (decide (kx.op = ky.op) && (sameA kx.atom ky.atom && (sameE kx.l ky.l && (sameE kx.r ky.r && eqL sameLt (x.body.drop (k + 1)) (y.body.drop (k + 1)))))))) := by
            show _ = _
            rw [HRn.out]
            unfold sameLt
            cases decide (kx.k = ky.k) <;> cases decide (kx.op = ky.op) <;> cases sameA kx.atom ky.atom <;> cases sameE kx.l ky.l <;> cases sameE kx.r ky.r <;> rfl
          clear HRn HK1 HK2 HBW HgX HgY
          generalize sameA kx.atom ky.atom = s1 at *
          generalize sameE kx.l ky.l = s2 at *
          generalize sameE kx.r ky.r = s3 at *
          obtain ⟨f0, f1, f2, f3, f4, f5, f6, f7, f8, f9, f10, f11, f12, f13, f14, f15, f16⟩ := facts17 rX.out
          obtain ⟨e0, e1, e2, e3, e4, e5, e6, e7, e8, e9, e10, e11, e12, e13, e14, e15, e16⟩ := facts17 rY.out
          by_cases hkk : kx.k = ky.k
          rotate_left
          · have hs := bneq_of hkk
            have HF : Hid (R = false) := by show _ = _; rw [HRf.out]; simp [hkk]
            clear HRf hkk
            go_wp2_with fail
            go_ret
            exact ⟨by rw [HF.out]; rfl, HB2.out⟩
          have hs1 := bneq_no hkk
          by_cases hoo : kx.op = ky.op
          rotate_left
          · have hs := bneq_of hoo
            have HF : Hid (R = false) := by show _ = _; rw [HRf.out]; simp [hoo]
            clear HRf hoo hkk
            go_wp2_with fail
            go_ret
            exact ⟨by rw [HF.out]; rfl, HB2.out⟩
          have hs2 := bneq_no hoo
          have HR2 : Hid (R = (s1 && (s2 && (s3 && eqL sameLt (x.body.drop (k + 1)) (y.body.drop (k + 1)))))) := by show _ = _; rw [HRf.out]; simp [hkk, hoo]
          clear HRf hoo hkk
          go_wp2_with fail
          refine (C1.out _ (Below.refl _ _)).mono ?_
          rintro e1'' w3 ⟨rfl, hq3⟩
          have HB3 := Lib.hid (below_next HB2.out hq3)
          have HK3 := Lib.hid (below_next HBk.out hq3)
          have HQ3 := Lib.hid hq3
          obtain ⟨F0, F1, F2, F3, F4, F5, F6, F7, F8, F9, F10, F11, F12, F13, F14, F15, F16⟩ := facts17 ((hq3.block _ (Array.getElem?_eq_some_iff.1 rX.out).1).trans rX.out)
          obtain ⟨E0, E1, E2, E3, E4, E5, E6, E7, E8, E9, E10, E11, E12, E13, E14, E15, E16⟩ := facts17 ((hq3.block _ (Array.getElem?_eq_some_iff.1 rY.out).1).trans rY.out)
          clear hq3 f0 f1 f2 f3 f4 f5 f6 f7 f8 f9 f10 f11 f12 f13 f14 f15 f16 e0 e1 e2 e3 e4 e5 e6 e7 e8 e9 e10 e11 e12 e13 e14 e15 e16 hs1 hs2
          cases s1 with
          | false =>
            have HF : Hid (R = false) := by show _ = _; rw [HR2.out]; rfl
            clear HR2
            go_wp2_with fail
            go_ret
            exact ⟨by rw [HF.out]; rfl, HB3.out⟩
          | true =>
            go_wp2_with fail
            refine (C2.out _ HQ3.out).mono ?_
            rintro e1'' w4 ⟨rfl, hq4⟩
            have HB4 := Lib.hid (below_next HB3.out hq4)
            have HK4 := Lib.hid (below_next HK3.out hq4)
            have HQ4 := Lib.hid (below_next HQ3.out hq4)
            clear F0 F1 F2 F3 F4 F5 F6 F7 F8 F9 F10 F11 F12 F13 F14 F15 F16 E0 E1 E2 E3 E4 E5 E6 E7 E8 E9 E10 E11 E12 E13 E14 E15 E16
            obtain ⟨F0, F1, F2, F3, F4, F5, F6, F7, F8, F9, F10, F11, F12, F13, F14, F15, F16⟩ := facts17 ((HQ4.out.block _ (Array.getElem?_eq_some_iff.1 rX.out).1).trans rX.out)
            obtain ⟨E0, E1, E2, E3, E4, E5, E6, E7, E8, E9, E10, E11, E12, E13, E14, E15, E16⟩ := facts17 ((HQ4.out.block _ (Array.getElem?_eq_some_iff.1 rY.out).1).trans rY.out)
            clear hq4
            cases s2 with
            | false =>
              have HF : Hid (R = false) := by show _ = _; rw [HR2.out]; rfl
              clear HR2
              go_wp2_with fail
              go_ret
              exact ⟨by rw [HF.out]; rfl, HB4.out⟩
            | true =>
              go_wp2_with fail
              refine (C3.out _ HQ4.out).mono ?_
              rintro e1'' w5 ⟨rfl, hq5⟩
              have HB5 := Lib.hid (below_next HB4.out hq5)
              have HK5 := Lib.hid (below_next HK4.out hq5)
              clear F0 F1 F2 F3 F4 F5 F6 F7 F8 F9 F10 F11 F12 F13 F14 F15 F16 E0 E1 E2 E3 E4 E5 E6 E7 E8 E9 E10 E11 E12 E13 E14 E15 E16 hq5
              cases s3 with
              | false =>
                have HF : Hid (R = false) := by show _ = _; rw [HR2.out]; rfl
                clear HR2
                go_wp2_with fail
                go_ret
                exact ⟨by rw [HF.out]; rfl, HB5.out⟩
              | true =>
                have HR3 : Hid (R = eqL sameLt (x.body.drop (k + 1)) (y.body.drop (k + 1))) := by show _ = _; rw [HR2.out]; rfl
                clear HR2
                go_wp2_with fail
                go_roundw
                case rel => exact ⟨k + 1, by omega, by go_num, HR3, HK5⟩
                case measure => simp [intOf]; omega
      · have i1 : ¬ (k : Int) < (n : Int) := by omega
        have HR1 : Hid (R = true) := by show _ = _; rw [HRk.out, List.drop_eq_nil_of_le (by have h1 := Hl1.out; rw [h1]; exact Nat.le_of_not_lt hlt), List.drop_eq_nil_of_le (by have h1 := Hl2.out; rw [h1]; exact Nat.le_of_not_lt hlt), eqL]
        have HBn := Lib.hid (below_next HB1.out HBr.out)
        clear HRk
        go_wp2_with fail
        go_ret
        exact ⟨by rw [HR1.out]; rfl, HBn.out⟩
end Go.Proofs.YtiffmiabhapfnaaGreatDoor
