/- My own texts TSame2, as far as this claim needs them. -/
import Derived.Test.YtplekbpmfaghbaaGreatDoorZda17
set_option linter.unusedVariables false
set_option linter.unusedSimpArgs false
namespace Go.Proofs.YtplekbpmfaghbaaGreatDoor
open Go.RowKit
set_option maxRecDepth 4000 in
theorem run_two_eq (a b c d : Int) (w : World) : (binOp .eql 218 (.agg #[.int .i64 a, .int .i64 b]) (.agg #[.int .i64 c, .int .i64 d])).run Tryz.prog w = .ok (.bool (decide (a = c ∧ b = d))) w := by
  rw [run_eql_struct]
  have hu := Tryz.underlying218
  have hz : (sizeOf 3).run Tryz.prog w = .ok 1 w := by
    have h : (Tryz.prog.info? 3).map (·.size) = some 1 := by kernel_rfl
    obtain ⟨i, h1, h2⟩ := Option.map_eq_some_iff.1 h
    simp [sizeOf, typeInfo, h1, h2]
  have key : ∀ dd : Nat, (Op.equalIn (dd + 1 + 1) 218 (.agg #[.int .i64 a, .int .i64 b]) (.agg #[.int .i64 c, .int .i64 d])).run Tryz.prog w = .ok (decide (a = c ∧ b = d)) w := by
    intro dd
    rw [Op.equalIn]
    simp only [Sem.run_bind, run_underlying hu, Result.andThen_ok, hz]
    simp [Std.Legacy.Range.forIn_eq_forIn_range', List.range', Std.Legacy.Range.size, part, go_sem, Tryz.underlying3]
    by_cases h1 : a = c <;> by_cases h2 : b = d <;> simp [h1, h2]
  rw [show (10000 : Nat) = 9998 + 1 + 1 from rfl, key]
  rfl
set_option maxRecDepth 100000 in
set_option maxHeartbeats 4000000 in
theorem sameA_any (x y : GAtom) (A1 : Option Addr) (n1 c1 : Nat) (A2 : Option Addr) (n2 c2 : Nat) (w : World) (hx : SliceIs Enc.told w w.heap.size A1 n1 c1 x.args) (hy : SliceIs Enc.told w w.heap.size A2 n2 c2 y.args) :
    Calls Tryz.prog 135 #[.agg #[.string x.rel, .slice A1 n1 c1], .agg #[.string y.rel, .slice A2 n2 c2]] w (RetBool (sameA x y) w) := by

  obtain ⟨B, HB⟩ : ∃ B, Hid (B = sameA x y) := ⟨_, rfl⟩
  rw [← HB.out]
  have hrX : ((w.alloc (.cells #[.string x.rel, .slice A1 n1 c1] 24)).alloc (.cells #[.string y.rel, .slice A2 n2 c2] 24)).heap[w.heap.size]? = some (.cells #[.string x.rel, .slice A1 n1 c1] 24 (0, 0)) := heapOld (heapNew rfl)
  have hrY : ((w.alloc (.cells #[.string x.rel, .slice A1 n1 c1] 24)).alloc (.cells #[.string y.rel, .slice A2 n2 c2] 24)).heap[w.heap.size + 1]? = some (.cells #[.string y.rel, .slice A2 n2 c2] 24 (0, 0)) := heapNew (by simp)
  have hba : Below w.heap.size w ((w.alloc (.cells #[.string x.rel, .slice A1 n1 c1] 24)).alloc (.cells #[.string y.rel, .slice A2 n2 c2] 24)) := belowA (belowA (Below.refl _ _) _) _
  obtain ⟨P1, HP1⟩ : ∃ E, Hid (E = decide (x.args = y.args)) := ⟨_, rfl⟩
  have C1 : Hid (∀ W, Below ((w.alloc (.cells #[.string x.rel, .slice A1 n1 c1] 24)).alloc (.cells #[.string y.rel, .slice A2 n2 c2] 24)).heap.size ((w.alloc (.cells #[.string x.rel, .slice A1 n1 c1] 24)).alloc (.cells #[.string y.rel, .slice A2 n2 c2] 24)) W → Calls Tryz.prog 167 #[.slice A1 n1 c1, .slice A2 n2 c2] W (RetBool P1 W)) := fun W h => by rw [HP1.out]; exact equalT_any A1 A2 n1 n2 c1 c2 x.args y.args W ((hx.keep hba).keep h) ((hy.keep hba).keep h)
  have HE : Hid (B = (decide (x.rel = y.rel) && P1)) := by show _ = _; rw [HB.out, HP1.out]; rfl
  have HrowX : Hid (∀ W, Below ((w.alloc (.cells #[.string x.rel, .slice A1 n1 c1] 24)).alloc (.cells #[.string y.rel, .slice A2 n2 c2] 24)).heap.size ((w.alloc (.cells #[.string x.rel, .slice A1 n1 c1] 24)).alloc (.cells #[.string y.rel, .slice A2 n2 c2] 24)) W → W.heap[w.heap.size]? = some (.cells #[.string x.rel, .slice A1 n1 c1] 24 (0, 0))) := fun W h => (h.block _ (Array.getElem?_eq_some_iff.1 hrX).1).trans hrX
  have HrowY : Hid (∀ W, Below ((w.alloc (.cells #[.string x.rel, .slice A1 n1 c1] 24)).alloc (.cells #[.string y.rel, .slice A2 n2 c2] 24)).heap.size ((w.alloc (.cells #[.string x.rel, .slice A1 n1 c1] 24)).alloc (.cells #[.string y.rel, .slice A2 n2 c2] 24)) W → W.heap[w.heap.size + 1]? = some (.cells #[.string y.rel, .slice A2 n2 c2] 24 (0, 0))) := fun W h => (h.block _ (Array.getElem?_eq_some_iff.1 hrY).1).trans hrY
  obtain ⟨f0_0, f0_1⟩ := facts2 hrX
  obtain ⟨e0_0, e0_1⟩ := facts2 hrY
  have Hbw0 := Lib.hid (Below.refl ((w.alloc (.cells #[.string x.rel, .slice A1 n1 c1] 24)).alloc (.cells #[.string y.rel, .slice A2 n2 c2] 24)).heap.size ((w.alloc (.cells #[.string x.rel, .slice A1 n1 c1] 24)).alloc (.cells #[.string y.rel, .slice A2 n2 c2] 24)))
  clear hrX hrY HB HP1 hx hy
  generalize hwb : ((w.alloc (.cells #[.string x.rel, .slice A1 n1 c1] 24)).alloc (.cells #[.string y.rel, .slice A2 n2 c2] 24)) = wb at *
  by_cases hp0 : x.rel = y.rel
  · have HE0 : Hid (B = P1) := by show _ = _; rw [HE.out, decide_eq_true hp0]; simp
    have hh0_0 : (x.rel.toList == y.rel.toList) = true := by rw [beq_str]; simp [hp0]
    clear HE hp0
    go_enter Tryz.func135, Tryz.ntmps135
    go_wp2_with fail
    try simp only [hwb]
    go_wp2_with fail
    refine (C1.out _ Hbw0.out).mono ?_
    rintro e1 w1 ⟨rfl, hq1⟩
    have Hbw1 := Lib.hid (below_next Hbw0.out hq1)
    obtain ⟨f1_0, f1_1⟩ := facts2 (HrowX.out _ Hbw1.out)
    obtain ⟨e1_0, e1_1⟩ := facts2 (HrowY.out _ Hbw1.out)
    clear hq1 f0_0 f0_1 e0_0 e0_1
    cases P1 with
    | false =>
      go_wp2_with fail
      go_ret
      exact ⟨by rw [HE0.out]; rfl, below_next hba Hbw1.out⟩
    | true =>
      go_wp2_with fail
      go_ret
      exact ⟨by rw [HE0.out]; rfl, below_next hba Hbw1.out⟩
  · have HE0 : Hid (B = false) := by show _ = _; rw [HE.out, decide_eq_false hp0]; simp
    have hh0_0 : (x.rel.toList == y.rel.toList) = false := by rw [beq_str]; simp [hp0]
    clear HE hp0
    go_enter Tryz.func135, Tryz.ntmps135
    go_wp2_with fail
    try simp only [hwb]
    go_wp2_with fail
    go_ret
    exact ⟨by rw [HE0.out]; rfl, below_next hba Hbw0.out⟩
set_option maxRecDepth 100000 in
set_option maxHeartbeats 4000000 in
theorem sameD_any (x y : GDecl) (A1 : Option Addr) (n1 c1 : Nat) (A2 : Option Addr) (n2 c2 : Nat) (w : World) (hx : SliceIs Enc.int w w.heap.size A1 n1 c1 x.kinds) (hy : SliceIs Enc.int w w.heap.size A2 n2 c2 y.kinds) :
    Calls Tryz.prog 92 #[.agg #[.string x.rel, .slice A1 n1 c1, .int .i64 x.pos], .agg #[.string y.rel, .slice A2 n2 c2, .int .i64 y.pos]] w (RetBool (sameD x y) w) := by

  obtain ⟨B, HB⟩ : ∃ B, Hid (B = sameD x y) := ⟨_, rfl⟩
  rw [← HB.out]
  have hrX : ((w.alloc (.cells #[.string x.rel, .slice A1 n1 c1, .int .i64 x.pos] 155)).alloc (.cells #[.string y.rel, .slice A2 n2 c2, .int .i64 y.pos] 155)).heap[w.heap.size]? = some (.cells #[.string x.rel, .slice A1 n1 c1, .int .i64 x.pos] 155 (0, 0)) := heapOld (heapNew rfl)
  have hrY : ((w.alloc (.cells #[.string x.rel, .slice A1 n1 c1, .int .i64 x.pos] 155)).alloc (.cells #[.string y.rel, .slice A2 n2 c2, .int .i64 y.pos] 155)).heap[w.heap.size + 1]? = some (.cells #[.string y.rel, .slice A2 n2 c2, .int .i64 y.pos] 155 (0, 0)) := heapNew (by simp)
  have hba : Below w.heap.size w ((w.alloc (.cells #[.string x.rel, .slice A1 n1 c1, .int .i64 x.pos] 155)).alloc (.cells #[.string y.rel, .slice A2 n2 c2, .int .i64 y.pos] 155)) := belowA (belowA (Below.refl _ _) _) _
  obtain ⟨P1, HP1⟩ : ∃ E, Hid (E = decide (x.kinds = y.kinds)) := ⟨_, rfl⟩
  have C1 : Hid (∀ W, Below ((w.alloc (.cells #[.string x.rel, .slice A1 n1 c1, .int .i64 x.pos] 155)).alloc (.cells #[.string y.rel, .slice A2 n2 c2, .int .i64 y.pos] 155)).heap.size ((w.alloc (.cells #[.string x.rel, .slice A1 n1 c1, .int .i64 x.pos] 155)).alloc (.cells #[.string y.rel, .slice A2 n2 c2, .int .i64 y.pos] 155)) W → Calls Tryz.prog 134 #[.slice A1 n1 c1, .slice A2 n2 c2] W (RetBool P1 W)) := fun W h => by rw [HP1.out]; exact equalK_any A1 A2 n1 n2 c1 c2 x.kinds y.kinds W ((hx.keep hba).keep h) ((hy.keep hba).keep h)
  have HE : Hid (B = (decide (x.rel = y.rel) && P1)) := by show _ = _; rw [HB.out, HP1.out]; rfl
  have HrowX : Hid (∀ W, Below ((w.alloc (.cells #[.string x.rel, .slice A1 n1 c1, .int .i64 x.pos] 155)).alloc (.cells #[.string y.rel, .slice A2 n2 c2, .int .i64 y.pos] 155)).heap.size ((w.alloc (.cells #[.string x.rel, .slice A1 n1 c1, .int .i64 x.pos] 155)).alloc (.cells #[.string y.rel, .slice A2 n2 c2, .int .i64 y.pos] 155)) W → W.heap[w.heap.size]? = some (.cells #[.string x.rel, .slice A1 n1 c1, .int .i64 x.pos] 155 (0, 0))) := fun W h => (h.block _ (Array.getElem?_eq_some_iff.1 hrX).1).trans hrX
  have HrowY : Hid (∀ W, Below ((w.alloc (.cells #[.string x.rel, .slice A1 n1 c1, .int .i64 x.pos] 155)).alloc (.cells #[.string y.rel, .slice A2 n2 c2, .int .i64 y.pos] 155)).heap.size ((w.alloc (.cells #[.string x.rel, .slice A1 n1 c1, .int .i64 x.pos] 155)).alloc (.cells #[.string y.rel, .slice A2 n2 c2, .int .i64 y.pos] 155)) W → W.heap[w.heap.size + 1]? = some (.cells #[.string y.rel, .slice A2 n2 c2, .int .i64 y.pos] 155 (0, 0))) := fun W h => (h.block _ (Array.getElem?_eq_some_iff.1 hrY).1).trans hrY
  obtain ⟨f0_0, f0_1, f0_2⟩ := facts3 hrX
  obtain ⟨e0_0, e0_1, e0_2⟩ := facts3 hrY
  have Hbw0 := Lib.hid (Below.refl ((w.alloc (.cells #[.string x.rel, .slice A1 n1 c1, .int .i64 x.pos] 155)).alloc (.cells #[.string y.rel, .slice A2 n2 c2, .int .i64 y.pos] 155)).heap.size ((w.alloc (.cells #[.string x.rel, .slice A1 n1 c1, .int .i64 x.pos] 155)).alloc (.cells #[.string y.rel, .slice A2 n2 c2, .int .i64 y.pos] 155)))
  clear hrX hrY HB HP1 hx hy
  generalize hwb : ((w.alloc (.cells #[.string x.rel, .slice A1 n1 c1, .int .i64 x.pos] 155)).alloc (.cells #[.string y.rel, .slice A2 n2 c2, .int .i64 y.pos] 155)) = wb at *
  by_cases hp0 : x.rel = y.rel
  · have HE0 : Hid (B = P1) := by show _ = _; rw [HE.out, decide_eq_true hp0]; simp
    have hh0_0 : (x.rel.toList == y.rel.toList) = true := by rw [beq_str]; simp [hp0]
    clear HE hp0
    go_enter Tryz.func92, Tryz.ntmps92
    go_wp2_with fail
    try simp only [hwb]
    go_wp2_with fail
    refine (C1.out _ Hbw0.out).mono ?_
    rintro e1 w1 ⟨rfl, hq1⟩
    have Hbw1 := Lib.hid (below_next Hbw0.out hq1)
    obtain ⟨f1_0, f1_1, f1_2⟩ := facts3 (HrowX.out _ Hbw1.out)
    obtain ⟨e1_0, e1_1, e1_2⟩ := facts3 (HrowY.out _ Hbw1.out)
    clear hq1 f0_0 f0_1 f0_2 e0_0 e0_1 e0_2
    cases P1 with
    | false =>
      go_wp2_with fail
      go_ret
      exact ⟨by rw [HE0.out]; rfl, below_next hba Hbw1.out⟩
    | true =>
      go_wp2_with fail
      go_ret
      exact ⟨by rw [HE0.out]; rfl, below_next hba Hbw1.out⟩
  · have HE0 : Hid (B = false) := by show _ = _; rw [HE.out, decide_eq_false hp0]; simp
    have hh0_0 : (x.rel.toList == y.rel.toList) = false := by rw [beq_str]; simp [hp0]
    clear HE hp0
    go_enter Tryz.func92, Tryz.ntmps92
    go_wp2_with fail
    try simp only [hwb]
    go_wp2_with fail
    go_ret
    exact ⟨by rw [HE0.out]; rfl, below_next hba Hbw0.out⟩
set_option maxRecDepth 100000 in
set_option maxHeartbeats 4000000 in
theorem sameE_any : ∀ (d1 d2 : Nat) (x y : GExp) (A1 : Option Addr) (n1 c1 : Nat) (A2 : Option Addr) (n2 c2 : Nat) (w : World), SliceIs (Enc.exp d1) w w.heap.size A1 n1 c1 x.kids → SliceIs (Enc.exp d2) w w.heap.size A2 n2 c2 y.kids →
    Calls Tryz.prog 168 #[.agg #[.int .i64 x.op, .string x.t.x, .int .i64 x.t.v.k, .int .i64 x.t.v.n, .string x.t.v.s, .slice A1 n1 c1], .agg #[.int .i64 y.op, .string y.t.x, .int .i64 y.t.v.k, .int .i64 y.t.v.n, .string y.t.v.s, .slice A2 n2 c2]] w (RetBool (sameE x y) w) := by
  intro d1
  induction d1 using Nat.strongRecOn with
  | ind d1 ih =>
    intro d2 x y A1 n1 c1 A2 n2 c2 w hx hy
    have IH := Lib.hid ih
    clear ih
    obtain ⟨B, HB⟩ : ∃ B, Hid (B = sameE x y) := ⟨_, rfl⟩
    rw [← HB.out]
    have hrX : ((w.alloc (.cells #[.int .i64 x.op, .string x.t.x, .int .i64 x.t.v.k, .int .i64 x.t.v.n, .string x.t.v.s, .slice A1 n1 c1] 36)).alloc (.cells #[.int .i64 y.op, .string y.t.x, .int .i64 y.t.v.k, .int .i64 y.t.v.n, .string y.t.v.s, .slice A2 n2 c2] 36)).heap[w.heap.size]? = some (.cells #[.int .i64 x.op, .string x.t.x, .int .i64 x.t.v.k, .int .i64 x.t.v.n, .string x.t.v.s, .slice A1 n1 c1] 36 (0, 0)) := heapOld (heapNew rfl)
    have hrY : ((w.alloc (.cells #[.int .i64 x.op, .string x.t.x, .int .i64 x.t.v.k, .int .i64 x.t.v.n, .string x.t.v.s, .slice A1 n1 c1] 36)).alloc (.cells #[.int .i64 y.op, .string y.t.x, .int .i64 y.t.v.k, .int .i64 y.t.v.n, .string y.t.v.s, .slice A2 n2 c2] 36)).heap[w.heap.size + 1]? = some (.cells #[.int .i64 y.op, .string y.t.x, .int .i64 y.t.v.k, .int .i64 y.t.v.n, .string y.t.v.s, .slice A2 n2 c2] 36 (0, 0)) := heapNew (by simp)
    have hba : Below w.heap.size w ((w.alloc (.cells #[.int .i64 x.op, .string x.t.x, .int .i64 x.t.v.k, .int .i64 x.t.v.n, .string x.t.v.s, .slice A1 n1 c1] 36)).alloc (.cells #[.int .i64 y.op, .string y.t.x, .int .i64 y.t.v.k, .int .i64 y.t.v.n, .string y.t.v.s, .slice A2 n2 c2] 36)) := belowA (belowA (Below.refl _ _) _) _
    obtain ⟨P1, HP1⟩ : ∃ E, Hid (E = eqL sameE x.kids y.kids) := ⟨_, rfl⟩
    have C1 : Hid (∀ W, Below ((w.alloc (.cells #[.int .i64 x.op, .string x.t.x, .int .i64 x.t.v.k, .int .i64 x.t.v.n, .string x.t.v.s, .slice A1 n1 c1] 36)).alloc (.cells #[.int .i64 y.op, .string y.t.x, .int .i64 y.t.v.k, .int .i64 y.t.v.n, .string y.t.v.s, .slice A2 n2 c2] 36)).heap.size ((w.alloc (.cells #[.int .i64 x.op, .string x.t.x, .int .i64 x.t.v.k, .int .i64 x.t.v.n, .string x.t.v.s, .slice A1 n1 c1] 36)).alloc (.cells #[.int .i64 y.op, .string y.t.x, .int .i64 y.t.v.k, .int .i64 y.t.v.n, .string y.t.v.s, .slice A2 n2 c2] 36)) W → Calls Tryz.prog 188 #[.slice A1 n1 c1, .slice A2 n2 c2, .func (.func 168) #[] #[]] W (RetBool P1 W)) := fun W h => by rw [HP1.out]; exact eqFuncE_any d1 d2 A1 A2 n1 n2 c1 c2 x.kids y.kids W ((hx.keep hba).keep h) ((hy.keep hba).keep h) (fun x y A1 n1 c1 A2 n2 c2 g1 g2 W hg _ h1 h2 => IH.out g1 hg g2 x y A1 n1 c1 A2 n2 c2 W h1 h2)
    have HE : Hid (B = (decide (x.op = y.op) && (decide (x.t = y.t) && P1))) := by show _ = _; rw [HB.out, HP1.out]; rw [sameE_def]
    have HrowX : Hid (∀ W, Below ((w.alloc (.cells #[.int .i64 x.op, .string x.t.x, .int .i64 x.t.v.k, .int .i64 x.t.v.n, .string x.t.v.s, .slice A1 n1 c1] 36)).alloc (.cells #[.int .i64 y.op, .string y.t.x, .int .i64 y.t.v.k, .int .i64 y.t.v.n, .string y.t.v.s, .slice A2 n2 c2] 36)).heap.size ((w.alloc (.cells #[.int .i64 x.op, .string x.t.x, .int .i64 x.t.v.k, .int .i64 x.t.v.n, .string x.t.v.s, .slice A1 n1 c1] 36)).alloc (.cells #[.int .i64 y.op, .string y.t.x, .int .i64 y.t.v.k, .int .i64 y.t.v.n, .string y.t.v.s, .slice A2 n2 c2] 36)) W → W.heap[w.heap.size]? = some (.cells #[.int .i64 x.op, .string x.t.x, .int .i64 x.t.v.k, .int .i64 x.t.v.n, .string x.t.v.s, .slice A1 n1 c1] 36 (0, 0))) := fun W h => (h.block _ (Array.getElem?_eq_some_iff.1 hrX).1).trans hrX
    have HrowY : Hid (∀ W, Below ((w.alloc (.cells #[.int .i64 x.op, .string x.t.x, .int .i64 x.t.v.k, .int .i64 x.t.v.n, .string x.t.v.s, .slice A1 n1 c1] 36)).alloc (.cells #[.int .i64 y.op, .string y.t.x, .int .i64 y.t.v.k, .int .i64 y.t.v.n, .string y.t.v.s, .slice A2 n2 c2] 36)).heap.size ((w.alloc (.cells #[.int .i64 x.op, .string x.t.x, .int .i64 x.t.v.k, .int .i64 x.t.v.n, .string x.t.v.s, .slice A1 n1 c1] 36)).alloc (.cells #[.int .i64 y.op, .string y.t.x, .int .i64 y.t.v.k, .int .i64 y.t.v.n, .string y.t.v.s, .slice A2 n2 c2] 36)) W → W.heap[w.heap.size + 1]? = some (.cells #[.int .i64 y.op, .string y.t.x, .int .i64 y.t.v.k, .int .i64 y.t.v.n, .string y.t.v.s, .slice A2 n2 c2] 36 (0, 0))) := fun W h => (h.block _ (Array.getElem?_eq_some_iff.1 hrY).1).trans hrY
    obtain ⟨f0_0, f0_1, f0_2, f0_3, f0_4, f0_5⟩ := facts6 hrX
    obtain ⟨e0_0, e0_1, e0_2, e0_3, e0_4, e0_5⟩ := facts6 hrY
    have Hbw0 := Lib.hid (Below.refl ((w.alloc (.cells #[.int .i64 x.op, .string x.t.x, .int .i64 x.t.v.k, .int .i64 x.t.v.n, .string x.t.v.s, .slice A1 n1 c1] 36)).alloc (.cells #[.int .i64 y.op, .string y.t.x, .int .i64 y.t.v.k, .int .i64 y.t.v.n, .string y.t.v.s, .slice A2 n2 c2] 36)).heap.size ((w.alloc (.cells #[.int .i64 x.op, .string x.t.x, .int .i64 x.t.v.k, .int .i64 x.t.v.n, .string x.t.v.s, .slice A1 n1 c1] 36)).alloc (.cells #[.int .i64 y.op, .string y.t.x, .int .i64 y.t.v.k, .int .i64 y.t.v.n, .string y.t.v.s, .slice A2 n2 c2] 36)))
    clear hrX hrY HB HP1 hx hy IH
    generalize hwb : ((w.alloc (.cells #[.int .i64 x.op, .string x.t.x, .int .i64 x.t.v.k, .int .i64 x.t.v.n, .string x.t.v.s, .slice A1 n1 c1] 36)).alloc (.cells #[.int .i64 y.op, .string y.t.x, .int .i64 y.t.v.k, .int .i64 y.t.v.n, .string y.t.v.s, .slice A2 n2 c2] 36)) = wb at *
    by_cases hp0 : x.op = y.op
    · have HE0 : Hid (B = (decide (x.t = y.t) && P1)) := by show _ = _; rw [HE.out, decide_eq_true hp0]; simp
      have hh0_0 : (x.op == y.op) = true := by simp [hp0]
      clear HE hp0
      by_cases hp1 : x.t = y.t
      · have HE1 : Hid (B = P1) := by show _ = _; rw [HE0.out, decide_eq_true hp1]; simp
        have hh1_0 : ∀ W, (binOp .eql 33 (.agg #[.string x.t.x, .int .i64 x.t.v.k, .int .i64 x.t.v.n, .string x.t.v.s]) (.agg #[.string y.t.x, .int .i64 y.t.v.k, .int .i64 y.t.v.n, .string y.t.v.s])).run Tryz.prog W = .ok (.bool true) W := by intro W; rw [run_told_eq]; simp [hp1]
        clear HE0 hp1
        go_enter Tryz.func168, Tryz.ntmps168
        go_wp2_with fail
        try simp only [hwb]
        go_wp2_with fail
        refine (C1.out _ Hbw0.out).mono ?_
        rintro e1 w1 ⟨rfl, hq1⟩
        have Hbw1 := Lib.hid (below_next Hbw0.out hq1)
        obtain ⟨f1_0, f1_1, f1_2, f1_3, f1_4, f1_5⟩ := facts6 (HrowX.out _ Hbw1.out)
        obtain ⟨e1_0, e1_1, e1_2, e1_3, e1_4, e1_5⟩ := facts6 (HrowY.out _ Hbw1.out)
        clear hq1 f0_0 f0_1 f0_2 f0_3 f0_4 f0_5 e0_0 e0_1 e0_2 e0_3 e0_4 e0_5
        cases P1 with
        | false =>
          go_wp2_with fail
          go_ret
          exact ⟨by rw [HE1.out]; rfl, below_next hba Hbw1.out⟩
        | true =>
          go_wp2_with fail
          go_ret
          exact ⟨by rw [HE1.out]; rfl, below_next hba Hbw1.out⟩
      · have HE1 : Hid (B = false) := by show _ = _; rw [HE0.out, decide_eq_false hp1]; simp
        have hh1_0 : ∀ W, (binOp .eql 33 (.agg #[.string x.t.x, .int .i64 x.t.v.k, .int .i64 x.t.v.n, .string x.t.v.s]) (.agg #[.string y.t.x, .int .i64 y.t.v.k, .int .i64 y.t.v.n, .string y.t.v.s])).run Tryz.prog W = .ok (.bool false) W := by intro W; rw [run_told_eq]; simp [hp1]
        clear HE0 hp1
        go_enter Tryz.func168, Tryz.ntmps168
        go_wp2_with fail
        try simp only [hwb]
        go_wp2_with fail
        go_ret
        exact ⟨by rw [HE1.out]; rfl, below_next hba Hbw0.out⟩
    · have HE0 : Hid (B = false) := by show _ = _; rw [HE.out, decide_eq_false hp0]; simp
      have hh0_0 : (x.op == y.op) = false := by simp [hp0]
      clear HE hp0
      go_enter Tryz.func168, Tryz.ntmps168
      go_wp2_with fail
      try simp only [hwb]
      go_wp2_with fail
      go_ret
      exact ⟨by rw [HE0.out]; rfl, below_next hba Hbw0.out⟩
set_option maxRecDepth 100000 in
set_option maxHeartbeats 4000000 in
theorem sameLt_any (d1 d2 : Nat) (x y : GLit) (a1 p1 q1 a2 p2 q2 : Hd) (w : World) (hx : LitAt d1 w w.heap.size x a1 p1 q1) (hy : LitAt d2 w w.heap.size y a2 p2 q2) :
    Calls Tryz.prog 137 #[.agg #[.int .i64 x.k, .string x.atom.rel, .slice a1.A a1.n a1.c, .int .i64 x.op, .int .i64 x.l.op, .string x.l.t.x, .int .i64 x.l.t.v.k, .int .i64 x.l.t.v.n, .string x.l.t.v.s, .slice p1.A p1.n p1.c, .int .i64 x.r.op, .string x.r.t.x, .int .i64 x.r.t.v.k, .int .i64 x.r.t.v.n, .string x.r.t.v.s, .slice q1.A q1.n q1.c, .int .i64 x.pos], .agg #[.int .i64 y.k, .string y.atom.rel, .slice a2.A a2.n a2.c, .int .i64 y.op, .int .i64 y.l.op, .string y.l.t.x, .int .i64 y.l.t.v.k, .int .i64 y.l.t.v.n, .string y.l.t.v.s, .slice p2.A p2.n p2.c, .int .i64 y.r.op, .string y.r.t.x, .int .i64 y.r.t.v.k, .int .i64 y.r.t.v.n, .string y.r.t.v.s, .slice q2.A q2.n q2.c, .int .i64 y.pos]] w (RetBool (sameLt x y) w) := by

  obtain ⟨B, HB⟩ : ∃ B, Hid (B = sameLt x y) := ⟨_, rfl⟩
  rw [← HB.out]
  have hrX : ((w.alloc (.cells #[.int .i64 x.k, .string x.atom.rel, .slice a1.A a1.n a1.c, .int .i64 x.op, .int .i64 x.l.op, .string x.l.t.x, .int .i64 x.l.t.v.k, .int .i64 x.l.t.v.n, .string x.l.t.v.s, .slice p1.A p1.n p1.c, .int .i64 x.r.op, .string x.r.t.x, .int .i64 x.r.t.v.k, .int .i64 x.r.t.v.n, .string x.r.t.v.s, .slice q1.A q1.n q1.c, .int .i64 x.pos] 38)).alloc (.cells #[.int .i64 y.k, .string y.atom.rel, .slice a2.A a2.n a2.c, .int .i64 y.op, .int .i64 y.l.op, .string y.l.t.x, .int .i64 y.l.t.v.k, .int .i64 y.l.t.v.n, .string y.l.t.v.s, .slice p2.A p2.n p2.c, .int .i64 y.r.op, .string y.r.t.x, .int .i64 y.r.t.v.k, .int .i64 y.r.t.v.n, .string y.r.t.v.s, .slice q2.A q2.n q2.c, .int .i64 y.pos] 38)).heap[w.heap.size]? = some (.cells #[.int .i64 x.k, .string x.atom.rel, .slice a1.A a1.n a1.c, .int .i64 x.op, .int .i64 x.l.op, .string x.l.t.x, .int .i64 x.l.t.v.k, .int .i64 x.l.t.v.n, .string x.l.t.v.s, .slice p1.A p1.n p1.c, .int .i64 x.r.op, .string x.r.t.x, .int .i64 x.r.t.v.k, .int .i64 x.r.t.v.n, .string x.r.t.v.s, .slice q1.A q1.n q1.c, .int .i64 x.pos] 38 (0, 0)) := heapOld (heapNew rfl)
  have hrY : ((w.alloc (.cells #[.int .i64 x.k, .string x.atom.rel, .slice a1.A a1.n a1.c, .int .i64 x.op, .int .i64 x.l.op, .string x.l.t.x, .int .i64 x.l.t.v.k, .int .i64 x.l.t.v.n, .string x.l.t.v.s, .slice p1.A p1.n p1.c, .int .i64 x.r.op, .string x.r.t.x, .int .i64 x.r.t.v.k, .int .i64 x.r.t.v.n, .string x.r.t.v.s, .slice q1.A q1.n q1.c, .int .i64 x.pos] 38)).alloc (.cells #[.int .i64 y.k, .string y.atom.rel, .slice a2.A a2.n a2.c, .int .i64 y.op, .int .i64 y.l.op, .string y.l.t.x, .int .i64 y.l.t.v.k, .int .i64 y.l.t.v.n, .string y.l.t.v.s, .slice p2.A p2.n p2.c, .int .i64 y.r.op, .string y.r.t.x, .int .i64 y.r.t.v.k, .int .i64 y.r.t.v.n, .string y.r.t.v.s, .slice q2.A q2.n q2.c, .int .i64 y.pos] 38)).heap[w.heap.size + 1]? = some (.cells #[.int .i64 y.k, .string y.atom.rel, .slice a2.A a2.n a2.c, .int .i64 y.op, .int .i64 y.l.op, .string y.l.t.x, .int .i64 y.l.t.v.k, .int .i64 y.l.t.v.n, .string y.l.t.v.s, .slice p2.A p2.n p2.c, .int .i64 y.r.op, .string y.r.t.x, .int .i64 y.r.t.v.k, .int .i64 y.r.t.v.n, .string y.r.t.v.s, .slice q2.A q2.n q2.c, .int .i64 y.pos] 38 (0, 0)) := heapNew (by simp)
  have hba : Below w.heap.size w ((w.alloc (.cells #[.int .i64 x.k, .string x.atom.rel, .slice a1.A a1.n a1.c, .int .i64 x.op, .int .i64 x.l.op, .string x.l.t.x, .int .i64 x.l.t.v.k, .int .i64 x.l.t.v.n, .string x.l.t.v.s, .slice p1.A p1.n p1.c, .int .i64 x.r.op, .string x.r.t.x, .int .i64 x.r.t.v.k, .int .i64 x.r.t.v.n, .string x.r.t.v.s, .slice q1.A q1.n q1.c, .int .i64 x.pos] 38)).alloc (.cells #[.int .i64 y.k, .string y.atom.rel, .slice a2.A a2.n a2.c, .int .i64 y.op, .int .i64 y.l.op, .string y.l.t.x, .int .i64 y.l.t.v.k, .int .i64 y.l.t.v.n, .string y.l.t.v.s, .slice p2.A p2.n p2.c, .int .i64 y.r.op, .string y.r.t.x, .int .i64 y.r.t.v.k, .int .i64 y.r.t.v.n, .string y.r.t.v.s, .slice q2.A q2.n q2.c, .int .i64 y.pos] 38)) := belowA (belowA (Below.refl _ _) _) _
  obtain ⟨P1, HP1⟩ : ∃ E, Hid (E = sameA x.atom y.atom) := ⟨_, rfl⟩
  have C1 : Hid (∀ W, Below ((w.alloc (.cells #[.int .i64 x.k, .string x.atom.rel, .slice a1.A a1.n a1.c, .int .i64 x.op, .int .i64 x.l.op, .string x.l.t.x, .int .i64 x.l.t.v.k, .int .i64 x.l.t.v.n, .string x.l.t.v.s, .slice p1.A p1.n p1.c, .int .i64 x.r.op, .string x.r.t.x, .int .i64 x.r.t.v.k, .int .i64 x.r.t.v.n, .string x.r.t.v.s, .slice q1.A q1.n q1.c, .int .i64 x.pos] 38)).alloc (.cells #[.int .i64 y.k, .string y.atom.rel, .slice a2.A a2.n a2.c, .int .i64 y.op, .int .i64 y.l.op, .string y.l.t.x, .int .i64 y.l.t.v.k, .int .i64 y.l.t.v.n, .string y.l.t.v.s, .slice p2.A p2.n p2.c, .int .i64 y.r.op, .string y.r.t.x, .int .i64 y.r.t.v.k, .int .i64 y.r.t.v.n, .string y.r.t.v.s, .slice q2.A q2.n q2.c, .int .i64 y.pos] 38)).heap.size ((w.alloc (.cells #[.int .i64 x.k, .string x.atom.rel, .slice a1.A a1.n a1.c, .int .i64 x.op, .int .i64 x.l.op, .string x.l.t.x, .int .i64 x.l.t.v.k, .int .i64 x.l.t.v.n, .string x.l.t.v.s, .slice p1.A p1.n p1.c, .int .i64 x.r.op, .string x.r.t.x, .int .i64 x.r.t.v.k, .int .i64 x.r.t.v.n, .string x.r.t.v.s, .slice q1.A q1.n q1.c, .int .i64 x.pos] 38)).alloc (.cells #[.int .i64 y.k, .string y.atom.rel, .slice a2.A a2.n a2.c, .int .i64 y.op, .int .i64 y.l.op, .string y.l.t.x, .int .i64 y.l.t.v.k, .int .i64 y.l.t.v.n, .string y.l.t.v.s, .slice p2.A p2.n p2.c, .int .i64 y.r.op, .string y.r.t.x, .int .i64 y.r.t.v.k, .int .i64 y.r.t.v.n, .string y.r.t.v.s, .slice q2.A q2.n q2.c, .int .i64 y.pos] 38)) W → Calls Tryz.prog 135 #[.agg #[.string x.atom.rel, .slice a1.A a1.n a1.c], .agg #[.string y.atom.rel, .slice a2.A a2.n a2.c]] W (RetBool P1 W)) := fun W h => by rw [HP1.out]; exact sameA_any x.atom y.atom a1.A a1.n a1.c a2.A a2.n a2.c W ((hx.keep hba).keep h).args ((hy.keep hba).keep h).args
  obtain ⟨P2, HP2⟩ : ∃ E, Hid (E = sameE x.l y.l) := ⟨_, rfl⟩
  have C2 : Hid (∀ W, Below ((w.alloc (.cells #[.int .i64 x.k, .string x.atom.rel, .slice a1.A a1.n a1.c, .int .i64 x.op, .int .i64 x.l.op, .string x.l.t.x, .int .i64 x.l.t.v.k, .int .i64 x.l.t.v.n, .string x.l.t.v.s, .slice p1.A p1.n p1.c, .int .i64 x.r.op, .string x.r.t.x, .int .i64 x.r.t.v.k, .int .i64 x.r.t.v.n, .string x.r.t.v.s, .slice q1.A q1.n q1.c, .int .i64 x.pos] 38)).alloc (.cells #[.int .i64 y.k, .string y.atom.rel, .slice a2.A a2.n a2.c, .int .i64 y.op, .int .i64 y.l.op, .string y.l.t.x, .int .i64 y.l.t.v.k, .int .i64 y.l.t.v.n, .string y.l.t.v.s, .slice p2.A p2.n p2.c, .int .i64 y.r.op, .string y.r.t.x, .int .i64 y.r.t.v.k, .int .i64 y.r.t.v.n, .string y.r.t.v.s, .slice q2.A q2.n q2.c, .int .i64 y.pos] 38)).heap.size ((w.alloc (.cells #[.int .i64 x.k, .string x.atom.rel, .slice a1.A a1.n a1.c, .int .i64 x.op, .int .i64 x.l.op, .string x.l.t.x, .int .i64 x.l.t.v.k, .int .i64 x.l.t.v.n, .string x.l.t.v.s, .slice p1.A p1.n p1.c, .int .i64 x.r.op, .string x.r.t.x, .int .i64 x.r.t.v.k, .int .i64 x.r.t.v.n, .string x.r.t.v.s, .slice q1.A q1.n q1.c, .int .i64 x.pos] 38)).alloc (.cells #[.int .i64 y.k, .string y.atom.rel, .slice a2.A a2.n a2.c, .int .i64 y.op, .int .i64 y.l.op, .string y.l.t.x, .int .i64 y.l.t.v.k, .int .i64 y.l.t.v.n, .string y.l.t.v.s, .slice p2.A p2.n p2.c, .int .i64 y.r.op, .string y.r.t.x, .int .i64 y.r.t.v.k, .int .i64 y.r.t.v.n, .string y.r.t.v.s, .slice q2.A q2.n q2.c, .int .i64 y.pos] 38)) W → Calls Tryz.prog 168 #[.agg #[.int .i64 x.l.op, .string x.l.t.x, .int .i64 x.l.t.v.k, .int .i64 x.l.t.v.n, .string x.l.t.v.s, .slice p1.A p1.n p1.c], .agg #[.int .i64 y.l.op, .string y.l.t.x, .int .i64 y.l.t.v.k, .int .i64 y.l.t.v.n, .string y.l.t.v.s, .slice p2.A p2.n p2.c]] W (RetBool P2 W)) := fun W h => by rw [HP2.out]; exact sameE_any d1 d2 x.l y.l p1.A p1.n p1.c p2.A p2.n p2.c W ((hx.keep hba).keep h).lk ((hy.keep hba).keep h).lk
  obtain ⟨P3, HP3⟩ : ∃ E, Hid (E = sameE x.r y.r) := ⟨_, rfl⟩
  have C3 : Hid (∀ W, Below ((w.alloc (.cells #[.int .i64 x.k, .string x.atom.rel, .slice a1.A a1.n a1.c, .int .i64 x.op, .int .i64 x.l.op, .string x.l.t.x, .int .i64 x.l.t.v.k, .int .i64 x.l.t.v.n, .string x.l.t.v.s, .slice p1.A p1.n p1.c, .int .i64 x.r.op, .string x.r.t.x, .int .i64 x.r.t.v.k, .int .i64 x.r.t.v.n, .string x.r.t.v.s, .slice q1.A q1.n q1.c, .int .i64 x.pos] 38)).alloc (.cells #[.int .i64 y.k, .string y.atom.rel, .slice a2.A a2.n a2.c, .int .i64 y.op, .int .i64 y.l.op, .string y.l.t.x, .int .i64 y.l.t.v.k, .int .i64 y.l.t.v.n, .string y.l.t.v.s, .slice p2.A p2.n p2.c, .int .i64 y.r.op, .string y.r.t.x, .int .i64 y.r.t.v.k, .int .i64 y.r.t.v.n, .string y.r.t.v.s, .slice q2.A q2.n q2.c, .int .i64 y.pos] 38)).heap.size ((w.alloc (.cells #[.int .i64 x.k, .string x.atom.rel, .slice a1.A a1.n a1.c, .int .i64 x.op, .int .i64 x.l.op, .string x.l.t.x, .int .i64 x.l.t.v.k, .int .i64 x.l.t.v.n, .string x.l.t.v.s, .slice p1.A p1.n p1.c, .int .i64 x.r.op, .string x.r.t.x, .int .i64 x.r.t.v.k, .int .i64 x.r.t.v.n, .string x.r.t.v.s, .slice q1.A q1.n q1.c, .int .i64 x.pos] 38)).alloc (.cells #[.int .i64 y.k, .string y.atom.rel, .slice a2.A a2.n a2.c, .int .i64 y.op, .int .i64 y.l.op, .string y.l.t.x, .int .i64 y.l.t.v.k, .int .i64 y.l.t.v.n, .string y.l.t.v.s, .slice p2.A p2.n p2.c, .int .i64 y.r.op, .string y.r.t.x, .int .i64 y.r.t.v.k, .int .i64 y.r.t.v.n, .string y.r.t.v.s, .slice q2.A q2.n q2.c, .int .i64 y.pos] 38)) W → Calls Tryz.prog 168 #[.agg #[.int .i64 x.r.op, .string x.r.t.x, .int .i64 x.r.t.v.k, .int .i64 x.r.t.v.n, .string x.r.t.v.s, .slice q1.A q1.n q1.c], .agg #[.int .i64 y.r.op, .string y.r.t.x, .int .i64 y.r.t.v.k, .int .i64 y.r.t.v.n, .string y.r.t.v.s, .slice q2.A q2.n q2.c]] W (RetBool P3 W)) := fun W h => by rw [HP3.out]; exact sameE_any d1 d2 x.r y.r q1.A q1.n q1.c q2.A q2.n q2.c W ((hx.keep hba).keep h).rk ((hy.keep hba).keep h).rk
  have HE : Hid (B = (decide (x.k = y.k) && (P1 && (decide (x.op = y.op) && (P2 && P3))))) := by show _ = _; rw [HB.out, HP1.out, HP2.out, HP3.out]; rfl
  have HrowX : Hid (∀ W, Below ((w.alloc (.cells #[.int .i64 x.k, .string x.atom.rel, .slice a1.A a1.n a1.c, .int .i64 x.op, .int .i64 x.l.op, .string x.l.t.x, .int .i64 x.l.t.v.k, .int .i64 x.l.t.v.n, .string x.l.t.v.s, .slice p1.A p1.n p1.c, .int .i64 x.r.op, .string x.r.t.x, .int .i64 x.r.t.v.k, .int .i64 x.r.t.v.n, .string x.r.t.v.s, .slice q1.A q1.n q1.c, .int .i64 x.pos] 38)).alloc (.cells #[.int .i64 y.k, .string y.atom.rel, .slice a2.A a2.n a2.c, .int .i64 y.op, .int .i64 y.l.op, .string y.l.t.x, .int .i64 y.l.t.v.k, .int .i64 y.l.t.v.n, .string y.l.t.v.s, .slice p2.A p2.n p2.c, .int .i64 y.r.op, .string y.r.t.x, .int .i64 y.r.t.v.k, .int .i64 y.r.t.v.n, .string y.r.t.v.s, .slice q2.A q2.n q2.c, .int .i64 y.pos] 38)).heap.size ((w.alloc (.cells #[.int .i64 x.k, .string x.atom.rel, .slice a1.A a1.n a1.c, .int .i64 x.op, .int .i64 x.l.op, .string x.l.t.x, .int .i64 x.l.t.v.k, .int .i64 x.l.t.v.n, .string x.l.t.v.s, .slice p1.A p1.n p1.c, .int .i64 x.r.op, .string x.r.t.x, .int .i64 x.r.t.v.k, .int .i64 x.r.t.v.n, .string x.r.t.v.s, .slice q1.A q1.n q1.c, .int .i64 x.pos] 38)).alloc (.cells #[.int .i64 y.k, .string y.atom.rel, .slice a2.A a2.n a2.c, .int .i64 y.op, .int .i64 y.l.op, .string y.l.t.x, .int .i64 y.l.t.v.k, .int .i64 y.l.t.v.n, .string y.l.t.v.s, .slice p2.A p2.n p2.c, .int .i64 y.r.op, .string y.r.t.x, .int .i64 y.r.t.v.k, .int .i64 y.r.t.v.n, .string y.r.t.v.s, .slice q2.A q2.n q2.c, .int .i64 y.pos] 38)) W → W.heap[w.heap.size]? = some (.cells #[.int .i64 x.k, .string x.atom.rel, .slice a1.A a1.n a1.c, .int .i64 x.op, .int .i64 x.l.op, .string x.l.t.x, .int .i64 x.l.t.v.k, .int .i64 x.l.t.v.n, .string x.l.t.v.s, .slice p1.A p1.n p1.c, .int .i64 x.r.op, .string x.r.t.x, .int .i64 x.r.t.v.k, .int .i64 x.r.t.v.n, .string x.r.t.v.s, .slice q1.A q1.n q1.c, .int .i64 x.pos] 38 (0, 0))) := fun W h => (h.block _ (Array.getElem?_eq_some_iff.1 hrX).1).trans hrX
  have HrowY : Hid (∀ W, Below ((w.alloc (.cells #[.int .i64 x.k, .string x.atom.rel, .slice a1.A a1.n a1.c, .int .i64 x.op, .int .i64 x.l.op, .string x.l.t.x, .int .i64 x.l.t.v.k, .int .i64 x.l.t.v.n, .string x.l.t.v.s, .slice p1.A p1.n p1.c, .int .i64 x.r.op, .string x.r.t.x, .int .i64 x.r.t.v.k, .int .i64 x.r.t.v.n, .string x.r.t.v.s, .slice q1.A q1.n q1.c, .int .i64 x.pos] 38)).alloc (.cells #[.int .i64 y.k, .string y.atom.rel, .slice a2.A a2.n a2.c, .int .i64 y.op, .int .i64 y.l.op, .string y.l.t.x, .int .i64 y.l.t.v.k, .int .i64 y.l.t.v.n, .string y.l.t.v.s, .slice p2.A p2.n p2.c, .int .i64 y.r.op, .string y.r.t.x, .int .i64 y.r.t.v.k, .int .i64 y.r.t.v.n, .string y.r.t.v.s, .slice q2.A q2.n q2.c, .int .i64 y.pos] 38)).heap.size ((w.alloc (.cells #[.int .i64 x.k, .string x.atom.rel, .slice a1.A a1.n a1.c, .int .i64 x.op, .int .i64 x.l.op, .string x.l.t.x, .int .i64 x.l.t.v.k, .int .i64 x.l.t.v.n, .string x.l.t.v.s, .slice p1.A p1.n p1.c, .int .i64 x.r.op, .string x.r.t.x, .int .i64 x.r.t.v.k, .int .i64 x.r.t.v.n, .string x.r.t.v.s, .slice q1.A q1.n q1.c, .int .i64 x.pos] 38)).alloc (.cells #[.int .i64 y.k, .string y.atom.rel, .slice a2.A a2.n a2.c, .int .i64 y.op, .int .i64 y.l.op, .string y.l.t.x, .int .i64 y.l.t.v.k, .int .i64 y.l.t.v.n, .string y.l.t.v.s, .slice p2.A p2.n p2.c, .int .i64 y.r.op, .string y.r.t.x, .int .i64 y.r.t.v.k, .int .i64 y.r.t.v.n, .string y.r.t.v.s, .slice q2.A q2.n q2.c, .int .i64 y.pos] 38)) W → W.heap[w.heap.size + 1]? = some (.cells #[.int .i64 y.k, .string y.atom.rel, .slice a2.A a2.n a2.c, .int .i64 y.op, .int .i64 y.l.op, .string y.l.t.x, .int .i64 y.l.t.v.k, .int .i64 y.l.t.v.n, .string y.l.t.v.s, .slice p2.A p2.n p2.c, .int .i64 y.r.op, .string y.r.t.x, .int .i64 y.r.t.v.k, .int .i64 y.r.t.v.n, .string y.r.t.v.s, .slice q2.A q2.n q2.c, .int .i64 y.pos] 38 (0, 0))) := fun W h => (h.block _ (Array.getElem?_eq_some_iff.1 hrY).1).trans hrY
  obtain ⟨f0_0, f0_1, f0_2, f0_3, f0_4, f0_5, f0_6, f0_7, f0_8, f0_9, f0_10, f0_11, f0_12, f0_13, f0_14, f0_15, f0_16⟩ := facts17 hrX
  obtain ⟨e0_0, e0_1, e0_2, e0_3, e0_4, e0_5, e0_6, e0_7, e0_8, e0_9, e0_10, e0_11, e0_12, e0_13, e0_14, e0_15, e0_16⟩ := facts17 hrY
  have Hbw0 := Lib.hid (Below.refl ((w.alloc (.cells #[.int .i64 x.k, .string x.atom.rel, .slice a1.A a1.n a1.c, .int .i64 x.op, .int .i64 x.l.op, .string x.l.t.x, .int .i64 x.l.t.v.k, .int .i64 x.l.t.v.n, .string x.l.t.v.s, .slice p1.A p1.n p1.c, .int .i64 x.r.op, .string x.r.t.x, .int .i64 x.r.t.v.k, .int .i64 x.r.t.v.n, .string x.r.t.v.s, .slice q1.A q1.n q1.c, .int .i64 x.pos] 38)).alloc (.cells #[.int .i64 y.k, .string y.atom.rel, .slice a2.A a2.n a2.c, .int .i64 y.op, .int .i64 y.l.op, .string y.l.t.x, .int .i64 y.l.t.v.k, .int .i64 y.l.t.v.n, .string y.l.t.v.s, .slice p2.A p2.n p2.c, .int .i64 y.r.op, .string y.r.t.x, .int .i64 y.r.t.v.k, .int .i64 y.r.t.v.n, .string y.r.t.v.s, .slice q2.A q2.n q2.c, .int .i64 y.pos] 38)).heap.size ((w.alloc (.cells #[.int .i64 x.k, .string x.atom.rel, .slice a1.A a1.n a1.c, .int .i64 x.op, .int .i64 x.l.op, .string x.l.t.x, .int .i64 x.l.t.v.k, .int .i64 x.l.t.v.n, .string x.l.t.v.s, .slice p1.A p1.n p1.c, .int .i64 x.r.op, .string x.r.t.x, .int .i64 x.r.t.v.k, .int .i64 x.r.t.v.n, .string x.r.t.v.s, .slice q1.A q1.n q1.c, .int .i64 x.pos] 38)).alloc (.cells #[.int .i64 y.k, .string y.atom.rel, .slice a2.A a2.n a2.c, .int .i64 y.op, .int .i64 y.l.op, .string y.l.t.x, .int .i64 y.l.t.v.k, .int .i64 y.l.t.v.n, .string y.l.t.v.s, .slice p2.A p2.n p2.c, .int .i64 y.r.op, .string y.r.t.x, .int .i64 y.r.t.v.k, .int .i64 y.r.t.v.n, .string y.r.t.v.s, .slice q2.A q2.n q2.c, .int .i64 y.pos] 38)))
  clear hrX hrY HB HP1 HP2 HP3 hx hy
  generalize hwb : ((w.alloc (.cells #[.int .i64 x.k, .string x.atom.rel, .slice a1.A a1.n a1.c, .int .i64 x.op, .int .i64 x.l.op, .string x.l.t.x, .int .i64 x.l.t.v.k, .int .i64 x.l.t.v.n, .string x.l.t.v.s, .slice p1.A p1.n p1.c, .int .i64 x.r.op, .string x.r.t.x, .int .i64 x.r.t.v.k, .int .i64 x.r.t.v.n, .string x.r.t.v.s, .slice q1.A q1.n q1.c, .int .i64 x.pos] 38)).alloc (.cells #[.int .i64 y.k, .string y.atom.rel, .slice a2.A a2.n a2.c, .int .i64 y.op, .int .i64 y.l.op, .string y.l.t.x, .int .i64 y.l.t.v.k, .int .i64 y.l.t.v.n, .string y.l.t.v.s, .slice p2.A p2.n p2.c, .int .i64 y.r.op, .string y.r.t.x, .int .i64 y.r.t.v.k, .int .i64 y.r.t.v.n, .string y.r.t.v.s, .slice q2.A q2.n q2.c, .int .i64 y.pos] 38)) = wb at *
  by_cases hp0 : x.k = y.k
  · have HE0 : Hid (B = (P1 && (decide (x.op = y.op) && (P2 && P3)))) := by show _ = _; rw [HE.out, decide_eq_true hp0]; simp
    have hh0_0 : (x.k == y.k) = true := by simp [hp0]
    clear HE hp0
    by_cases hp2 : x.op = y.op
    · have HE2 : Hid (B = (P1 && (P2 && P3))) := by show _ = _; rw [HE0.out, decide_eq_true hp2]; simp
      have hh2_0 : (x.op == y.op) = true := by simp [hp2]
      clear HE0 hp2
      go_enter Tryz.func137, Tryz.ntmps137
      go_wp2_with fail
      try simp only [hwb]
      go_wp2_with fail
      refine (C1.out _ Hbw0.out).mono ?_
      rintro e1 w1 ⟨rfl, hq1⟩
      have Hbw1 := Lib.hid (below_next Hbw0.out hq1)
      obtain ⟨f1_0, f1_1, f1_2, f1_3, f1_4, f1_5, f1_6, f1_7, f1_8, f1_9, f1_10, f1_11, f1_12, f1_13, f1_14, f1_15, f1_16⟩ := facts17 (HrowX.out _ Hbw1.out)
      obtain ⟨e1_0, e1_1, e1_2, e1_3, e1_4, e1_5, e1_6, e1_7, e1_8, e1_9, e1_10, e1_11, e1_12, e1_13, e1_14, e1_15, e1_16⟩ := facts17 (HrowY.out _ Hbw1.out)
      clear hq1 f0_0 f0_1 f0_2 f0_3 f0_4 f0_5 f0_6 f0_7 f0_8 f0_9 f0_10 f0_11 f0_12 f0_13 f0_14 f0_15 f0_16 e0_0 e0_1 e0_2 e0_3 e0_4 e0_5 e0_6 e0_7 e0_8 e0_9 e0_10 e0_11 e0_12 e0_13 e0_14 e0_15 e0_16
      cases P1 with
      | false =>
        go_wp2_with fail
        go_ret
        exact ⟨by rw [HE2.out]; rfl, below_next hba Hbw1.out⟩
      | true =>
        go_wp2_with fail
        refine (C2.out _ Hbw1.out).mono ?_
        rintro e2 w2 ⟨rfl, hq2⟩
        have Hbw2 := Lib.hid (below_next Hbw1.out hq2)
        obtain ⟨f2_0, f2_1, f2_2, f2_3, f2_4, f2_5, f2_6, f2_7, f2_8, f2_9, f2_10, f2_11, f2_12, f2_13, f2_14, f2_15, f2_16⟩ := facts17 (HrowX.out _ Hbw2.out)
        obtain ⟨e2_0, e2_1, e2_2, e2_3, e2_4, e2_5, e2_6, e2_7, e2_8, e2_9, e2_10, e2_11, e2_12, e2_13, e2_14, e2_15, e2_16⟩ := facts17 (HrowY.out _ Hbw2.out)
        clear hq2 f1_0 f1_1 f1_2 f1_3 f1_4 f1_5 f1_6 f1_7 f1_8 f1_9 f1_10 f1_11 f1_12 f1_13 f1_14 f1_15 f1_16 e1_0 e1_1 e1_2 e1_3 e1_4 e1_5 e1_6 e1_7 e1_8 e1_9 e1_10 e1_11 e1_12 e1_13 e1_14 e1_15 e1_16
        cases P2 with
        | false =>
          go_wp2_with fail
          go_ret
          exact ⟨by rw [HE2.out]; rfl, below_next hba Hbw2.out⟩
        | true =>
          go_wp2_with fail
          refine (C3.out _ Hbw2.out).mono ?_
          rintro e3 w3 ⟨rfl, hq3⟩
          have Hbw3 := Lib.hid (below_next Hbw2.out hq3)
          obtain ⟨f3_0, f3_1, f3_2, f3_3, f3_4, f3_5, f3_6, f3_7, f3_8, f3_9, f3_10, f3_11, f3_12, f3_13, f3_14, f3_15, f3_16⟩ := facts17 (HrowX.out _ Hbw3.out)
          obtain ⟨e3_0, e3_1, e3_2, e3_3, e3_4, e3_5, e3_6, e3_7, e3_8, e3_9, e3_10, e3_11, e3_12, e3_13, e3_14, e3_15, e3_16⟩ := facts17 (HrowY.out _ Hbw3.out)
          clear hq3 f2_0 f2_1 f2_2 f2_3 f2_4 f2_5 f2_6 f2_7 f2_8 f2_9 f2_10 f2_11 f2_12 f2_13 f2_14 f2_15 f2_16 e2_0 e2_1 e2_2 e2_3 e2_4 e2_5 e2_6 e2_7 e2_8 e2_9 e2_10 e2_11 e2_12 e2_13 e2_14 e2_15 e2_16
          cases P3 with
          | false =>
            go_wp2_with fail
            go_ret
            exact ⟨by rw [HE2.out]; rfl, below_next hba Hbw3.out⟩
          | true =>
            go_wp2_with fail
            go_ret
            exact ⟨by rw [HE2.out]; rfl, below_next hba Hbw3.out⟩
    · have HE2 : Hid (B = false) := by show _ = _; rw [HE0.out, decide_eq_false hp2]; simp
      have hh2_0 : (x.op == y.op) = false := by simp [hp2]
      clear HE0 hp2
      go_enter Tryz.func137, Tryz.ntmps137
      go_wp2_with fail
      try simp only [hwb]
      go_wp2_with fail
      refine (C1.out _ Hbw0.out).mono ?_
      rintro e1 w1 ⟨rfl, hq1⟩
      have Hbw1 := Lib.hid (below_next Hbw0.out hq1)
      obtain ⟨f1_0, f1_1, f1_2, f1_3, f1_4, f1_5, f1_6, f1_7, f1_8, f1_9, f1_10, f1_11, f1_12, f1_13, f1_14, f1_15, f1_16⟩ := facts17 (HrowX.out _ Hbw1.out)
      obtain ⟨e1_0, e1_1, e1_2, e1_3, e1_4, e1_5, e1_6, e1_7, e1_8, e1_9, e1_10, e1_11, e1_12, e1_13, e1_14, e1_15, e1_16⟩ := facts17 (HrowY.out _ Hbw1.out)
      clear hq1 f0_0 f0_1 f0_2 f0_3 f0_4 f0_5 f0_6 f0_7 f0_8 f0_9 f0_10 f0_11 f0_12 f0_13 f0_14 f0_15 f0_16 e0_0 e0_1 e0_2 e0_3 e0_4 e0_5 e0_6 e0_7 e0_8 e0_9 e0_10 e0_11 e0_12 e0_13 e0_14 e0_15 e0_16
      cases P1 with
      | false =>
        go_wp2_with fail
        go_ret
        exact ⟨by rw [HE2.out]; rfl, below_next hba Hbw1.out⟩
      | true =>
        go_wp2_with fail
        go_ret
        exact ⟨by rw [HE2.out]; rfl, below_next hba Hbw1.out⟩
  · have HE0 : Hid (B = false) := by show _ = _; rw [HE.out, decide_eq_false hp0]; simp
    have hh0_0 : (x.k == y.k) = false := by simp [hp0]
    clear HE hp0
    go_enter Tryz.func137, Tryz.ntmps137
    go_wp2_with fail
    try simp only [hwb]
    go_wp2_with fail
    go_ret
    exact ⟨by rw [HE0.out]; rfl, below_next hba Hbw0.out⟩
set_option maxRecDepth 100000 in
set_option maxHeartbeats 4000000 in
theorem sameR_any (d1 d2 : Nat) (x y : GRule) (A1 : Option Addr) (n1 c1 : Nat) (E1 : Option Addr) (m1 e1 : Nat) (A2 : Option Addr) (n2 c2 : Nat) (E2 : Option Addr) (m2 e2 : Nat) (w : World) (hx : RuleAt d1 w w.heap.size x ⟨A1, n1, c1⟩ ⟨E1, m1, e1⟩) (hy : RuleAt d2 w w.heap.size y ⟨A2, n2, c2⟩ ⟨E2, m2, e2⟩) :
    Calls Tryz.prog 94 #[.agg #[.string x.head.rel, .slice A1 n1 c1, .int .i64 x.agg, .int .i64 x.col, .slice E1 m1 e1, .int .i64 x.pos], .agg #[.string y.head.rel, .slice A2 n2 c2, .int .i64 y.agg, .int .i64 y.col, .slice E2 m2 e2, .int .i64 y.pos]] w (RetBool (sameR x y) w) := by

  obtain ⟨B, HB⟩ : ∃ B, Hid (B = sameR x y) := ⟨_, rfl⟩
  rw [← HB.out]
  have hrX : ((w.alloc (.cells #[.string x.head.rel, .slice A1 n1 c1, .int .i64 x.agg, .int .i64 x.col, .slice E1 m1 e1, .int .i64 x.pos] 27)).alloc (.cells #[.string y.head.rel, .slice A2 n2 c2, .int .i64 y.agg, .int .i64 y.col, .slice E2 m2 e2, .int .i64 y.pos] 27)).heap[w.heap.size]? = some (.cells #[.string x.head.rel, .slice A1 n1 c1, .int .i64 x.agg, .int .i64 x.col, .slice E1 m1 e1, .int .i64 x.pos] 27 (0, 0)) := heapOld (heapNew rfl)
  have hrY : ((w.alloc (.cells #[.string x.head.rel, .slice A1 n1 c1, .int .i64 x.agg, .int .i64 x.col, .slice E1 m1 e1, .int .i64 x.pos] 27)).alloc (.cells #[.string y.head.rel, .slice A2 n2 c2, .int .i64 y.agg, .int .i64 y.col, .slice E2 m2 e2, .int .i64 y.pos] 27)).heap[w.heap.size + 1]? = some (.cells #[.string y.head.rel, .slice A2 n2 c2, .int .i64 y.agg, .int .i64 y.col, .slice E2 m2 e2, .int .i64 y.pos] 27 (0, 0)) := heapNew (by simp)
  have hba : Below w.heap.size w ((w.alloc (.cells #[.string x.head.rel, .slice A1 n1 c1, .int .i64 x.agg, .int .i64 x.col, .slice E1 m1 e1, .int .i64 x.pos] 27)).alloc (.cells #[.string y.head.rel, .slice A2 n2 c2, .int .i64 y.agg, .int .i64 y.col, .slice E2 m2 e2, .int .i64 y.pos] 27)) := belowA (belowA (Below.refl _ _) _) _
  obtain ⟨P1, HP1⟩ : ∃ E, Hid (E = sameA x.head y.head) := ⟨_, rfl⟩
  have C1 : Hid (∀ W, Below ((w.alloc (.cells #[.string x.head.rel, .slice A1 n1 c1, .int .i64 x.agg, .int .i64 x.col, .slice E1 m1 e1, .int .i64 x.pos] 27)).alloc (.cells #[.string y.head.rel, .slice A2 n2 c2, .int .i64 y.agg, .int .i64 y.col, .slice E2 m2 e2, .int .i64 y.pos] 27)).heap.size ((w.alloc (.cells #[.string x.head.rel, .slice A1 n1 c1, .int .i64 x.agg, .int .i64 x.col, .slice E1 m1 e1, .int .i64 x.pos] 27)).alloc (.cells #[.string y.head.rel, .slice A2 n2 c2, .int .i64 y.agg, .int .i64 y.col, .slice E2 m2 e2, .int .i64 y.pos] 27)) W → Calls Tryz.prog 135 #[.agg #[.string x.head.rel, .slice A1 n1 c1], .agg #[.string y.head.rel, .slice A2 n2 c2]] W (RetBool P1 W)) := fun W h => by rw [HP1.out]; exact sameA_any x.head y.head A1 n1 c1 A2 n2 c2 W ((hx.keep hba).keep h).args ((hy.keep hba).keep h).args
  obtain ⟨P2, HP2⟩ : ∃ E, Hid (E = eqL sameLt x.body y.body) := ⟨_, rfl⟩
  have C2 : Hid (∀ W, Below ((w.alloc (.cells #[.string x.head.rel, .slice A1 n1 c1, .int .i64 x.agg, .int .i64 x.col, .slice E1 m1 e1, .int .i64 x.pos] 27)).alloc (.cells #[.string y.head.rel, .slice A2 n2 c2, .int .i64 y.agg, .int .i64 y.col, .slice E2 m2 e2, .int .i64 y.pos] 27)).heap.size ((w.alloc (.cells #[.string x.head.rel, .slice A1 n1 c1, .int .i64 x.agg, .int .i64 x.col, .slice E1 m1 e1, .int .i64 x.pos] 27)).alloc (.cells #[.string y.head.rel, .slice A2 n2 c2, .int .i64 y.agg, .int .i64 y.col, .slice E2 m2 e2, .int .i64 y.pos] 27)) W → Calls Tryz.prog 136 #[.slice E1 m1 e1, .slice E2 m2 e2, .func (.func 137) #[] #[]] W (RetBool P2 W)) := fun W h => by rw [HP2.out]; exact eqFuncL_any d1 d2 E1 E2 m1 m2 e1 e2 x.body y.body W ((hx.keep hba).keep h).body ((hy.keep hba).keep h).body (fun x y a1 p1 q1 a2 p2 q2 W _ h1 h2 => sameLt_any d1 d2 x y a1 p1 q1 a2 p2 q2 W h1 h2)
  have HE : Hid (B = (P1 && (decide (x.agg = y.agg ∧ x.col = y.col) && P2))) := by show _ = _; rw [HB.out, HP1.out, HP2.out]; rfl
  have HrowX : Hid (∀ W, Below ((w.alloc (.cells #[.string x.head.rel, .slice A1 n1 c1, .int .i64 x.agg, .int .i64 x.col, .slice E1 m1 e1, .int .i64 x.pos] 27)).alloc (.cells #[.string y.head.rel, .slice A2 n2 c2, .int .i64 y.agg, .int .i64 y.col, .slice E2 m2 e2, .int .i64 y.pos] 27)).heap.size ((w.alloc (.cells #[.string x.head.rel, .slice A1 n1 c1, .int .i64 x.agg, .int .i64 x.col, .slice E1 m1 e1, .int .i64 x.pos] 27)).alloc (.cells #[.string y.head.rel, .slice A2 n2 c2, .int .i64 y.agg, .int .i64 y.col, .slice E2 m2 e2, .int .i64 y.pos] 27)) W → W.heap[w.heap.size]? = some (.cells #[.string x.head.rel, .slice A1 n1 c1, .int .i64 x.agg, .int .i64 x.col, .slice E1 m1 e1, .int .i64 x.pos] 27 (0, 0))) := fun W h => (h.block _ (Array.getElem?_eq_some_iff.1 hrX).1).trans hrX
  have HrowY : Hid (∀ W, Below ((w.alloc (.cells #[.string x.head.rel, .slice A1 n1 c1, .int .i64 x.agg, .int .i64 x.col, .slice E1 m1 e1, .int .i64 x.pos] 27)).alloc (.cells #[.string y.head.rel, .slice A2 n2 c2, .int .i64 y.agg, .int .i64 y.col, .slice E2 m2 e2, .int .i64 y.pos] 27)).heap.size ((w.alloc (.cells #[.string x.head.rel, .slice A1 n1 c1, .int .i64 x.agg, .int .i64 x.col, .slice E1 m1 e1, .int .i64 x.pos] 27)).alloc (.cells #[.string y.head.rel, .slice A2 n2 c2, .int .i64 y.agg, .int .i64 y.col, .slice E2 m2 e2, .int .i64 y.pos] 27)) W → W.heap[w.heap.size + 1]? = some (.cells #[.string y.head.rel, .slice A2 n2 c2, .int .i64 y.agg, .int .i64 y.col, .slice E2 m2 e2, .int .i64 y.pos] 27 (0, 0))) := fun W h => (h.block _ (Array.getElem?_eq_some_iff.1 hrY).1).trans hrY
  obtain ⟨f0_0, f0_1, f0_2, f0_3, f0_4, f0_5⟩ := facts6 hrX
  obtain ⟨e0_0, e0_1, e0_2, e0_3, e0_4, e0_5⟩ := facts6 hrY
  have Hbw0 := Lib.hid (Below.refl ((w.alloc (.cells #[.string x.head.rel, .slice A1 n1 c1, .int .i64 x.agg, .int .i64 x.col, .slice E1 m1 e1, .int .i64 x.pos] 27)).alloc (.cells #[.string y.head.rel, .slice A2 n2 c2, .int .i64 y.agg, .int .i64 y.col, .slice E2 m2 e2, .int .i64 y.pos] 27)).heap.size ((w.alloc (.cells #[.string x.head.rel, .slice A1 n1 c1, .int .i64 x.agg, .int .i64 x.col, .slice E1 m1 e1, .int .i64 x.pos] 27)).alloc (.cells #[.string y.head.rel, .slice A2 n2 c2, .int .i64 y.agg, .int .i64 y.col, .slice E2 m2 e2, .int .i64 y.pos] 27)))
  clear hrX hrY HB HP1 HP2 hx hy
  generalize hwb : ((w.alloc (.cells #[.string x.head.rel, .slice A1 n1 c1, .int .i64 x.agg, .int .i64 x.col, .slice E1 m1 e1, .int .i64 x.pos] 27)).alloc (.cells #[.string y.head.rel, .slice A2 n2 c2, .int .i64 y.agg, .int .i64 y.col, .slice E2 m2 e2, .int .i64 y.pos] 27)) = wb at *
  by_cases hp1 : x.agg = y.agg ∧ x.col = y.col
  · have HE1 : Hid (B = (P1 && P2)) := by show _ = _; rw [HE.out, decide_eq_true hp1]; simp
    have hh1_0 : ∀ W, (binOp .eql 218 (.agg #[.int .i64 x.agg, .int .i64 x.col]) (.agg #[.int .i64 y.agg, .int .i64 y.col])).run Tryz.prog W = .ok (.bool true) W := by intro W; rw [run_two_eq, decide_eq_true hp1]
    clear HE hp1
    go_enter Tryz.func94, Tryz.ntmps94
    go_wp2_with fail
    try simp only [hwb]
    go_wp2_with fail
    refine (C1.out _ Hbw0.out).mono ?_
    rintro e1 w1 ⟨rfl, hq1⟩
    have Hbw1 := Lib.hid (below_next Hbw0.out hq1)
    obtain ⟨f1_0, f1_1, f1_2, f1_3, f1_4, f1_5⟩ := facts6 (HrowX.out _ Hbw1.out)
    obtain ⟨e1_0, e1_1, e1_2, e1_3, e1_4, e1_5⟩ := facts6 (HrowY.out _ Hbw1.out)
    clear hq1 f0_0 f0_1 f0_2 f0_3 f0_4 f0_5 e0_0 e0_1 e0_2 e0_3 e0_4 e0_5
    cases P1 with
    | false =>
      go_wp2_with fail
      go_ret
      exact ⟨by rw [HE1.out]; rfl, below_next hba Hbw1.out⟩
    | true =>
      go_wp2_with fail
      refine (C2.out _ Hbw1.out).mono ?_
      rintro e2 w2 ⟨rfl, hq2⟩
      have Hbw2 := Lib.hid (below_next Hbw1.out hq2)
      obtain ⟨f2_0, f2_1, f2_2, f2_3, f2_4, f2_5⟩ := facts6 (HrowX.out _ Hbw2.out)
      obtain ⟨e2_0, e2_1, e2_2, e2_3, e2_4, e2_5⟩ := facts6 (HrowY.out _ Hbw2.out)
      clear hq2 f1_0 f1_1 f1_2 f1_3 f1_4 f1_5 e1_0 e1_1 e1_2 e1_3 e1_4 e1_5
      cases P2 with
      | false =>
        go_wp2_with fail
        go_ret
        exact ⟨by rw [HE1.out]; rfl, below_next hba Hbw2.out⟩
      | true =>
        go_wp2_with fail
        go_ret
        exact ⟨by rw [HE1.out]; rfl, below_next hba Hbw2.out⟩
  · have HE1 : Hid (B = false) := by show _ = _; rw [HE.out, decide_eq_false hp1]; simp
    have hh1_0 : ∀ W, (binOp .eql 218 (.agg #[.int .i64 x.agg, .int .i64 x.col]) (.agg #[.int .i64 y.agg, .int .i64 y.col])).run Tryz.prog W = .ok (.bool false) W := by intro W; rw [run_two_eq, decide_eq_false hp1]
    clear HE hp1
    go_enter Tryz.func94, Tryz.ntmps94
    go_wp2_with fail
    try simp only [hwb]
    go_wp2_with fail
    refine (C1.out _ Hbw0.out).mono ?_
    rintro e1 w1 ⟨rfl, hq1⟩
    have Hbw1 := Lib.hid (below_next Hbw0.out hq1)
    obtain ⟨f1_0, f1_1, f1_2, f1_3, f1_4, f1_5⟩ := facts6 (HrowX.out _ Hbw1.out)
    obtain ⟨e1_0, e1_1, e1_2, e1_3, e1_4, e1_5⟩ := facts6 (HrowY.out _ Hbw1.out)
    clear hq1 f0_0 f0_1 f0_2 f0_3 f0_4 f0_5 e0_0 e0_1 e0_2 e0_3 e0_4 e0_5
    cases P1 with
    | false =>
      go_wp2_with fail
      go_ret
      exact ⟨by rw [HE1.out]; rfl, below_next hba Hbw1.out⟩
    | true =>
      go_wp2_with fail
      go_ret
      exact ⟨by rw [HE1.out]; rfl, below_next hba Hbw1.out⟩
set_option maxRecDepth 100000 in
set_option maxHeartbeats 4000000 in
theorem sameP_any (d1 d2 : Nat) (x y : GProg) (A1 : Option Addr) (n1 c1 : Nat) (E1 : Option Addr) (m1 e1 : Nat) (A2 : Option Addr) (n2 c2 : Nat) (E2 : Option Addr) (m2 e2 : Nat) (w : World) (hx : ProgAt d1 w w.heap.size x ⟨A1, n1, c1⟩ ⟨E1, m1, e1⟩) (hy : ProgAt d2 w w.heap.size y ⟨A2, n2, c2⟩ ⟨E2, m2, e2⟩) :
    Calls Tryz.prog 46 #[.agg #[.slice A1 n1 c1, .slice E1 m1 e1], .agg #[.slice A2 n2 c2, .slice E2 m2 e2]] w (RetBool (sameP x y) w) := by

  obtain ⟨B, HB⟩ : ∃ B, Hid (B = sameP x y) := ⟨_, rfl⟩
  rw [← HB.out]
  have hrX : ((w.alloc (.cells #[.slice A1 n1 c1, .slice E1 m1 e1] 74)).alloc (.cells #[.slice A2 n2 c2, .slice E2 m2 e2] 74)).heap[w.heap.size]? = some (.cells #[.slice A1 n1 c1, .slice E1 m1 e1] 74 (0, 0)) := heapOld (heapNew rfl)
  have hrY : ((w.alloc (.cells #[.slice A1 n1 c1, .slice E1 m1 e1] 74)).alloc (.cells #[.slice A2 n2 c2, .slice E2 m2 e2] 74)).heap[w.heap.size + 1]? = some (.cells #[.slice A2 n2 c2, .slice E2 m2 e2] 74 (0, 0)) := heapNew (by simp)
  have hba : Below w.heap.size w ((w.alloc (.cells #[.slice A1 n1 c1, .slice E1 m1 e1] 74)).alloc (.cells #[.slice A2 n2 c2, .slice E2 m2 e2] 74)) := belowA (belowA (Below.refl _ _) _) _
  obtain ⟨P1, HP1⟩ : ∃ E, Hid (E = eqL sameD x.decls y.decls) := ⟨_, rfl⟩
  have C1 : Hid (∀ W, Below ((w.alloc (.cells #[.slice A1 n1 c1, .slice E1 m1 e1] 74)).alloc (.cells #[.slice A2 n2 c2, .slice E2 m2 e2] 74)).heap.size ((w.alloc (.cells #[.slice A1 n1 c1, .slice E1 m1 e1] 74)).alloc (.cells #[.slice A2 n2 c2, .slice E2 m2 e2] 74)) W → Calls Tryz.prog 91 #[.slice A1 n1 c1, .slice A2 n2 c2, .func (.func 92) #[] #[]] W (RetBool P1 W)) := fun W h => by rw [HP1.out]; exact eqFuncD_any A1 A2 n1 n2 c1 c2 x.decls y.decls W ((hx.keep hba).keep h).decls ((hy.keep hba).keep h).decls (fun x y A1 n1 c1 A2 n2 c2 W _ h1 h2 => sameD_any x y A1 n1 c1 A2 n2 c2 W h1.kinds h2.kinds)
  obtain ⟨P2, HP2⟩ : ∃ E, Hid (E = eqL sameR x.rules y.rules) := ⟨_, rfl⟩
  have C2 : Hid (∀ W, Below ((w.alloc (.cells #[.slice A1 n1 c1, .slice E1 m1 e1] 74)).alloc (.cells #[.slice A2 n2 c2, .slice E2 m2 e2] 74)).heap.size ((w.alloc (.cells #[.slice A1 n1 c1, .slice E1 m1 e1] 74)).alloc (.cells #[.slice A2 n2 c2, .slice E2 m2 e2] 74)) W → Calls Tryz.prog 93 #[.slice E1 m1 e1, .slice E2 m2 e2, .func (.func 94) #[] #[]] W (RetBool P2 W)) := fun W h => by rw [HP2.out]; exact eqFuncR_any d1 d2 E1 E2 m1 m2 e1 e2 x.rules y.rules W ((hx.keep hba).keep h).rules ((hy.keep hba).keep h).rules (fun x y A1 n1 c1 E1 m1 e1 A2 n2 c2 E2 m2 e2 W _ h1 h2 => sameR_any d1 d2 x y A1 n1 c1 E1 m1 e1 A2 n2 c2 E2 m2 e2 W h1 h2)
  have HE : Hid (B = (P1 && P2)) := by show _ = _; rw [HB.out, HP1.out, HP2.out]; rfl
  have HrowX : Hid (∀ W, Below ((w.alloc (.cells #[.slice A1 n1 c1, .slice E1 m1 e1] 74)).alloc (.cells #[.slice A2 n2 c2, .slice E2 m2 e2] 74)).heap.size ((w.alloc (.cells #[.slice A1 n1 c1, .slice E1 m1 e1] 74)).alloc (.cells #[.slice A2 n2 c2, .slice E2 m2 e2] 74)) W → W.heap[w.heap.size]? = some (.cells #[.slice A1 n1 c1, .slice E1 m1 e1] 74 (0, 0))) := fun W h => (h.block _ (Array.getElem?_eq_some_iff.1 hrX).1).trans hrX
  have HrowY : Hid (∀ W, Below ((w.alloc (.cells #[.slice A1 n1 c1, .slice E1 m1 e1] 74)).alloc (.cells #[.slice A2 n2 c2, .slice E2 m2 e2] 74)).heap.size ((w.alloc (.cells #[.slice A1 n1 c1, .slice E1 m1 e1] 74)).alloc (.cells #[.slice A2 n2 c2, .slice E2 m2 e2] 74)) W → W.heap[w.heap.size + 1]? = some (.cells #[.slice A2 n2 c2, .slice E2 m2 e2] 74 (0, 0))) := fun W h => (h.block _ (Array.getElem?_eq_some_iff.1 hrY).1).trans hrY
  obtain ⟨f0_0, f0_1⟩ := facts2 hrX
  obtain ⟨e0_0, e0_1⟩ := facts2 hrY
  have Hbw0 := Lib.hid (Below.refl ((w.alloc (.cells #[.slice A1 n1 c1, .slice E1 m1 e1] 74)).alloc (.cells #[.slice A2 n2 c2, .slice E2 m2 e2] 74)).heap.size ((w.alloc (.cells #[.slice A1 n1 c1, .slice E1 m1 e1] 74)).alloc (.cells #[.slice A2 n2 c2, .slice E2 m2 e2] 74)))
  clear hrX hrY HB HP1 HP2 hx hy
  generalize hwb : ((w.alloc (.cells #[.slice A1 n1 c1, .slice E1 m1 e1] 74)).alloc (.cells #[.slice A2 n2 c2, .slice E2 m2 e2] 74)) = wb at *
  go_enter Tryz.func46, Tryz.ntmps46
  go_wp2_with fail
  try simp only [hwb]
  go_wp2_with fail
  refine (C1.out _ Hbw0.out).mono ?_
  rintro e1 w1 ⟨rfl, hq1⟩
  have Hbw1 := Lib.hid (below_next Hbw0.out hq1)
  obtain ⟨f1_0, f1_1⟩ := facts2 (HrowX.out _ Hbw1.out)
  obtain ⟨e1_0, e1_1⟩ := facts2 (HrowY.out _ Hbw1.out)
  clear hq1 f0_0 f0_1 e0_0 e0_1
  cases P1 with
  | false =>
    go_wp2_with fail
    go_ret
    exact ⟨by rw [HE.out]; rfl, below_next hba Hbw1.out⟩
  | true =>
    go_wp2_with fail
    refine (C2.out _ Hbw1.out).mono ?_
    rintro e2 w2 ⟨rfl, hq2⟩
    have Hbw2 := Lib.hid (below_next Hbw1.out hq2)
    obtain ⟨f2_0, f2_1⟩ := facts2 (HrowX.out _ Hbw2.out)
    obtain ⟨e2_0, e2_1⟩ := facts2 (HrowY.out _ Hbw2.out)
    clear hq2 f1_0 f1_1 e1_0 e1_1
    cases P2 with
    | false =>
      go_wp2_with fail
      go_ret
      exact ⟨by rw [HE.out]; rfl, below_next hba Hbw2.out⟩
    | true =>
      go_wp2_with fail
      go_ret
      exact ⟨by rw [HE.out]; rfl, below_next hba Hbw2.out⟩
end Go.Proofs.YtplekbpmfaghbaaGreatDoor
