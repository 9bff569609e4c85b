/- My own texts ArRH, as far as this claim needs them. -/
import Derived.Test.YtgabkmibfhmkmaaGreatDoorZe13
import Derived.Test.YtgabkmibfhmkmaaGreatDoorZe14
import Derived.Test.YtgabkmibfhmkmaaGreatDoorZe15
import Derived.Test.YtgabkmibfhmkmaaGreatDoorZe30
set_option linter.unusedVariables false
set_option linter.unusedSimpArgs false
namespace Go.Proofs.YtgabkmibfhmkmaaGreatDoor
open Go.RowKit
theorem gv_eq {a b : GV} : a = b ↔ a.k = b.k ∧ a.n = b.n ∧ a.s.toList = b.s.toList := by
  cases a; cases b
  simp [toList_inj]
def rhF (op : Int) (a b : GV) (C : Bool) (j g : Nat) (i : Nat) (v : Value) (W : World) : Prop := match i with
  | 0 => v = .agg #[.int .i64 a.k, .int .i64 a.n, .string a.s]
  | 1 => v = .agg #[.int .i64 b.k, .int .i64 b.n, .string b.s]
  | 2 => v = .bool (decide (a = b))
  | 3 => v = .agg #[.int .i64 a.k, .int .i64 a.n, .string a.s]
  | 4 => v = .agg #[.int .i64 b.k, .int .i64 b.n, .string b.s]
  | 5 => v = .bool (!decide (a = b))
  | 6 => v = .pointer (some ⟨g, 1, none⟩)
  | 7 => v = .int .i64 a.n
  | 8 => v = .pointer (some ⟨g + 1, 1, none⟩)
  | 9 => v = .int .i64 b.n
  | 10 => v = .bool (decide (a.n < b.n))
  | 11 => v = .pointer (some ⟨g, 1, none⟩)
  | 12 => v = .int .i64 a.n
  | 13 => v = .pointer (some ⟨g + 1, 1, none⟩)
  | 14 => v = .int .i64 b.n
  | 15 => v = .bool (decide (a.n ≤ b.n))
  | 16 => v = .pointer (some ⟨g, 1, none⟩)
  | 17 => v = .int .i64 a.n
  | 18 => v = .pointer (some ⟨g + 1, 1, none⟩)
  | 19 => v = .int .i64 b.n
  | 20 => v = .bool (decide (b.n < a.n))
  | 21 => v = .pointer (some ⟨g, 1, none⟩)
  | 22 => v = .int .i64 a.n
  | 23 => v = .pointer (some ⟨g + 1, 1, none⟩)
  | 24 => v = .int .i64 b.n
  | 25 => v = .bool (decide (b.n ≤ a.n))
  | 26 => ∃ h, v = .slice (some ⟨h, 0, none⟩) 6 6 ∧ W.cell? ⟨h, j, none⟩ = some (.bool C)
  | 27 => v = .int .i64 op
  | 28 => v = .int .i64 (j : Int)
  | 29 => ∃ h, v = .pointer (some ⟨h, j, none⟩) ∧ W.cell? ⟨h, j, none⟩ = some (.bool C)
  | 30 => v = .bool C
  | 31 => v = .bool C
  | _ => True
theorem rhF_keep {op : Int} {a b : GV} {C : Bool} {j g i : Nat} {v : Value} {W W' : World} (h : rhF op a b C j g i v W) (hb : Below W.heap.size W W') : rhF op a b C j g i v W' := by
  match i, h with
  | 0, h => exact h
  | 1, h => exact h
  | 2, h => exact h
  | 3, h => exact h
  | 4, h => exact h
  | 5, h => exact h
  | 6, h => exact h
  | 7, h => exact h
  | 8, h => exact h
  | 9, h => exact h
  | 10, h => exact h
  | 11, h => exact h
  | 12, h => exact h
  | 13, h => exact h
  | 14, h => exact h
  | 15, h => exact h
  | 16, h => exact h
  | 17, h => exact h
  | 18, h => exact h
  | 19, h => exact h
  | 20, h => exact h
  | 21, h => exact h
  | 22, h => exact h
  | 23, h => exact h
  | 24, h => exact h
  | 25, h => exact h
  | 26, ⟨q, h1, h2⟩ => exact ⟨q, h1, below_cell hb h2⟩
  | 27, h => exact h
  | 28, h => exact h
  | 29, ⟨q, h1, h2⟩ => exact ⟨q, h1, below_cell hb h2⟩
  | 30, h => exact h
  | 31, h => exact h
  | _ + 32, _ => exact trivial
set_option maxRecDepth 100000 in
set_option maxHeartbeats 4000000 in
theorem refHolds_any (op : Int) (a b : GV) (hoa : a.ok) (hob : b.ok) (w : World) : Calls Tryz.prog 103 #[.int .i64 op, a.v, b.v] w (RetBE (holdsS op a b) (fun e => .int .i64 e) w) := by
  have mixed : Tryz.prog.follows .mixedOrders = true := by kernel_rfl
  obtain ⟨P, HP⟩ : ∃ P : Ending → World → Prop, Hid (P = RetBE (holdsS op a b) (fun e => .int .i64 e) w) := ⟨_, rfl⟩
  rw [← HP.out]
  have HPost : Hid (∀ q : Bool × Int, holdsS op a b = q → ∀ w', Below w.heap.size w w' → P (.returned (.tuple #[.bool q.1, Value.int .i64 q.2])) w') := fun p hp w' hb => by rw [HP.out, hp]; exact ⟨rfl, hb⟩
  clear HP
  have hba : Below w.heap.size w ((w.alloc (.cells #[.int .i64 a.k, .int .i64 a.n, .string a.s] 28)).alloc (.cells #[.int .i64 b.k, .int .i64 b.n, .string b.s] 28)) := belowA (belowA (Below.refl _ _) _) _
  have ra : ((w.alloc (.cells #[.int .i64 a.k, .int .i64 a.n, .string a.s] 28)).alloc (.cells #[.int .i64 b.k, .int .i64 b.n, .string b.s] 28)).heap[w.heap.size]? = some (.cells #[.int .i64 a.k, .int .i64 a.n, .string a.s] 28 (0, 0)) := heapOld (heapNew rfl)
  have rb : ((w.alloc (.cells #[.int .i64 a.k, .int .i64 a.n, .string a.s] 28)).alloc (.cells #[.int .i64 b.k, .int .i64 b.n, .string b.s] 28)).heap[w.heap.size + 1]? = some (.cells #[.int .i64 b.k, .int .i64 b.n, .string b.s] 28 (0, 0)) := heapNew (by simp)
  by_cases h1 : op < 1
  · have HG := Lib.hid (HPost.out (false, 2) (by simp [holdsS, h1]))
    clear HPost ra rb
    go_enter Tryz.func103, Tryz.ntmps103
    go_wp2_with fail
    try go_ret2
    exact HG.out _ hba
  by_cases h6 : 6 < op
  · have HG := Lib.hid (HPost.out (false, 2) (by simp [holdsS, h6]))
    clear HPost ra rb
    go_enter Tryz.func103, Tryz.ntmps103
    go_wp2_with fail
    try go_ret2
    exact HG.out _ hba
  have HA := Lib.hid (fun W => refRight_any a hoa W)
  have HB := Lib.hid (fun W => refRight_any b hob W)
  generalize hwb : (w.alloc (.cells #[.int .i64 a.k, .int .i64 a.n, .string a.s] 28)).alloc (.cells #[.int .i64 b.k, .int .i64 b.n, .string b.s] 28) = wb at *
  have HF : Hid (∀ W, Below wb.heap.size wb W → (W.cell? ⟨w.heap.size, 0, none⟩ = some (.int .i64 a.k) ∧ W.cell? ⟨w.heap.size, 1, none⟩ = some (.int .i64 a.n) ∧ W.cell? ⟨w.heap.size, 2, none⟩ = some (.string a.s)) ∧ (W.cell? ⟨w.heap.size + 1, 0, none⟩ = some (.int .i64 b.k) ∧ W.cell? ⟨w.heap.size + 1, 1, none⟩ = some (.int .i64 b.n) ∧ W.cell? ⟨w.heap.size + 1, 2, none⟩ = some (.string b.s))) :=
    fun W h => ⟨facts3 ((h.block _ (Array.getElem?_eq_some_iff.1 ra).1).trans ra), facts3 ((h.block _ (Array.getElem?_eq_some_iff.1 rb).1).trans rb)⟩
  obtain ⟨⟨a0, a1, a2⟩, b0, b1, b2⟩ := HF.out wb (Below.refl _ _)
  clear ra rb
  have HBA := Lib.hid hba
  clear hba
  cases hra : rightB a with
  | false =>
    have HG := Lib.hid (HPost.out (false, 2) (by simp [holdsS, hra]))
    have HA2 := Lib.hid (hra ▸ HA.out)
    clear HPost HA HB hra
    go_enter Tryz.func103, Tryz.ntmps103
    go_wp2_with fail
    try simp only [hwb]
    go_wp2_with fail
    refine (HA2.out _).mono ?_
    rintro e w1 ⟨rfl, hb1⟩
    have HB1 := Lib.hid (below_next HBA.out hb1)
    clear hb1
    go_wp2_with fail
    try go_ret2
    exact HG.out _ HB1.out
  | true =>
    have HA2 := Lib.hid (hra ▸ HA.out)
    clear HA
    cases hrb : rightB b with
    | false =>
      have HG := Lib.hid (HPost.out (false, 2) (by simp [holdsS, hrb]))
      have HB2 := Lib.hid (hrb ▸ HB.out)
      clear HPost HB hra hrb
      go_enter Tryz.func103, Tryz.ntmps103
      go_wp2_with fail
      try simp only [hwb]
      go_wp2_with fail
      refine (HA2.out _).mono ?_
      rintro e w1 ⟨rfl, hb1⟩
      obtain ⟨⟨c0, c1, c2⟩, d0, d1, d2⟩ := HF.out w1 hb1
      have HB1 := Lib.hid hb1
      clear hb1
      go_wp2_with fail
      refine (HB2.out _).mono ?_
      rintro e w2 ⟨rfl, hb2⟩
      have HB3 := Lib.hid (below_next HBA.out (below_next HB1.out hb2))
      clear hb2
      go_wp2_with fail
      try go_ret2
      exact HG.out _ HB3.out
    | true =>
      have HB2 := Lib.hid (hrb ▸ HB.out)
      clear HB
      have HO : Hid (holdsS op a b = if 3 ≤ op ∧ (a.k ≠ 1 ∨ b.k ≠ 1) then (false, 7) else (cmpS op a b, 0)) := by show _ = _; simp [holdsS, h1, h6, hra, hrb]
      clear hra hrb
      have tail : ∀ (w2 : World) (a' : Act), True := fun _ _ => trivial
      by_cases h3 : 3 ≤ op
      · by_cases hka : a.k = 1
        · by_cases hkb : b.k = 1
          · have q1 : (a.k != 1) = false := by simp [hka]
            have q2 : (b.k != 1) = false := by simp [hkb]
            have HO2 : Hid (holdsS op a b = (cmpS op a b, 0)) := by show _ = _; rw [HO.out, if_neg (by simp [hka, hkb])]
            have ho : op = 3 ∨ op = 4 ∨ op = 5 ∨ op = 6 := by omega
            clear ho
            obtain ⟨j, hj⟩ : ∃ j : Nat, op = (j : Int) + 1 := ⟨(op - 1).toNat, by omega⟩
            have j0 : (0 : Int) ≤ (j : Int) := by omega
            have j1 : (j : Int) < 6 := by omega
            have hjw : IntKind.i64.wrap (op - 1) = (j : Int) := by rw [IntWalk.i64_left]; unfold wrap64; omega
            have HG := Lib.hid (fun w' hb => HPost.out _ HO2.out w' hb)
            obtain ⟨C, hC⟩ : ∃ C, cmpS op a b = C := ⟨_, rfl⟩
            rw [hC] at HG
            have KW : ∀ W : World, (W.alloc (.cells #[.bool (decide (a = b)), .bool (!decide (a = b)), .bool (decide (a.n < b.n)), .bool (decide (a.n ≤ b.n)), .bool (decide (b.n < a.n)), .bool (decide (b.n ≤ a.n))] 4)).cell? ⟨W.heap.size, j, none⟩ = some (.bool C) := fun W => by
              rw [← hC]
              have hj6 : j = 0 ∨ j = 1 ∨ j = 2 ∨ j = 3 ∨ j = 4 ∨ j = 5 := by omega
              rcases hj6 with rfl | rfl | rfl | rfl | rfl | rfl
              · rw [show op = 1 by omega]; exact (cell_of_row _ _ 0 _ _ _ (heapNew rfl)).trans rfl
              · rw [show op = 2 by omega]; refine (cell_of_row _ _ 1 _ _ _ (heapNew rfl)).trans ?_; simp [cmpS]
              · rw [show op = 3 by omega]; exact (cell_of_row _ _ 2 _ _ _ (heapNew rfl)).trans rfl
              · rw [show op = 4 by omega]; exact (cell_of_row _ _ 3 _ _ _ (heapNew rfl)).trans rfl
              · rw [show op = 5 by omega]; exact (cell_of_row _ _ 4 _ _ _ (heapNew rfl)).trans rfl
              · rw [show op = 6 by omega]; exact (cell_of_row _ _ 5 _ _ _ (heapNew rfl)).trans rfl
            clear hj hC
            clear hka hkb HO HO2 HPost
            go_enter Tryz.func103, Tryz.ntmps103
            go_wp2_with fail
            try simp only [hwb]
            go_wp2_with fail
            refine (HA2.out _).mono ?_
            rintro e w1 ⟨rfl, hb1⟩
            obtain ⟨⟨c0, c1, c2⟩, d0, d1, d2⟩ := HF.out w1 hb1
            have HB1 := Lib.hid hb1
            clear hb1
            go_wp2_with fail
            refine (HB2.out _).mono ?_
            rintro e w2 ⟨rfl, hb2⟩
            have HB3 := Lib.hid (below_next HBA.out (below_next HB1.out hb2))
            obtain ⟨⟨c3, c4, c5⟩, d3, d4, d5⟩ := HF.out w2 (below_next HB1.out hb2)
            clear hb2 c0 c1 c2 d0 d1 d2
            go_wp2_with fail
            refine drawn2 mixed 32 67 [36, 37, 38, 39, 40, 41, 42, 43, 44, 45, 46, 47, 48, 49, 50, 51, 52, 53, 54, 55, 56, 57, 58, 59, 60, 61, 62, 63, 64, 65, 66, 6] (fun _ W => Below w2.heap.size w2 W) (rhF op a b C j w.heap.size) (fun _ W W' => Below W.heap.size W W') (by rfl) (by kernel_rfl) (by kernel_rfl) (by rfl) ?_ ?_ ?_ ?_ ?_
            · intro j _; exact (Below.refl _ _).drew
            · intro i j v W W' _ _ _ hF hR; exact rhF_keep hF hR
            · intro i j W W' _ _ _ _ hG hR; exact below_next hG hR
            · intro i o2' a2 W hi ho hd hold hG _ hw
              have hr0 : a2.tmps[0]? = some (.int .i64 op) := hold 0 (by kernel_rfl)
              have hr4 : a2.tmps[4]? = some (.pointer (some ⟨w.heap.size, 0, none⟩)) := hold 4 (by kernel_rfl)
              have hr5 : a2.tmps[5]? = some (.pointer (some ⟨w.heap.size + 1, 0, none⟩)) := hold 5 (by kernel_rfl)
              clear hold
              match i, hi, ho with
              | 0, _, ho =>
                injection ho with ho; subst ho
                have z3 := below_cell hG c3; have z4 := below_cell hG c4; have z5 := below_cell hG c5
                exact op_val _ (by simp [execOp, Act.eval, hr4, go_sem, z3, z4, z5]) ⟨_, rfl, Below.refl _ _, rfl⟩
              | 1, _, ho =>
                injection ho with ho; subst ho
                have z3 := below_cell hG d3; have z4 := below_cell hG d4; have z5 := below_cell hG d5
                exact op_val _ (by simp [execOp, Act.eval, hr5, go_sem, z3, z4, z5]) ⟨_, rfl, Below.refl _ _, rfl⟩
              | 2, _, ho =>
                injection ho with ho; subst ho
                obtain ⟨v0, h0, e0⟩ := hw 0 36 (by kernel_rfl)
                obtain rfl : v0 = _ := e0
                obtain ⟨v1, h1, e1⟩ := hw 1 37 (by kernel_rfl)
                obtain rfl : v1 = _ := e1
                exact op_val _ (by simp [execOp, Act.eval, h0, h1, go_sem, gv_eq]; by_cases q1 : a.k = b.k <;> by_cases q2 : a.n = b.n <;> by_cases q3 : a.s.toList = b.s.toList <;> simp [q1, q2, q3]) ⟨_, rfl, Below.refl _ _, rfl⟩
              | 3, _, ho =>
                injection ho with ho; subst ho
                have z3 := below_cell hG c3; have z4 := below_cell hG c4; have z5 := below_cell hG c5
                exact op_val _ (by simp [execOp, Act.eval, hr4, go_sem, z3, z4, z5]) ⟨_, rfl, Below.refl _ _, rfl⟩
              | 4, _, ho =>
                injection ho with ho; subst ho
                have z3 := below_cell hG d3; have z4 := below_cell hG d4; have z5 := below_cell hG d5
                exact op_val _ (by simp [execOp, Act.eval, hr5, go_sem, z3, z4, z5]) ⟨_, rfl, Below.refl _ _, rfl⟩
              | 5, _, ho =>
                injection ho with ho; subst ho
                obtain ⟨v3, h3, e3⟩ := hw 3 39 (by kernel_rfl)
                obtain rfl : v3 = _ := e3
                obtain ⟨v4, h4, e4⟩ := hw 4 40 (by kernel_rfl)
                obtain rfl : v4 = _ := e4
                exact op_val _ (by simp [execOp, Act.eval, h3, h4, go_sem, gv_eq]; by_cases q1 : a.k = b.k <;> by_cases q2 : a.n = b.n <;> by_cases q3 : a.s.toList = b.s.toList <;> simp [q1, q2, q3]) ⟨_, rfl, Below.refl _ _, rfl⟩
              | 6, _, ho =>
                injection ho with ho; subst ho
                exact op_val _ (by simp [execOp, Act.eval, hr4, go_sem]) ⟨_, rfl, Below.refl _ _, rfl⟩
              | 7, _, ho =>
                injection ho with ho; subst ho
                obtain ⟨v6, h6, e6⟩ := hw 6 42 (by kernel_rfl)
                obtain rfl : v6 = _ := e6
                have z4 := below_cell hG c4
                exact op_val _ (by simp [execOp, Act.eval, h6, go_sem, z4]) ⟨_, rfl, Below.refl _ _, rfl⟩
              | 8, _, ho =>
                injection ho with ho; subst ho
                exact op_val _ (by simp [execOp, Act.eval, hr5, go_sem]) ⟨_, rfl, Below.refl _ _, rfl⟩
              | 9, _, ho =>
                injection ho with ho; subst ho
                obtain ⟨v8, h8, e8⟩ := hw 8 44 (by kernel_rfl)
                obtain rfl : v8 = _ := e8
                have z4 := below_cell hG d4
                exact op_val _ (by simp [execOp, Act.eval, h8, go_sem, z4]) ⟨_, rfl, Below.refl _ _, rfl⟩
              | 10, _, ho =>
                injection ho with ho; subst ho
                obtain ⟨v7, h7, e7⟩ := hw 7 43 (by kernel_rfl)
                obtain rfl : v7 = _ := e7
                obtain ⟨v9, h9, e9⟩ := hw 9 45 (by kernel_rfl)
                obtain rfl : v9 = _ := e9
                exact op_val _ (by simp [execOp, Act.eval, h7, h9, go_sem]) ⟨_, rfl, Below.refl _ _, rfl⟩
              | 11, _, ho =>
                injection ho with ho; subst ho
                exact op_val _ (by simp [execOp, Act.eval, hr4, go_sem]) ⟨_, rfl, Below.refl _ _, rfl⟩
              | 12, _, ho =>
                injection ho with ho; subst ho
                obtain ⟨v11, h11, e11⟩ := hw 11 47 (by kernel_rfl)
                obtain rfl : v11 = _ := e11
                have z4 := below_cell hG c4
                exact op_val _ (by simp [execOp, Act.eval, h11, go_sem, z4]) ⟨_, rfl, Below.refl _ _, rfl⟩
              | 13, _, ho =>
                injection ho with ho; subst ho
                exact op_val _ (by simp [execOp, Act.eval, hr5, go_sem]) ⟨_, rfl, Below.refl _ _, rfl⟩
              | 14, _, ho =>
                injection ho with ho; subst ho
                obtain ⟨v13, h13, e13⟩ := hw 13 49 (by kernel_rfl)
                obtain rfl : v13 = _ := e13
                have z4 := below_cell hG d4
                exact op_val _ (by simp [execOp, Act.eval, h13, go_sem, z4]) ⟨_, rfl, Below.refl _ _, rfl⟩
              | 15, _, ho =>
                injection ho with ho; subst ho
                obtain ⟨v12, h12, e12⟩ := hw 12 48 (by kernel_rfl)
                obtain rfl : v12 = _ := e12
                obtain ⟨v14, h14, e14⟩ := hw 14 50 (by kernel_rfl)
                obtain rfl : v14 = _ := e14
                exact op_val _ (by simp [execOp, Act.eval, h12, h14, go_sem]) ⟨_, rfl, Below.refl _ _, rfl⟩
              | 16, _, ho =>
                injection ho with ho; subst ho
                exact op_val _ (by simp [execOp, Act.eval, hr4, go_sem]) ⟨_, rfl, Below.refl _ _, rfl⟩
              | 17, _, ho =>
                injection ho with ho; subst ho
                obtain ⟨v16, h16, e16⟩ := hw 16 52 (by kernel_rfl)
                obtain rfl : v16 = _ := e16
                have z4 := below_cell hG c4
                exact op_val _ (by simp [execOp, Act.eval, h16, go_sem, z4]) ⟨_, rfl, Below.refl _ _, rfl⟩
              | 18, _, ho =>
                injection ho with ho; subst ho
                exact op_val _ (by simp [execOp, Act.eval, hr5, go_sem]) ⟨_, rfl, Below.refl _ _, rfl⟩
              | 19, _, ho =>
                injection ho with ho; subst ho
                obtain ⟨v18, h18, e18⟩ := hw 18 54 (by kernel_rfl)
                obtain rfl : v18 = _ := e18
                have z4 := below_cell hG d4
                exact op_val _ (by simp [execOp, Act.eval, h18, go_sem, z4]) ⟨_, rfl, Below.refl _ _, rfl⟩
              | 20, _, ho =>
                injection ho with ho; subst ho
                obtain ⟨v17, h17, e17⟩ := hw 17 53 (by kernel_rfl)
                obtain rfl : v17 = _ := e17
                obtain ⟨v19, h19, e19⟩ := hw 19 55 (by kernel_rfl)
                obtain rfl : v19 = _ := e19
                exact op_val _ (by simp [execOp, Act.eval, h17, h19, go_sem]) ⟨_, rfl, Below.refl _ _, rfl⟩
              | 21, _, ho =>
                injection ho with ho; subst ho
                exact op_val _ (by simp [execOp, Act.eval, hr4, go_sem]) ⟨_, rfl, Below.refl _ _, rfl⟩
              | 22, _, ho =>
                injection ho with ho; subst ho
                obtain ⟨v21, h21, e21⟩ := hw 21 57 (by kernel_rfl)
                obtain rfl : v21 = _ := e21
                have z4 := below_cell hG c4
                exact op_val _ (by simp [execOp, Act.eval, h21, go_sem, z4]) ⟨_, rfl, Below.refl _ _, rfl⟩
              | 23, _, ho =>
                injection ho with ho; subst ho
                exact op_val _ (by simp [execOp, Act.eval, hr5, go_sem]) ⟨_, rfl, Below.refl _ _, rfl⟩
              | 24, _, ho =>
                injection ho with ho; subst ho
                obtain ⟨v23, h23, e23⟩ := hw 23 59 (by kernel_rfl)
                obtain rfl : v23 = _ := e23
                have z4 := below_cell hG d4
                exact op_val _ (by simp [execOp, Act.eval, h23, go_sem, z4]) ⟨_, rfl, Below.refl _ _, rfl⟩
              | 25, _, ho =>
                injection ho with ho; subst ho
                obtain ⟨v22, h22, e22⟩ := hw 22 58 (by kernel_rfl)
                obtain rfl : v22 = _ := e22
                obtain ⟨v24, h24, e24⟩ := hw 24 60 (by kernel_rfl)
                obtain rfl : v24 = _ := e24
                exact op_val _ (by simp [execOp, Act.eval, h22, h24, go_sem]) ⟨_, rfl, Below.refl _ _, rfl⟩
              | 26, _, ho =>
                injection ho with ho; subst ho
                obtain ⟨v2, h2, e2⟩ := hw 2 38 (by kernel_rfl)
                obtain rfl : v2 = _ := e2
                obtain ⟨v5, h5, e5⟩ := hw 5 41 (by kernel_rfl)
                obtain rfl : v5 = _ := e5
                obtain ⟨v10, h10, e10⟩ := hw 10 46 (by kernel_rfl)
                obtain rfl : v10 = _ := e10
                obtain ⟨v15, h15, e15⟩ := hw 15 51 (by kernel_rfl)
                obtain rfl : v15 = _ := e15
                obtain ⟨v20, h20, e20⟩ := hw 20 56 (by kernel_rfl)
                obtain rfl : v20 = _ := e20
                obtain ⟨v25, h25, e25⟩ := hw 25 61 (by kernel_rfl)
                obtain rfl : v25 = _ := e25
                refine op_bslice 212 4 6 _ rfl 1 [.bool (decide (a = b)), .bool (!decide (a = b)), .bool (decide (a.n < b.n)), .bool (decide (a.n ≤ b.n)), .bool (decide (b.n < a.n)), .bool (decide (b.n ≤ a.n))] Tryz.underlying212 (by kernel_rfl) (by decide) rfl (by decide) (by decide) (by simp [Act.eval, h2, h5, h10, h15, h20, h25]) (fun v hv => by simp at hv; rcases hv with rfl | rfl | rfl | rfl | rfl | rfl <;> rfl) ⟨_, rfl, belowA (Below.refl _ _) _, _, rfl, ?_⟩
                exact KW W
              | 27, _, ho =>
                injection ho with ho; subst ho
                exact op_val _ (by simp [execOp, Act.eval, hr0, go_sem]) ⟨_, rfl, Below.refl _ _, rfl⟩
              | 28, _, ho =>
                injection ho with ho; subst ho
                obtain ⟨v27, h27, e27⟩ := hw 27 63 (by kernel_rfl)
                obtain rfl : v27 = _ := e27
                exact op_val _ (by simp [execOp, Act.eval, h27, go_sem, hjw]) ⟨_, rfl, Below.refl _ _, rfl⟩
              | 29, _, ho =>
                injection ho with ho; subst ho
                obtain ⟨v26, h26, e26⟩ := hw 26 62 (by kernel_rfl)
                obtain ⟨q26, rfl, kc26⟩ := e26
                obtain ⟨v28, h28, e28⟩ := hw 28 64 (by kernel_rfl)
                obtain rfl : v28 = _ := e28
                exact op_val _ (by simp [execOp, Act.eval, h26, h28, go_sem, j0, j1]) ⟨_, rfl, Below.refl _ _, _, rfl, kc26⟩
              | 30, _, ho =>
                injection ho with ho; subst ho
                obtain ⟨v29, h29, e29⟩ := hw 29 65 (by kernel_rfl)
                obtain ⟨q29, rfl, kc29⟩ := e29
                exact op_val _ (by simp [execOp, Act.eval, h29, go_sem, kc29]) ⟨_, rfl, Below.refl _ _, rfl⟩
              | 31, _, ho =>
                injection ho with ho; subst ho
                obtain ⟨v30, h30, e30⟩ := hw 30 66 (by kernel_rfl)
                obtain rfl : v30 = _ := e30
                exact op_assign (.tmp 66) (.inl rfl) _ (by simp [Act.eval, h30]) ⟨_, rfl, Below.refl _ _, rfl⟩
              | n + 32, hi, _ => omega
            · intro o2' u W ho hG hw
              have e31 := hw 31 6 (by decide) (by kernel_rfl)
              obtain ⟨hop, hds⟩ : o2'.op = .assign (.const (.int .i64 0)) ∧ o2'.dst = some 7 := by injection ho with ho; subst ho; exact ⟨rfl, rfl⟩
              clear ho
              simp only [List.foldl_cons, List.foldl_nil, Act.put, List.setIfInBounds_toArray, List.set_cons_zero, List.set_cons_succ]
              rw [show u 6 = Value.bool C from e31]
              have HBn := Lib.hid (below_next HB3.out hG)
              refine op_assign (.const (.int .i64 0)) (.inl hop) (.int .i64 0) (by simp [Act.eval]) ?_
              clear hw e31 hG
              rw [hds]
              clear hop hds
              simp only [Act.put, List.setIfInBounds_toArray, List.set_cons_zero, List.set_cons_succ]
              go_wp2_with fail
              try go_ret2
              exact HG.out _ HBn.out
          · have q1 : (a.k != 1) = false := by simp [hka]
            have q2 : (b.k != 1) = true := by simp [hkb]
            have HG := Lib.hid (HPost.out (false, 7) (by rw [HO.out, if_pos ⟨h3, .inr hkb⟩]))
            clear hka hkb HO HPost
            go_enter Tryz.func103, Tryz.ntmps103
            go_wp2_with fail
            try simp only [hwb]
            go_wp2_with fail
            refine (HA2.out _).mono ?_
            rintro e w1 ⟨rfl, hb1⟩
            obtain ⟨⟨c0, c1, c2⟩, d0, d1, d2⟩ := HF.out w1 hb1
            have HB1 := Lib.hid hb1
            clear hb1
            go_wp2_with fail
            refine (HB2.out _).mono ?_
            rintro e w2 ⟨rfl, hb2⟩
            have HB3 := Lib.hid (below_next HBA.out (below_next HB1.out hb2))
            obtain ⟨⟨c3, c4, c5⟩, d3, d4, d5⟩ := HF.out w2 (below_next HB1.out hb2)
            clear hb2 c0 c1 c2 d0 d1 d2
            go_wp2_with fail
            try go_ret2
            exact HG.out _ HB3.out
        · have q1 : (a.k != 1) = true := by simp [hka]
          have HG := Lib.hid (HPost.out (false, 7) (by rw [HO.out, if_pos ⟨h3, .inl hka⟩]))
          clear hka HO HPost
          go_enter Tryz.func103, Tryz.ntmps103
          go_wp2_with fail
          try simp only [hwb]
          go_wp2_with fail
          refine (HA2.out _).mono ?_
          rintro e w1 ⟨rfl, hb1⟩
          obtain ⟨⟨c0, c1, c2⟩, d0, d1, d2⟩ := HF.out w1 hb1
          have HB1 := Lib.hid hb1
          clear hb1
          go_wp2_with fail
          refine (HB2.out _).mono ?_
          rintro e w2 ⟨rfl, hb2⟩
          have HB3 := Lib.hid (below_next HBA.out (below_next HB1.out hb2))
          obtain ⟨⟨c3, c4, c5⟩, d3, d4, d5⟩ := HF.out w2 (below_next HB1.out hb2)
          clear hb2 c0 c1 c2 d0 d1 d2
          go_wp2_with fail
          try go_ret2
          exact HG.out _ HB3.out
      · have HO2 : Hid (holdsS op a b = (cmpS op a b, 0)) := by show _ = _; rw [HO.out, if_neg (by simp [h3])]
        obtain ⟨j, hj⟩ : ∃ j : Nat, op = (j : Int) + 1 := ⟨(op - 1).toNat, by omega⟩
        have j0 : (0 : Int) ≤ (j : Int) := by omega
        have j1 : (j : Int) < 6 := by omega
        have hjw : IntKind.i64.wrap (op - 1) = (j : Int) := by rw [IntWalk.i64_left]; unfold wrap64; omega
        have HG := Lib.hid (fun w' hb => HPost.out _ HO2.out w' hb)
        obtain ⟨C, hC⟩ : ∃ C, cmpS op a b = C := ⟨_, rfl⟩
        rw [hC] at HG
        have KW : ∀ W : World, (W.alloc (.cells #[.bool (decide (a = b)), .bool (!decide (a = b)), .bool (decide (a.n < b.n)), .bool (decide (a.n ≤ b.n)), .bool (decide (b.n < a.n)), .bool (decide (b.n ≤ a.n))] 4)).cell? ⟨W.heap.size, j, none⟩ = some (.bool C) := fun W => by
          rw [← hC]
          have hj6 : j = 0 ∨ j = 1 ∨ j = 2 ∨ j = 3 ∨ j = 4 ∨ j = 5 := by omega
          rcases hj6 with rfl | rfl | rfl | rfl | rfl | rfl
          · rw [show op = 1 by omega]; exact (cell_of_row _ _ 0 _ _ _ (heapNew rfl)).trans rfl
          · rw [show op = 2 by omega]; refine (cell_of_row _ _ 1 _ _ _ (heapNew rfl)).trans ?_; simp [cmpS]
          · rw [show op = 3 by omega]; exact (cell_of_row _ _ 2 _ _ _ (heapNew rfl)).trans rfl
          · rw [show op = 4 by omega]; exact (cell_of_row _ _ 3 _ _ _ (heapNew rfl)).trans rfl
          · rw [show op = 5 by omega]; exact (cell_of_row _ _ 4 _ _ _ (heapNew rfl)).trans rfl
          · rw [show op = 6 by omega]; exact (cell_of_row _ _ 5 _ _ _ (heapNew rfl)).trans rfl
        clear hj hC
        clear HO HO2 HPost
        go_enter Tryz.func103, Tryz.ntmps103
        go_wp2_with fail
        try simp only [hwb]
        go_wp2_with fail
        refine (HA2.out _).mono ?_
        rintro e w1 ⟨rfl, hb1⟩
        obtain ⟨⟨c0, c1, c2⟩, d0, d1, d2⟩ := HF.out w1 hb1
        have HB1 := Lib.hid hb1
        clear hb1
        go_wp2_with fail
        refine (HB2.out _).mono ?_
        rintro e w2 ⟨rfl, hb2⟩
        have HB3 := Lib.hid (below_next HBA.out (below_next HB1.out hb2))
        obtain ⟨⟨c3, c4, c5⟩, d3, d4, d5⟩ := HF.out w2 (below_next HB1.out hb2)
        clear hb2 c0 c1 c2 d0 d1 d2
        go_wp2_with fail
        refine drawn2 mixed 32 67 [36, 37, 38, 39, 40, 41, 42, 43, 44, 45, 46, 47, 48, 49, 50, 51, 52, 53, 54, 55, 56, 57, 58, 59, 60, 61, 62, 63, 64, 65, 66, 6] (fun _ W => Below w2.heap.size w2 W) (rhF op a b C j w.heap.size) (fun _ W W' => Below W.heap.size W W') (by rfl) (by kernel_rfl) (by kernel_rfl) (by rfl) ?_ ?_ ?_ ?_ ?_
        · intro j _; exact (Below.refl _ _).drew
        · intro i j v W W' _ _ _ hF hR; exact rhF_keep hF hR
        · intro i j W W' _ _ _ _ hG hR; exact below_next hG hR
        · intro i o2' a2 W hi ho hd hold hG _ hw
          have hr0 : a2.tmps[0]? = some (.int .i64 op) := hold 0 (by kernel_rfl)
          have hr4 : a2.tmps[4]? = some (.pointer (some ⟨w.heap.size, 0, none⟩)) := hold 4 (by kernel_rfl)
          have hr5 : a2.tmps[5]? = some (.pointer (some ⟨w.heap.size + 1, 0, none⟩)) := hold 5 (by kernel_rfl)
          clear hold
          match i, hi, ho with
          | 0, _, ho =>
            injection ho with ho; subst ho
            have z3 := below_cell hG c3; have z4 := below_cell hG c4; have z5 := below_cell hG c5
            exact op_val _ (by simp [execOp, Act.eval, hr4, go_sem, z3, z4, z5]) ⟨_, rfl, Below.refl _ _, rfl⟩
          | 1, _, ho =>
            injection ho with ho; subst ho
            have z3 := below_cell hG d3; have z4 := below_cell hG d4; have z5 := below_cell hG d5
            exact op_val _ (by simp [execOp, Act.eval, hr5, go_sem, z3, z4, z5]) ⟨_, rfl, Below.refl _ _, rfl⟩
          | 2, _, ho =>
            injection ho with ho; subst ho
            obtain ⟨v0, h0, e0⟩ := hw 0 36 (by kernel_rfl)
            obtain rfl : v0 = _ := e0
            obtain ⟨v1, h1, e1⟩ := hw 1 37 (by kernel_rfl)
            obtain rfl : v1 = _ := e1
            exact op_val _ (by simp [execOp, Act.eval, h0, h1, go_sem, gv_eq]; by_cases q1 : a.k = b.k <;> by_cases q2 : a.n = b.n <;> by_cases q3 : a.s.toList = b.s.toList <;> simp [q1, q2, q3]) ⟨_, rfl, Below.refl _ _, rfl⟩
          | 3, _, ho =>
            injection ho with ho; subst ho
            have z3 := below_cell hG c3; have z4 := below_cell hG c4; have z5 := below_cell hG c5
            exact op_val _ (by simp [execOp, Act.eval, hr4, go_sem, z3, z4, z5]) ⟨_, rfl, Below.refl _ _, rfl⟩
          | 4, _, ho =>
            injection ho with ho; subst ho
            have z3 := below_cell hG d3; have z4 := below_cell hG d4; have z5 := below_cell hG d5
            exact op_val _ (by simp [execOp, Act.eval, hr5, go_sem, z3, z4, z5]) ⟨_, rfl, Below.refl _ _, rfl⟩
          | 5, _, ho =>
            injection ho with ho; subst ho
            obtain ⟨v3, h3, e3⟩ := hw 3 39 (by kernel_rfl)
            obtain rfl : v3 = _ := e3
            obtain ⟨v4, h4, e4⟩ := hw 4 40 (by kernel_rfl)
            obtain rfl : v4 = _ := e4
            exact op_val _ (by simp [execOp, Act.eval, h3, h4, go_sem, gv_eq]; by_cases q1 : a.k = b.k <;> by_cases q2 : a.n = b.n <;> by_cases q3 : a.s.toList = b.s.toList <;> simp [q1, q2, q3]) ⟨_, rfl, Below.refl _ _, rfl⟩
          | 6, _, ho =>
            injection ho with ho; subst ho
            exact op_val _ (by simp [execOp, Act.eval, hr4, go_sem]) ⟨_, rfl, Below.refl _ _, rfl⟩
          | 7, _, ho =>
            injection ho with ho; subst ho
            obtain ⟨v6, h6, e6⟩ := hw 6 42 (by kernel_rfl)
            obtain rfl : v6 = _ := e6
            have z4 := below_cell hG c4
            exact op_val _ (by simp [execOp, Act.eval, h6, go_sem, z4]) ⟨_, rfl, Below.refl _ _, rfl⟩
          | 8, _, ho =>
            injection ho with ho; subst ho
            exact op_val _ (by simp [execOp, Act.eval, hr5, go_sem]) ⟨_, rfl, Below.refl _ _, rfl⟩
          | 9, _, ho =>
            injection ho with ho; subst ho
            obtain ⟨v8, h8, e8⟩ := hw 8 44 (by kernel_rfl)
            obtain rfl : v8 = _ := e8
            have z4 := below_cell hG d4
            exact op_val _ (by simp [execOp, Act.eval, h8, go_sem, z4]) ⟨_, rfl, Below.refl _ _, rfl⟩
          | 10, _, ho =>
            injection ho with ho; subst ho
            obtain ⟨v7, h7, e7⟩ := hw 7 43 (by kernel_rfl)
            obtain rfl : v7 = _ := e7
            obtain ⟨v9, h9, e9⟩ := hw 9 45 (by kernel_rfl)
            obtain rfl : v9 = _ := e9
            exact op_val _ (by simp [execOp, Act.eval, h7, h9, go_sem]) ⟨_, rfl, Below.refl _ _, rfl⟩
          | 11, _, ho =>
            injection ho with ho; subst ho
            exact op_val _ (by simp [execOp, Act.eval, hr4, go_sem]) ⟨_, rfl, Below.refl _ _, rfl⟩
          | 12, _, ho =>
            injection ho with ho; subst ho
            obtain ⟨v11, h11, e11⟩ := hw 11 47 (by kernel_rfl)
            obtain rfl : v11 = _ := e11
            have z4 := below_cell hG c4
            exact op_val _ (by simp [execOp, Act.eval, h11, go_sem, z4]) ⟨_, rfl, Below.refl _ _, rfl⟩
          | 13, _, ho =>
            injection ho with ho; subst ho
            exact op_val _ (by simp [execOp, Act.eval, hr5, go_sem]) ⟨_, rfl, Below.refl _ _, rfl⟩
          | 14, _, ho =>
            injection ho with ho; subst ho
            obtain ⟨v13, h13, e13⟩ := hw 13 49 (by kernel_rfl)
            obtain rfl : v13 = _ := e13
            have z4 := below_cell hG d4
            exact op_val _ (by simp [execOp, Act.eval, h13, go_sem, z4]) ⟨_, rfl, Below.refl _ _, rfl⟩
          | 15, _, ho =>
            injection ho with ho; subst ho
            obtain ⟨v12, h12, e12⟩ := hw 12 48 (by kernel_rfl)
            obtain rfl : v12 = _ := e12
            obtain ⟨v14, h14, e14⟩ := hw 14 50 (by kernel_rfl)
            obtain rfl : v14 = _ := e14
            exact op_val _ (by simp [execOp, Act.eval, h12, h14, go_sem]) ⟨_, rfl, Below.refl _ _, rfl⟩
          | 16, _, ho =>
            injection ho with ho; subst ho
            exact op_val _ (by simp [execOp, Act.eval, hr4, go_sem]) ⟨_, rfl, Below.refl _ _, rfl⟩
          | 17, _, ho =>
            injection ho with ho; subst ho
            obtain ⟨v16, h16, e16⟩ := hw 16 52 (by kernel_rfl)
            obtain rfl : v16 = _ := e16
            have z4 := below_cell hG c4
            exact op_val _ (by simp [execOp, Act.eval, h16, go_sem, z4]) ⟨_, rfl, Below.refl _ _, rfl⟩
          | 18, _, ho =>
            injection ho with ho; subst ho
            exact op_val _ (by simp [execOp, Act.eval, hr5, go_sem]) ⟨_, rfl, Below.refl _ _, rfl⟩
          | 19, _, ho =>
            injection ho with ho; subst ho
            obtain ⟨v18, h18, e18⟩ := hw 18 54 (by kernel_rfl)
            obtain rfl : v18 = _ := e18
            have z4 := below_cell hG d4
            exact op_val _ (by simp [execOp, Act.eval, h18, go_sem, z4]) ⟨_, rfl, Below.refl _ _, rfl⟩
          | 20, _, ho =>
            injection ho with ho; subst ho
            obtain ⟨v17, h17, e17⟩ := hw 17 53 (by kernel_rfl)
            obtain rfl : v17 = _ := e17
            obtain ⟨v19, h19, e19⟩ := hw 19 55 (by kernel_rfl)
            obtain rfl : v19 = _ := e19
            exact op_val _ (by simp [execOp, Act.eval, h17, h19, go_sem]) ⟨_, rfl, Below.refl _ _, rfl⟩
          | 21, _, ho =>
            injection ho with ho; subst ho
            exact op_val _ (by simp [execOp, Act.eval, hr4, go_sem]) ⟨_, rfl, Below.refl _ _, rfl⟩
          | 22, _, ho =>
            injection ho with ho; subst ho
            obtain ⟨v21, h21, e21⟩ := hw 21 57 (by kernel_rfl)
            obtain rfl : v21 = _ := e21
            have z4 := below_cell hG c4
            exact op_val _ (by simp [execOp, Act.eval, h21, go_sem, z4]) ⟨_, rfl, Below.refl _ _, rfl⟩
          | 23, _, ho =>
            injection ho with ho; subst ho
            exact op_val _ (by simp [execOp, Act.eval, hr5, go_sem]) ⟨_, rfl, Below.refl _ _, rfl⟩
          | 24, _, ho =>
            injection ho with ho; subst ho
            obtain ⟨v23, h23, e23⟩ := hw 23 59 (by kernel_rfl)
            obtain rfl : v23 = _ := e23
            have z4 := below_cell hG d4
            exact op_val _ (by simp [execOp, Act.eval, h23, go_sem, z4]) ⟨_, rfl, Below.refl _ _, rfl⟩
          | 25, _, ho =>
            injection ho with ho; subst ho
            obtain ⟨v22, h22, e22⟩ := hw 22 58 (by kernel_rfl)
            obtain rfl : v22 = _ := e22
            obtain ⟨v24, h24, e24⟩ := hw 24 60 (by kernel_rfl)
            obtain rfl : v24 = _ := e24
            exact op_val _ (by simp [execOp, Act.eval, h22, h24, go_sem]) ⟨_, rfl, Below.refl _ _, rfl⟩
          | 26, _, ho =>
            injection ho with ho; subst ho
            obtain ⟨v2, h2, e2⟩ := hw 2 38 (by kernel_rfl)
            obtain rfl : v2 = _ := e2
            obtain ⟨v5, h5, e5⟩ := hw 5 41 (by kernel_rfl)
            obtain rfl : v5 = _ := e5
            obtain ⟨v10, h10, e10⟩ := hw 10 46 (by kernel_rfl)
            obtain rfl : v10 = _ := e10
            obtain ⟨v15, h15, e15⟩ := hw 15 51 (by kernel_rfl)
            obtain rfl : v15 = _ := e15
            obtain ⟨v20, h20, e20⟩ := hw 20 56 (by kernel_rfl)
            obtain rfl : v20 = _ := e20
            obtain ⟨v25, h25, e25⟩ := hw 25 61 (by kernel_rfl)
            obtain rfl : v25 = _ := e25
            refine op_bslice 212 4 6 _ rfl 1 [.bool (decide (a = b)), .bool (!decide (a = b)), .bool (decide (a.n < b.n)), .bool (decide (a.n ≤ b.n)), .bool (decide (b.n < a.n)), .bool (decide (b.n ≤ a.n))] Tryz.underlying212 (by kernel_rfl) (by decide) rfl (by decide) (by decide) (by simp [Act.eval, h2, h5, h10, h15, h20, h25]) (fun v hv => by simp at hv; rcases hv with rfl | rfl | rfl | rfl | rfl | rfl <;> rfl) ⟨_, rfl, belowA (Below.refl _ _) _, _, rfl, ?_⟩
            exact KW W
          | 27, _, ho =>
            injection ho with ho; subst ho
            exact op_val _ (by simp [execOp, Act.eval, hr0, go_sem]) ⟨_, rfl, Below.refl _ _, rfl⟩
          | 28, _, ho =>
            injection ho with ho; subst ho
            obtain ⟨v27, h27, e27⟩ := hw 27 63 (by kernel_rfl)
            obtain rfl : v27 = _ := e27
            exact op_val _ (by simp [execOp, Act.eval, h27, go_sem, hjw]) ⟨_, rfl, Below.refl _ _, rfl⟩
          | 29, _, ho =>
            injection ho with ho; subst ho
            obtain ⟨v26, h26, e26⟩ := hw 26 62 (by kernel_rfl)
            obtain ⟨q26, rfl, kc26⟩ := e26
            obtain ⟨v28, h28, e28⟩ := hw 28 64 (by kernel_rfl)
            obtain rfl : v28 = _ := e28
            exact op_val _ (by simp [execOp, Act.eval, h26, h28, go_sem, j0, j1]) ⟨_, rfl, Below.refl _ _, _, rfl, kc26⟩
          | 30, _, ho =>
            injection ho with ho; subst ho
            obtain ⟨v29, h29, e29⟩ := hw 29 65 (by kernel_rfl)
            obtain ⟨q29, rfl, kc29⟩ := e29
            exact op_val _ (by simp [execOp, Act.eval, h29, go_sem, kc29]) ⟨_, rfl, Below.refl _ _, rfl⟩
          | 31, _, ho =>
            injection ho with ho; subst ho
            obtain ⟨v30, h30, e30⟩ := hw 30 66 (by kernel_rfl)
            obtain rfl : v30 = _ := e30
            exact op_assign (.tmp 66) (.inl rfl) _ (by simp [Act.eval, h30]) ⟨_, rfl, Below.refl _ _, rfl⟩
          | n + 32, hi, _ => omega
        · intro o2' u W ho hG hw
          have e31 := hw 31 6 (by decide) (by kernel_rfl)
          obtain ⟨hop, hds⟩ : o2'.op = .assign (.const (.int .i64 0)) ∧ o2'.dst = some 7 := by injection ho with ho; subst ho; exact ⟨rfl, rfl⟩
          clear ho
          simp only [List.foldl_cons, List.foldl_nil, Act.put, List.setIfInBounds_toArray, List.set_cons_zero, List.set_cons_succ]
          rw [show u 6 = Value.bool C from e31]
          have HBn := Lib.hid (below_next HB3.out hG)
          refine op_assign (.const (.int .i64 0)) (.inl hop) (.int .i64 0) (by simp [Act.eval]) ?_
          clear hw e31 hG
          rw [hds]
          clear hop hds
          simp only [Act.put, List.setIfInBounds_toArray, List.set_cons_zero, List.set_cons_succ]
          go_wp2_with fail
          try go_ret2
          exact HG.out _ HBn.out
end Go.Proofs.YtgabkmibfhmkmaaGreatDoor
