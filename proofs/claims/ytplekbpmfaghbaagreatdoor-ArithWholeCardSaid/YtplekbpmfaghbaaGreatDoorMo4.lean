/- Merged by my own program of: ArH. -/
import Derived.Test.YtplekbpmfaghbaaGreatDoorMo3
/- arith.Holds and the document's. -/
namespace Go.Proofs.YtplekbpmfaghbaaGreatDoor
open Go.RowKit

def RetBE (q : Bool × Int) (err : Int → Value) (w : World) (e : Ending) (w' : World) : Prop := e = .returned (.tuple #[.bool q.1, err q.2]) ∧ Below w.heap.size w w'
set_option maxRecDepth 100000 in
set_option maxHeartbeats 4000000 in
theorem holds_any (op : Int) (a b : GV) (w : World) : Calls Tryz.prog 47 #[.int .i64 op, a.v, b.v] w (RetBE (holdsS op a b) (errV 90) w) := by
  obtain ⟨P, HP⟩ : ∃ P : Ending → World → Prop, Hid (P = RetBE (holdsS op a b) (errV 90) w) := ⟨_, rfl⟩
  rw [← HP.out]
  have HPost : Hid (∀ q : Bool × Int, holdsS op a b = q → ∀ w', Below w.heap.size w w' → P (.returned (.tuple #[.bool q.1, errV 90 q.2])) w') := fun p hp w' hb => by rw [HP.out, hp]; exact ⟨rfl, hb⟩
  clear HP
  have hba : Below w.heap.size w ((w.alloc (.cells #[.int .i64 a.k, .int .i64 a.n, .string a.s] 31)).alloc (.cells #[.int .i64 b.k, .int .i64 b.n, .string b.s] 31)) := belowA (belowA (Below.refl _ _) _) _
  have ra : ((w.alloc (.cells #[.int .i64 a.k, .int .i64 a.n, .string a.s] 31)).alloc (.cells #[.int .i64 b.k, .int .i64 b.n, .string b.s] 31)).heap[w.heap.size]? = some (.cells #[.int .i64 a.k, .int .i64 a.n, .string a.s] 31 (0, 0)) := heapOld (heapNew rfl)
  have rb : ((w.alloc (.cells #[.int .i64 a.k, .int .i64 a.n, .string a.s] 31)).alloc (.cells #[.int .i64 b.k, .int .i64 b.n, .string b.s] 31)).heap[w.heap.size + 1]? = some (.cells #[.int .i64 b.k, .int .i64 b.n, .string b.s] 31 (0, 0)) := heapNew (by simp)
  by_cases h1 : op < 1
  · have HG := Lib.hid (HPost.out (false, 2) (by simp [holdsS, h1]))
    clear HPost ra rb
    go_enter Tryz.func47, Tryz.ntmps47
    go_wp2_with fail
    try go_ret2
    exact HG.out _ hba
  by_cases h6 : 6 < op
  · have HG := Lib.hid (HPost.out (false, 2) (by simp [holdsS, h6]))
    clear HPost ra rb
    go_enter Tryz.func47, Tryz.ntmps47
    go_wp2_with fail
    try go_ret2
    exact HG.out _ hba
  have HA := Lib.hid (fun W => right_any a W)
  have HB := Lib.hid (fun W => right_any b W)
  generalize hwb : (w.alloc (.cells #[.int .i64 a.k, .int .i64 a.n, .string a.s] 31)).alloc (.cells #[.int .i64 b.k, .int .i64 b.n, .string b.s] 31) = wb at *
  have HF : Hid (∀ W, Below wb.heap.size wb W → (W.cell? ⟨w.heap.size, 0, none⟩ = some (.int .i64 a.k) ∧ W.cell? ⟨w.heap.size, 1, none⟩ = some (.int .i64 a.n) ∧ W.cell? ⟨w.heap.size, 2, none⟩ = some (.string a.s)) ∧ (W.cell? ⟨w.heap.size + 1, 0, none⟩ = some (.int .i64 b.k) ∧ W.cell? ⟨w.heap.size + 1, 1, none⟩ = some (.int .i64 b.n) ∧ W.cell? ⟨w.heap.size + 1, 2, none⟩ = some (.string b.s))) :=
    fun W h => ⟨facts3 ((h.block _ (Array.getElem?_eq_some_iff.1 ra).1).trans ra), facts3 ((h.block _ (Array.getElem?_eq_some_iff.1 rb).1).trans rb)⟩
  obtain ⟨⟨a0, a1, a2⟩, b0, b1, b2⟩ := HF.out wb (Below.refl _ _)
  clear ra rb
  have HBA := Lib.hid hba
  clear hba
  cases hra : rightB a with
  | false =>
    have HG := Lib.hid (HPost.out (false, 2) (by simp [holdsS, hra]))
    have HA2 := Lib.hid (hra ▸ HA.out)
    clear HPost HA HB hra
    go_enter Tryz.func47, Tryz.ntmps47
    go_wp2_with fail
    try simp only [hwb]
    go_wp2_with fail
    refine (HA2.out _).mono ?_
    rintro e w1 ⟨rfl, hb1⟩
    have HB1 := Lib.hid (below_next HBA.out hb1)
    clear hb1
    go_wp2_with fail
    try go_ret2
    exact HG.out _ HB1.out
  | true =>
    have HA2 := Lib.hid (hra ▸ HA.out)
    clear HA
    cases hrb : rightB b with
    | false =>
      have HG := Lib.hid (HPost.out (false, 2) (by simp [holdsS, hrb]))
      have HB2 := Lib.hid (hrb ▸ HB.out)
      clear HPost HB hra hrb
      go_enter Tryz.func47, Tryz.ntmps47
      go_wp2_with fail
      try simp only [hwb]
      go_wp2_with fail
      refine (HA2.out _).mono ?_
      rintro e w1 ⟨rfl, hb1⟩
      obtain ⟨⟨c0, c1, c2⟩, d0, d1, d2⟩ := HF.out w1 hb1
      have HB1 := Lib.hid hb1
      clear hb1
      go_wp2_with fail
      refine (HB2.out _).mono ?_
      rintro e w2 ⟨rfl, hb2⟩
      have HB3 := Lib.hid (below_next HBA.out (below_next HB1.out hb2))
      clear hb2
      go_wp2_with fail
      try go_ret2
      exact HG.out _ HB3.out
    | true =>
      have HB2 := Lib.hid (hrb ▸ HB.out)
      clear HB
      have HO : Hid (holdsS op a b = if 3 ≤ op ∧ (a.k ≠ 1 ∨ b.k ≠ 1) then (false, 7) else (cmpS op a b, 0)) := by show _ = _; simp [holdsS, h1, h6, hra, hrb]
      clear hra hrb
      have tail : ∀ (w2 : World) (a' : Act), True := fun _ _ => trivial
      by_cases h3 : 3 ≤ op
      · by_cases hka : a.k = 1
        · by_cases hkb : b.k = 1
          · have q1 : (a.k != 1) = false := by simp [hka]
            have q2 : (b.k != 1) = false := by simp [hkb]
            have HO2 : Hid (holdsS op a b = (cmpS op a b, 0)) := by show _ = _; rw [HO.out, if_neg (by simp [hka, hkb])]
            have ho : op = 3 ∨ op = 4 ∨ op = 5 ∨ op = 6 := by omega
            clear hka hkb HO
            rcases ho with rfl | rfl | rfl | rfl
            all_goals
              have HG := Lib.hid (fun w' hb => HPost.out _ HO2.out w' hb)
              clear HPost HO2
              go_enter Tryz.func47, Tryz.ntmps47
              go_wp2_with fail
              try simp only [hwb]
              go_wp2_with fail
              refine (HA2.out _).mono ?_
              rintro e w1 ⟨rfl, hb1⟩
              obtain ⟨⟨c0, c1, c2⟩, d0, d1, d2⟩ := HF.out w1 hb1
              have HB1 := Lib.hid hb1
              clear hb1
              go_wp2_with fail
              refine (HB2.out _).mono ?_
              rintro e w2 ⟨rfl, hb2⟩
              have HB3 := Lib.hid (below_next HBA.out (below_next HB1.out hb2))
              obtain ⟨⟨c3, c4, c5⟩, d3, d4, d5⟩ := HF.out w2 (below_next HB1.out hb2)
              clear hb2 c0 c1 c2 d0 d1 d2
              go_wp2_with fail
              try go_ret2
              exact HG.out _ HB3.out
          · have q1 : (a.k != 1) = false := by simp [hka]
            have q2 : (b.k != 1) = true := by simp [hkb]
            have HG := Lib.hid (HPost.out (false, 7) (by rw [HO.out, if_pos ⟨h3, .inr hkb⟩]))
            clear hka hkb HO HPost
            go_enter Tryz.func47, Tryz.ntmps47
            go_wp2_with fail
            try simp only [hwb]
            go_wp2_with fail
            refine (HA2.out _).mono ?_
            rintro e w1 ⟨rfl, hb1⟩
            obtain ⟨⟨c0, c1, c2⟩, d0, d1, d2⟩ := HF.out w1 hb1
            have HB1 := Lib.hid hb1
            clear hb1
            go_wp2_with fail
            refine (HB2.out _).mono ?_
            rintro e w2 ⟨rfl, hb2⟩
            have HB3 := Lib.hid (below_next HBA.out (below_next HB1.out hb2))
            obtain ⟨⟨c3, c4, c5⟩, d3, d4, d5⟩ := HF.out w2 (below_next HB1.out hb2)
            clear hb2 c0 c1 c2 d0 d1 d2
            go_wp2_with fail
            try go_ret2
            exact HG.out _ HB3.out
        · have q1 : (a.k != 1) = true := by simp [hka]
          have HG := Lib.hid (HPost.out (false, 7) (by rw [HO.out, if_pos ⟨h3, .inl hka⟩]))
          clear hka HO HPost
          go_enter Tryz.func47, Tryz.ntmps47
          go_wp2_with fail
          try simp only [hwb]
          go_wp2_with fail
          refine (HA2.out _).mono ?_
          rintro e w1 ⟨rfl, hb1⟩
          obtain ⟨⟨c0, c1, c2⟩, d0, d1, d2⟩ := HF.out w1 hb1
          have HB1 := Lib.hid hb1
          clear hb1
          go_wp2_with fail
          refine (HB2.out _).mono ?_
          rintro e w2 ⟨rfl, hb2⟩
          have HB3 := Lib.hid (below_next HBA.out (below_next HB1.out hb2))
          obtain ⟨⟨c3, c4, c5⟩, d3, d4, d5⟩ := HF.out w2 (below_next HB1.out hb2)
          clear hb2 c0 c1 c2 d0 d1 d2
          go_wp2_with fail
          try go_ret2
          exact HG.out _ HB3.out
      · have HO2 : Hid (holdsS op a b = (cmpS op a b, 0)) := by show _ = _; rw [HO.out, if_neg (by simp [h3])]
        have rn := fun W => run_neq_value a b W
        have rq := fun W => run_eql_value a b W
        have hbq : a.beq b = decide (a = b) := GV.beq_dec a b
        rw [hbq] at rn rq
        have ho : op = 1 ∨ op = 2 := by omega
        clear HO hbq
        rcases ho with rfl | rfl
        all_goals
          have HG := Lib.hid (fun w' hb => HPost.out _ HO2.out w' hb)
          clear HPost HO2
          go_enter Tryz.func47, Tryz.ntmps47
          go_wp2_with fail
          try simp only [hwb]
          go_wp2_with fail
          refine (HA2.out _).mono ?_
          rintro e w1 ⟨rfl, hb1⟩
          obtain ⟨⟨c0, c1, c2⟩, d0, d1, d2⟩ := HF.out w1 hb1
          have HB1 := Lib.hid hb1
          clear hb1
          go_wp2_with fail
          refine (HB2.out _).mono ?_
          rintro e w2 ⟨rfl, hb2⟩
          have HB3 := Lib.hid (below_next HBA.out (below_next HB1.out hb2))
          obtain ⟨⟨c3, c4, c5⟩, d3, d4, d5⟩ := HF.out w2 (below_next HB1.out hb2)
          clear hb2 c0 c1 c2 d0 d1 d2
          go_wp2_with fail
          try go_ret2
          refine cast ?_ (HG.out _ HB3.out)
          simp [cmpS, errV]
end Go.Proofs.YtplekbpmfaghbaaGreatDoor
