/- ArithSwaps: the walk. -/
import Derived.Test.YtplekbpmfaghbaaDoorArSw1
namespace Go.Proofs.YtplekbpmfaghbaaDoor
open Go.RowKit

abbrev vRow (x : GV) : Array Value := #[.int .i64 x.k, .int .i64 x.n, .string x.s]
/-- a box that holds a value -/
def BoxV (w : World) (x : GV) (v : Value) (W : World) : Prop :=
  ∃ g, v = .pointer (some ⟨g, 0, none⟩) ∧ W.heap[g]? = some (.cells (vRow x) 25 (0, 0)) ∧ Below w.heap.size w W
theorem BoxV.below {w W W' : World} {x : GV} {v : Value} (h : BoxV w x v W) (hb : Below W.heap.size W W') : BoxV w x v W' := by
  obtain ⟨g, h1, h2, h3⟩ := h
  exact ⟨g, h1, (hb.block g (Array.getElem?_eq_some_iff.1 h2).1).trans h2, below_next h3 hb⟩
theorem env_none (W : World) : EnvIs W (.map none) (fun _ => none) := ⟨[], .inl ⟨rfl, rfl⟩, by simp, fun _ => rfl⟩
theorem nV_ok {n : Int} (h : bndI n = true) : (nV n).ok := by
  obtain ⟨h1, h2⟩ := bnd_iff.1 h
  exact ⟨by show fits 1; unfold fits; decide, fits_of (show _ ≤ n by omega) (show n ≤ _ by omega), Nat.zero_le _⟩

set_option maxRecDepth 100000 in
set_option maxHeartbeats 8000000 in
theorem arithSwaps_in (a b : Int) (ha : bndI a = true) (hb : bndI b = true) (w : World) (hW : ParW w) : Calls Tryd.prog 3 #[.int .i64 a, .int .i64 b] w (RetBool true w) := by
  have mixed : Tryd.prog.follows .mixedOrders = true := by kernel_rfl
  have HAl := Lib.hid (alive13_any w hW)
  have HA : Hid (∀ W, Calls Tryd.prog 5 #[.int .i64 a] W (fun e W' => e = .returned (.tuple #[.agg (vRow (nV a)), .nilIface]) ∧ Below W.heap.size W W')) := fun W => by
    have h := ofw_any a W
    rw [ofW_in ha] at h
    exact h
  have HBb : Hid (∀ W, Calls Tryd.prog 5 #[.int .i64 b] W (fun e W' => e = .returned (.tuple #[.agg (vRow (nV b)), .nilIface]) ∧ Below W.heap.size W W')) := fun W => by
    have h := ofw_any b W
    rw [ofW_in hb] at h
    exact h
  have Hab := Lib.hid (And.intro ha hb)
  have HW := Lib.hid hW
  clear ha hb hW
  go_enter Tryd.func3, Tryd.ntmps3
  go_wp2_with fail
  refine HAl.out.mono ?_
  rintro e w1 ⟨rfl, hb1⟩
  have HB1 := Lib.hid hb1
  clear hb1 HAl
  go_wp2_with fail
  refine (HA.out _).mono ?_
  rintro e w2 ⟨rfl, hq2⟩
  have HB2 := Lib.hid (below_next HB1.out hq2)
  have hx2 : (w2.alloc (.cells (vRow (nV a)) 25)).heap[w2.heap.size]? = some (.cells (vRow (nV a)) 25 (0, 0)) := heapNew rfl
  have HB3 := Lib.hid (belowA HB2.out (.cells (vRow (nV a)) 25))
  have HX := Lib.hid hx2
  clear hq2 hx2 HA
  generalize hw3 : w2.alloc (.cells (vRow (nV a)) 25) = w3 at *
  go_wp2_with fail
  try simp only [hw3]
  clear hw3
  refine (HBb.out _).mono ?_
  rintro e w4 ⟨rfl, hq4⟩
  have HB4 := Lib.hid (belowA (below_next HB3.out hq4) (.cells (vRow (nV b)) 25))
  have hx4 : (w4.alloc (.cells (vRow (nV b)) 25)).heap[w2.heap.size]? = some (.cells (vRow (nV a)) 25 (0, 0)) := heapOld ((hq4.block _ (Array.getElem?_eq_some_iff.1 HX.out).1).trans HX.out)
  have hy4 : (w4.alloc (.cells (vRow (nV b)) 25)).heap[w4.heap.size]? = some (.cells (vRow (nV b)) 25 (0, 0)) := heapNew rfl
  have HXY := Lib.hid (And.intro hx4 hy4)
  clear hq4 hx4 hy4 HX HBb HB3 HB2
  generalize hw5 : w4.alloc (.cells (vRow (nV b)) 25) = w5 at *
  go_wp2_with fail
  try simp only [hw5]
  clear hw5
  have hs6 : (w5.alloc (.cells #[.int .i64 1, .int .i64 3] 3)).heap[w5.heap.size]? = some (.cells #[.int .i64 1, .int .i64 3] 3 (0, 0)) := heapNew rfl
  have HS : Hid (∀ W, Below (w5.alloc (.cells #[.int .i64 1, .int .i64 3] 3)).heap.size (w5.alloc (.cells #[.int .i64 1, .int .i64 3] 3)) W → W.heap[w2.heap.size]? = some (.cells (vRow (nV a)) 25 (0, 0)) ∧ W.heap[w4.heap.size]? = some (.cells (vRow (nV b)) 25 (0, 0)) ∧ W.heap[w5.heap.size]? = some (.cells #[.int .i64 1, .int .i64 3] 3 (0, 0))) := fun W h =>
    ⟨(h.block _ (Array.getElem?_eq_some_iff.1 (heapOld HXY.out.1)).1).trans (heapOld HXY.out.1), (h.block _ (Array.getElem?_eq_some_iff.1 (heapOld HXY.out.2)).1).trans (heapOld HXY.out.2), (h.block _ (Array.getElem?_eq_some_iff.1 hs6).1).trans hs6⟩
  have HB6 := Lib.hid (belowA HB4.out (.cells #[.int .i64 1, .int .i64 3] 3))
  clear hs6 HXY HB4
  generalize hw6 : w5.alloc (.cells #[.int .i64 1, .int .i64 3] 3) = w6 at *
  try simp only [hw6]
  clear hw6
  go_loopw [41, 11, 12, 13, 14, 15] (fun i _ _ _ _ _ wr => ∃ k : Nat, k ≤ 2 ∧ i = .int .i64 k ∧ Below w6.heap.size w6 wr) (fun i _ _ _ _ _ _ => 2 - (intOf i).toNat)
  case atStart => exact ⟨0, by omega, rfl, Below.refl _ _⟩
  case round =>
    obtain ⟨k, hk, rfl, hbw⟩ := hrel
    by_cases hlt : k < 2
    · have i1 : (k : Int) < 2 := by omega
      obtain ⟨hx, hy, hs⟩ := HS.out wr hbw
      obtain ⟨op, hop, co⟩ : ∃ op : Int, Hid (op = 1 ∨ op = 3) ∧ wr.cell? ⟨w5.heap.size, k, none⟩ = some (.int .i64 op) := by
        rcases (by omega : k = 0 ∨ k = 1) with rfl | rfl
        · exact ⟨1, .inl rfl, (cell_of_row _ _ 0 _ _ _ hs).trans rfl⟩
        · exact ⟨3, .inr rfl, (cell_of_row _ _ 1 _ _ _ hs).trans rfl⟩
      obtain ⟨v, er, her, HV1, HV2⟩ : ∃ (v : GV) (er : Int), Hid (er = 0 ∨ er = 10) ∧ Hid (∀ W g, SliceIs (Enc.exp 1) W W.heap.size (some ⟨g, 0, none⟩) 2 2 [leafE (nV a), leafE (nV b)] → Below w.heap.size w W → Calls Tryd.prog 7 #[expV (twoE op (nV a) (nV b)) (some ⟨g, 0, none⟩) 2 2, .map none] W (fun e W' => e = .returned (.tuple #[.agg (vRow v), errV 40 er]) ∧ Below W.heap.size W W')) ∧
          Hid (∀ W g, SliceIs (Enc.exp 1) W W.heap.size (some ⟨g, 0, none⟩) 2 2 [leafE (nV b), leafE (nV a)] → Below w.heap.size w W → Calls Tryd.prog 7 #[expV (twoE op (nV b) (nV a)) (some ⟨g, 0, none⟩) 2 2, .map none] W (fun e W' => e = .returned (.tuple #[.agg (vRow v), errV 40 er]) ∧ Below W.heap.size W W')) := by
        have h1 : 1 ≤ op := by rcases hop.out with h | h <;> omega
        have h3 : op ≤ 3 := by rcases hop.out with h | h <;> omega
        refine ⟨(ofW (opN op a b)).1, (ofW (opN op a b)).2, ?_, ?_, ?_⟩
        · show _ ∨ _
          cases hn : bndI (opN op a b) with
          | true => exact .inl (by rw [ofW_in hn])
          | false => exact .inr (by rw [ofW_out hn])
        · intro W g hs hb
          have h := evalTop_any (twoE op (nV a) (nV b)) (some ⟨g, 0, none⟩) 2 2 1 (.map none) (fun _ => none) W hs (Nat.zero_le _) (env_none _) (HW.out.lex.on hb)
          rw [twoE_val h1 h3 Hab.out.1 Hab.out.2] at h
          exact h
        · intro W g hs hb
          have h := evalTop_any (twoE op (nV b) (nV a)) (some ⟨g, 0, none⟩) 2 2 1 (.map none) (fun _ => none) W hs (Nat.zero_le _) (env_none _) (HW.out.lex.on hb)
          rw [twoE_val h1 h3 Hab.out.2 Hab.out.1, swap_op hop.out] at h
          exact h
      obtain ⟨x0, x1, x2⟩ := facts3 hx
      obtain ⟨y0, y1, y2⟩ := facts3 hy
      have Hbw := Lib.hid hbw
      have Hk := Lib.hid hk
      clear hx hy hs hbw
      go_wp2_with fail
      refine (two_any op (nV a) (nV b) (nV_ok Hab.out.1) (nV_ok Hab.out.2) wr).mono ?_
      rintro e w7 ⟨g7, rfl, hs7, hq7⟩
      have Hb7 := Lib.hid (below_next Hbw.out hq7)
      have HS7 := Lib.hid hs7
      clear hq7 hs7 x0 x1 x2 y0 y1 y2
      go_wp2_with fail
      refine (HV1.out w7 g7 HS7.out (below_next HB6.out Hb7.out)).mono ?_
      rintro e w8 ⟨rfl, hq8⟩
      have Hb8 := Lib.hid (belowA (below_next Hb7.out hq8) (.cells (vRow v) 25))
      have hv8 : (w8.alloc (.cells (vRow v) 25)).heap[w8.heap.size]? = some (.cells (vRow v) 25 (0, 0)) := heapNew rfl
      have HV8 := Lib.hid hv8
      clear hq8 hv8 HV1 HS7
      generalize hw9 : w8.alloc (.cells (vRow v) 25) = w9 at *
      obtain ⟨hx, hy, hs⟩ := HS.out w9 Hb8.out
      obtain ⟨x0, x1, x2⟩ := facts3 hx
      obtain ⟨y0, y1, y2⟩ := facts3 hy
      clear hx hy hs
      go_wp2_with fail
      try simp only [hw9]
      clear hw9
      refine (two_any op (nV b) (nV a) (nV_ok Hab.out.2) (nV_ok Hab.out.1) w9).mono ?_
      rintro e w10 ⟨g10, rfl, hs10, hq10⟩
      have Hb10 := Lib.hid (below_next Hb8.out hq10)
      have HS10 := Lib.hid hs10
      have hv10 := (hq10.block _ (Array.getElem?_eq_some_iff.1 HV8.out).1).trans HV8.out
      have HV10 := Lib.hid hv10
      clear hq10 hs10 hv10 HV8 x0 x1 x2 y0 y1 y2
      go_wp2_with fail
      refine (HV2.out w10 g10 HS10.out (below_next HB6.out Hb10.out)).mono ?_
      rintro e w11 ⟨rfl, hq11⟩
      have Hb12 := Lib.hid (belowA (below_next Hb10.out hq11) (.cells (vRow v) 25))
      have hv12 : (w11.alloc (.cells (vRow v) 25)).heap[w8.heap.size]? = some (.cells (vRow v) 25 (0, 0)) := heapOld ((hq11.block _ (Array.getElem?_eq_some_iff.1 HV10.out).1).trans HV10.out)
      have hu12 : (w11.alloc (.cells (vRow v) 25)).heap[w11.heap.size]? = some (.cells (vRow v) 25 (0, 0)) := heapNew rfl
      clear hq11 HV10 HV2 HS10
      generalize hw12 : w11.alloc (.cells (vRow v) 25) = w12 at *
      obtain ⟨x0, x1, x2⟩ := facts3 hv12
      obtain ⟨y0, y1, y2⟩ := facts3 hu12
      clear hv12 hu12
      have rn := run_neq_value v v
      rw [GV.beq_self] at rn
      have ev0 : errV 40 0 = .nilIface := rfl
      have ev10 : errV 40 10 = .iface 40 (.int .i64 10) := rfl
      rcases her.out with rfl | rfl
      · have HN := Lib.hid (fun W => num_any 0 W)
        rw [ev0] at HN
        rw [ev0]
        clear ev0 ev10 her
        go_wp2_with fail
        try simp only [hw12]
        clear hw12
        go_wp2_with fail
        refine (HN.out _).mono ?_
        rintro e w13 ⟨rfl, hq13⟩
        have Hb13 := Lib.hid (below_next Hb12.out hq13)
        clear hq13
        go_wp2_with fail
        refine (HN.out _).mono ?_
        rintro e w14 ⟨rfl, hq14⟩
        have Hb14 := Lib.hid (below_next Hb13.out hq14)
        clear hq14 x0 x1 x2 y0 y1 y2
        go_wp2_with fail
        go_roundw
        case rel => exact ⟨k + 1, by omega, by go_num, Hb14.out⟩
        case measure => simp [intOf]; omega
      · have HN := Lib.hid (fun W => num_any 10 W)
        have HI := Lib.hid (fun W => is_any 10 10 W)
        rw [ev10] at HN HI
        rw [ev10]
        clear ev0 ev10 her
        go_wp2_with fail
        try simp only [hw12]
        clear hw12
        go_wp2_with fail
        refine (HN.out _).mono ?_
        rintro e w13 ⟨rfl, hq13⟩
        have Hb13 := Lib.hid (below_next Hb12.out hq13)
        clear hq13
        go_wp2_with fail
        refine (HN.out _).mono ?_
        rintro e w14 ⟨rfl, hq14⟩
        have Hb14 := Lib.hid (below_next Hb13.out hq14)
        clear hq14 x0 x1 x2 y0 y1 y2
        go_wp2_with fail
        refine (HI.out _).mono ?_
        rintro e w15 ⟨rfl, hq15⟩
        have Hb15 := Lib.hid (below_next Hb14.out hq15)
        clear hq15
        go_wp2_with fail
        go_roundw
        case rel => exact ⟨k + 1, by omega, by go_num, Hb15.out⟩
        case measure => simp [intOf]; omega
    · have i1 : ¬ (k : Int) < 2 := by omega
      obtain ⟨W5, hW5⟩ : ∃ W, W = wr := ⟨_, rfl⟩
      subst hW5
      obtain ⟨hx, hy, -⟩ := HS.out W5 hbw
      obtain ⟨x0, x1, x2⟩ := facts3 hx
      obtain ⟨y0, y1, y2⟩ := facts3 hy
      have Hbw := Lib.hid hbw
      clear hx hy hbw hk
      go_wp2_with fail
      have HL3 : Hid (∀ W, Calls Tryd.prog 10 #[.int .i64 3, .agg (vRow (nV a)), .agg (vRow (nV b))] W (fun e W' => e = .returned (.tuple #[.bool (decide (a < b)), .nilIface]) ∧ Below W.heap.size W W')) := fun W => by
        have h := holds_any 3 (nV a) (nV b) W
        rw [holds_less Hab.out.1 Hab.out.2] at h
        exact h
      have HL6 : Hid (∀ W, Calls Tryd.prog 10 #[.int .i64 6, .agg (vRow (nV a)), .agg (vRow (nV b))] W (fun e W' => e = .returned (.tuple #[.bool (decide (b ≤ a)), .nilIface]) ∧ Below W.heap.size W W')) := fun W => by
        have h := holds_any 6 (nV a) (nV b) W
        rw [holds_least Hab.out.1 Hab.out.2] at h
        exact h
      refine (two_any 1 (nV a) (nV b) (nV_ok Hab.out.1) (nV_ok Hab.out.2) W5).mono ?_
      rintro e w7 ⟨g7, rfl, hs7, hq7⟩
      have Hb7 := Lib.hid (below_next Hbw.out hq7)
      have HS7 := Lib.hid hs7
      have HE := Lib.hid (evalTop_any (twoE 1 (nV a) (nV b)) (some ⟨g7, 0, none⟩) 2 2 1 (.map none) (fun _ => none) w7 hs7 (Nat.zero_le _) (env_none _) (HW.out.lex.on (below_next HB6.out Hb7.out)))
      rw [twoE_val (by decide) (by decide) Hab.out.1 Hab.out.2, show opN 1 a b = a + b from rfl] at HE
      clear hq7 hs7 x0 x1 x2 y0 y1 y2
      cases hn : bndI (a + b) with
      | true =>
        rw [ofW_in hn] at HE
        have Hn := Lib.hid hn
        clear hn
        go_wp2_with fail
        refine HE.out.mono ?_
        rintro e w8 ⟨rfl, hq8⟩
        have ev0 : errV 40 0 = .nilIface := rfl
        dsimp only
        rw [ev0]
        have Hb8 := Lib.hid (belowA (below_next Hb7.out hq8) (.cells (vRow (nV (a + b))) 25))
        have hv8 : (w8.alloc (.cells (vRow (nV (a + b))) 25)).heap[w8.heap.size]? = some (.cells (vRow (nV (a + b))) 25 (0, 0)) := heapNew rfl
        clear hq8 HE HS7 ev0
        generalize hw9 : w8.alloc (.cells (vRow (nV (a + b))) 25) = w9 at *
        obtain ⟨hx, hy, -⟩ := HS.out w9 Hb8.out
        obtain ⟨x0, x1, x2⟩ := facts3 hv8
        obtain ⟨y0, y1, y2⟩ := facts3 hy
        clear hx hy hv8
        go_wp2_with fail
        try simp only [hw9]
        clear hw9
        go_wp2_with fail
        refine (two_any 2 (nV (a + b)) (nV b) (nV_ok Hn.out) (nV_ok Hab.out.2) w9).mono ?_
        rintro e w10 ⟨g10, rfl, hs10, hq10⟩
        have Hb10 := Lib.hid (below_next Hb8.out hq10)
        have HE := Lib.hid (evalTop_any (twoE 2 (nV (a + b)) (nV b)) (some ⟨g10, 0, none⟩) 2 2 1 (.map none) (fun _ => none) w10 hs10 (Nat.zero_le _) (env_none _) (HW.out.lex.on (below_next HB6.out Hb10.out)))
        rw [twoE_val (by decide) (by decide) Hn.out Hab.out.2, show opN 2 (a + b) b = a + b - b from rfl, show a + b - b = a by omega, ofW_in Hab.out.1] at HE
        clear hq10 hs10 x0 x1 x2 y0 y1 y2
        go_wp2_with fail
        refine HE.out.mono ?_
        rintro e w11 ⟨rfl, hq11⟩
        have ev0 : errV 40 0 = .nilIface := rfl
        dsimp only
        rw [ev0]
        have Hb12 := Lib.hid (belowA (below_next Hb10.out hq11) (.cells (vRow (nV a)) 25))
        have hv12 : (w11.alloc (.cells (vRow (nV a)) 25)).heap[w11.heap.size]? = some (.cells (vRow (nV a)) 25 (0, 0)) := heapNew rfl
        clear hq11 HE ev0
        generalize hw12 : w11.alloc (.cells (vRow (nV a)) 25) = w12 at *
        obtain ⟨hx, hy, -⟩ := HS.out w12 Hb12.out
        obtain ⟨v0, v1, v2⟩ := facts3 hv12
        obtain ⟨x0, x1, x2⟩ := facts3 hx
        obtain ⟨y0, y1, y2⟩ := facts3 hy
        clear hx hy hv12
        have rn := run_neq_value (nV a) (nV a)
        rw [GV.beq_self] at rn
        go_wp2_with fail
        try simp only [hw12]
        clear hw12
        go_wp2_with fail
        refine (HL3.out _).mono ?_
        rintro e wA ⟨rfl, hqA⟩
        have HbA := Lib.hid (below_next Hb12.out hqA)
        clear hqA x0 x1 x2 y0 y1 y2
        obtain ⟨hx, hy, -⟩ := HS.out wA HbA.out
        obtain ⟨x0, x1, x2⟩ := facts3 hx
        obtain ⟨y0, y1, y2⟩ := facts3 hy
        clear hx hy
        go_wp2_with fail
        refine (HL6.out _).mono ?_
        rintro e wB ⟨rfl, hqB⟩
        have HbB := Lib.hid (below_next HbA.out hqB)
        clear hqB x0 x1 x2 y0 y1 y2
        by_cases hab : a < b
        · have d3 : decide (a < b) = true := by simp [hab]
          have d6 : decide (b ≤ a) = false := by simp; omega
          rw [d3, d6]
          clear d3 d6
          go_wp2_with fail
          go_ret
          exact ⟨rfl, below_next HB6.out HbB.out⟩
        · have d3 : decide (a < b) = false := by simp; omega
          have d6 : decide (b ≤ a) = true := by simp; omega
          rw [d3, d6]
          clear d3 d6
          go_wp2_with fail
          go_ret
          have d7 : (!decide (a < b)) = true := by simp; omega
          exact ⟨congrArg (fun q => Ending.returned (Value.bool q)) d7, below_next HB6.out HbB.out⟩
      | false =>
        rw [ofW_out hn] at HE
        clear hn
        go_wp2_with fail
        refine HE.out.mono ?_
        rintro e w8 ⟨rfl, hq8⟩
        have ev10 : errV 40 10 = .iface 40 (.int .i64 10) := rfl
        dsimp only
        rw [ev10]
        have Hb8 := Lib.hid (belowA (below_next Hb7.out hq8) (.cells (vRow gv0) 25))
        clear hq8 HE HS7 ev10
        generalize hw9 : w8.alloc (.cells (vRow gv0) 25) = w9 at *
        obtain ⟨hx, hy, -⟩ := HS.out w9 Hb8.out
        obtain ⟨x0, x1, x2⟩ := facts3 hx
        obtain ⟨y0, y1, y2⟩ := facts3 hy
        clear hx hy
        go_wp2_with fail
        try simp only [hw9]
        clear hw9
        go_wp2_with fail
        refine (HL3.out _).mono ?_
        rintro e wA ⟨rfl, hqA⟩
        have HbA := Lib.hid (below_next Hb8.out hqA)
        clear hqA x0 x1 x2 y0 y1 y2
        obtain ⟨hx, hy, -⟩ := HS.out wA HbA.out
        obtain ⟨x0, x1, x2⟩ := facts3 hx
        obtain ⟨y0, y1, y2⟩ := facts3 hy
        clear hx hy
        go_wp2_with fail
        refine (HL6.out _).mono ?_
        rintro e wB ⟨rfl, hqB⟩
        have HbB := Lib.hid (below_next HbA.out hqB)
        clear hqB x0 x1 x2 y0 y1 y2
        by_cases hab : a < b
        · have d3 : decide (a < b) = true := by simp [hab]
          have d6 : decide (b ≤ a) = false := by simp; omega
          rw [d3, d6]
          clear d3 d6
          go_wp2_with fail
          go_ret
          exact ⟨rfl, below_next HB6.out HbB.out⟩
        · have d3 : decide (a < b) = false := by simp; omega
          have d6 : decide (b ≤ a) = true := by simp; omega
          rw [d3, d6]
          clear d3 d6
          go_wp2_with fail
          go_ret
          have d7 : (!decide (a < b)) = true := by simp; omega
          exact ⟨congrArg (fun q => Ending.returned (Value.bool q)) d7, below_next HB6.out HbB.out⟩
set_option maxRecDepth 100000 in
set_option maxHeartbeats 4000000 in
theorem arithSwaps_outA (a b : Int) (ha : bndI a = false) (w : World) (hW : ParW w) : Calls Tryd.prog 3 #[.int .i64 a, .int .i64 b] w (RetBool true w) := by
  have HAl := Lib.hid (alive13_any w hW)
  have HA : Hid (∀ W, Calls Tryd.prog 5 #[.int .i64 a] W (fun e W' => e = .returned (.tuple #[.agg (vRow gv0), .iface 40 (.int .i64 10)]) ∧ Below W.heap.size W W')) := fun W => by
    have h := ofw_any a W
    rw [ofW_out ha] at h
    exact h
  have HBb := Lib.hid (fun W => ofw_any b W)
  unfold TermErr at HBb
  generalize ofW b = q at HBb
  obtain ⟨qv, qe⟩ := q
  dsimp only at HBb
  clear ha hW
  go_enter Tryd.func3, Tryd.ntmps3
  go_wp2_with fail
  refine HAl.out.mono ?_
  rintro e w1 ⟨rfl, hb1⟩
  have HB1 := Lib.hid hb1
  clear hb1 HAl
  go_wp2_with fail
  refine (HA.out _).mono ?_
  rintro e w2 ⟨rfl, hq2⟩
  have HB3 := Lib.hid (belowA (below_next HB1.out hq2) (.cells (vRow gv0) 25))
  clear hq2 HA
  generalize hw3 : w2.alloc (.cells (vRow gv0) 25) = w3 at *
  go_wp2_with fail
  try simp only [hw3]
  clear hw3
  refine (HBb.out _).mono ?_
  rintro e w4 ⟨rfl, hq4⟩
  have HB4 := Lib.hid (belowA (below_next HB3.out hq4) (.cells (vRow qv) 25))
  clear hq4 HBb
  generalize hw5 : w4.alloc (.cells (vRow qv) 25) = w5 at *
  go_wp2_with fail
  go_ret
  first
    | exact ⟨rfl, HB4.out⟩
    | (simp only [hw5]; exact ⟨rfl, HB4.out⟩)
    | (rw [← hw5] at HB4; exact ⟨rfl, HB4.out⟩)
set_option maxRecDepth 100000 in
set_option maxHeartbeats 4000000 in
theorem arithSwaps_outB (a b : Int) (ha : bndI a = true) (hb : bndI b = false) (w : World) (hW : ParW w) : Calls Tryd.prog 3 #[.int .i64 a, .int .i64 b] w (RetBool true w) := by
  have HAl := Lib.hid (alive13_any w hW)
  have HA : Hid (∀ W, Calls Tryd.prog 5 #[.int .i64 a] W (fun e W' => e = .returned (.tuple #[.agg (vRow (nV a)), .nilIface]) ∧ Below W.heap.size W W')) := fun W => by
    have h := ofw_any a W
    rw [ofW_in ha] at h
    exact h
  have HBb : Hid (∀ W, Calls Tryd.prog 5 #[.int .i64 b] W (fun e W' => e = .returned (.tuple #[.agg (vRow gv0), .iface 40 (.int .i64 10)]) ∧ Below W.heap.size W W')) := fun W => by
    have h := ofw_any b W
    rw [ofW_out hb] at h
    exact h
  clear ha hb hW
  go_enter Tryd.func3, Tryd.ntmps3
  go_wp2_with fail
  refine HAl.out.mono ?_
  rintro e w1 ⟨rfl, hb1⟩
  have HB1 := Lib.hid hb1
  clear hb1 HAl
  go_wp2_with fail
  refine (HA.out _).mono ?_
  rintro e w2 ⟨rfl, hq2⟩
  have HB3 := Lib.hid (belowA (below_next HB1.out hq2) (.cells (vRow (nV a)) 25))
  clear hq2 HA
  generalize hw3 : w2.alloc (.cells (vRow (nV a)) 25) = w3 at *
  go_wp2_with fail
  try simp only [hw3]
  clear hw3
  refine (HBb.out _).mono ?_
  rintro e w4 ⟨rfl, hq4⟩
  have HB4 := Lib.hid (belowA (below_next HB3.out hq4) (.cells (vRow gv0) 25))
  clear hq4 HBb
  generalize hw5 : w4.alloc (.cells (vRow gv0) 25) = w5 at *
  go_wp2_with fail
  go_ret
  first
    | exact ⟨rfl, HB4.out⟩
    | (simp only [hw5]; exact ⟨rfl, HB4.out⟩)
    | (rw [← hw5] at HB4; exact ⟨rfl, HB4.out⟩)
theorem arithSwaps_walk (a b : Int) (w : World) (hW : ParW w) : Calls Tryd.prog 3 #[.int .i64 a, .int .i64 b] w (RetBool true w) := by
  cases ha : bndI a with
  | false => exact arithSwaps_outA a b ha w hW
  | true =>
    cases hb : bndI b with
    | false => exact arithSwaps_outB a b ha hb w hW
    | true => exact arithSwaps_in a b ha hb w hW
end Go.Proofs.YtplekbpmfaghbaaDoor
