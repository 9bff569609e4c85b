/- The document's Both, Same, Of. -/
import Derived.Test.YtgomfmfaoeojkaaRefSets
import Derived.Test.YtgomfmfaoeojkaaRelLaws
namespace Go.Proofs.Ytgomfmfaoeojkaa
open Go.RowKit

theorem both_sie (L M : List (List GV)) : minL L (minL L M) = sieL (outM M) L := by
  rw [minL_sie, minL_sie]
  unfold sieL inM outM
  refine List.filter_congr fun x hx => ?_
  simp only [List.mem_filter, hx, true_and]
  by_cases hm : x ∈ M <;> simp [hm]

set_option maxRecDepth 100000 in
set_option maxHeartbeats 4000000 in
theorem refBoth_any (ar arb : Int) (A B : Option Addr) (n c m d : Nat) (L M : List (List GV)) (w : World) (S : List Nat) (hS : ∀ b ∈ S, b < w.heap.size) (hl : SliceFar (Enc.slice Enc.val) w S A n c L) (hm : SliceIs (Enc.slice Enc.val) w w.heap.size B m d M) (hn : n + m ≤ 2000) (hn2 : n + n ≤ 2000) (h6 : ∀ t ∈ M, t.length ≤ 100000) (h6' : ∀ t ∈ L, t.length ≤ 100000) :
    Calls Try.prog 36 #[.agg #[.int .i64 ar, .slice A n c], .agg #[.int .i64 arb, .slice B m d]] w (RefRel S ar (minL L (minL L M)) w) := by
  obtain rfl : L.length = n := hl.1
  obtain rfl : M.length = m := hm.1
  have HF := Lib.hid hl
  have HM := Lib.hid hm
  have HS := Lib.hid hS
  have H1 := Lib.hid (fun (W : World) (hb : Below w.heap.size w W) => refMinus_any ar arb A B L.length c M.length d L M W [] (fun b hb => by cases hb) ((hl.on hb).out (S := []) (Out.refl [] W) (fun _ h _ => by cases h) (fun _ h _ => by cases h)) (hm.mono hb.size hb.block) hn h6)
  have hil : (minL L M).length ≤ L.length := by rw [minL_sie]; exact sie_len _ _
  have hi6 : ∀ t ∈ minL L M, t.length ≤ 100000 := by rw [minL_sie]; exact fun t ht => h6' t (List.mem_filter.1 ht).1
  generalize minL L M = I at H1 hil hi6 ⊢
  have H2 := Lib.hid (fun (W : World) (hb : Below w.heap.size w W) (hz : w.heap.size + 1 + 1 < W.heap.size) (A2 : Option Addr) (c2 : Nat) (hs : SliceIs (Enc.slice Enc.val) W W.heap.size A2 I.length c2 I) => refMinus_any ar ar A A2 L.length c I.length c2 L I W ((w.heap.size + 1 + 1) :: S) (fun b hb' => by
      rcases List.mem_cons.1 hb' with h | h
      · omega
      · have := hS b h; have := hb.size; omega) (hl.out (S := []) (Out.of_below hb []) (fun _ h _ => by cases h) (fun b hb' hbl => by
      rcases List.mem_cons.1 hb' with h | h
      · omega
      · exact h)) hs (by omega) hi6)
  obtain ⟨U, hU⟩ : ∃ U, Hid (U = minL L I) := ⟨_, rfl⟩
  rw [← hU.out] at H2 ⊢
  clear hl hm h6 h6' hi6 hS
  go_enter Try.func36, Try.ntmps36
  go_wp2_with fail
  have hb1 : Below w.heap.size w (((w.alloc (.cells #[.int .i64 ar, .slice A L.length c] 47)).alloc (.cells #[.int .i64 arb, .slice B M.length d] 47)).alloc (.cells #[.int .i64 0, .slice none 0 0] 47)) := belowA (belowA (belowA (Below.refl _ _) _) _) _
  have hr0 : (((w.alloc (.cells #[.int .i64 ar, .slice A L.length c] 47)).alloc (.cells #[.int .i64 arb, .slice B M.length d] 47)).alloc (.cells #[.int .i64 0, .slice none 0 0] 47)).heap[w.heap.size]? = some (.cells #[.int .i64 ar, .slice A L.length c] 47 (0, 0)) := heapOld (heapOld (heapNew rfl))
  have hr1 : (((w.alloc (.cells #[.int .i64 ar, .slice A L.length c] 47)).alloc (.cells #[.int .i64 arb, .slice B M.length d] 47)).alloc (.cells #[.int .i64 0, .slice none 0 0] 47)).heap[w.heap.size + 1]? = some (.cells #[.int .i64 arb, .slice B M.length d] 47 (0, 0)) := heapOld (heapNew (by simp))
  have hr2 : (((w.alloc (.cells #[.int .i64 ar, .slice A L.length c] 47)).alloc (.cells #[.int .i64 arb, .slice B M.length d] 47)).alloc (.cells #[.int .i64 0, .slice none 0 0] 47)).heap[w.heap.size + 1 + 1]? = some (.cells #[.int .i64 0, .slice none 0 0] 47 (0, 0)) := heapNew (by simp)
  generalize (((w.alloc (.cells #[.int .i64 ar, .slice A L.length c] 47)).alloc (.cells #[.int .i64 arb, .slice B M.length d] 47)).alloc (.cells #[.int .i64 0, .slice none 0 0] 47)) = w1 at *
  have z2 := (Array.getElem?_eq_some_iff.1 hr2).1
  have hk : ∀ W, Below w1.heap.size w1 W → W.cell? ⟨w.heap.size, 0, none⟩ = some (.int .i64 ar) ∧ W.cell? ⟨w.heap.size, 1, none⟩ = some (.slice A L.length c) ∧ W.cell? ⟨w.heap.size + 1, 0, none⟩ = some (.int .i64 arb) ∧ W.cell? ⟨w.heap.size + 1, 1, none⟩ = some (.slice B M.length d) := fun W hb =>
    ⟨(cell_of_row _ _ 0 _ _ _ ((hb.block _ (by omega)).trans hr0)).trans rfl, (cell_of_row _ _ 1 _ _ _ ((hb.block _ (by omega)).trans hr0)).trans rfl, (cell_of_row _ _ 0 _ _ _ ((hb.block _ (by omega)).trans hr1)).trans rfl, (cell_of_row _ _ 1 _ _ _ ((hb.block _ (by omega)).trans hr1)).trans rfl⟩
  have Hk := Lib.hid hk
  clear hk
  have H1' := Lib.hid (fun (W : World) (hb : Below w1.heap.size w1 W) => H1.out W (below_next hb1 hb))
  have H2' := Lib.hid (fun (W : World) (hb : Below w1.heap.size w1 W) => H2.out W (below_next hb1 hb) (Nat.lt_of_lt_of_le z2 hb.size))
  clear H1 H2
  go_region_held3 (fun w' => w'.cell? ⟨w.heap.size, 0, none⟩ = some (.int .i64 ar) ∧ w'.cell? ⟨w.heap.size, 1, none⟩ = some (.slice A L.length c) ∧ w'.cell? ⟨w.heap.size + 1, 0, none⟩ = some (.int .i64 arb) ∧ w'.cell? ⟨w.heap.size + 1, 1, none⟩ = some (.slice B M.length d))
    (first
      | (refine Hk.out _ ?_; (repeat (first | with_reducible exact Below.refl _ _ | with_reducible assumption | with_reducible refine Below.drew ?_)); done)
      | (exact ⟨(cell_set2 (by omega)).trans y0, (cell_set2 (by omega)).trans y1, (cell_set2 (by omega)).trans y2, (cell_set2 (by omega)).trans y3⟩)
      | go_keep)
    ((first
      | (go_at_call 35
         with_reducible refine (H1'.out _ ?s1).mono ?_
         case s1 => repeat (first | with_reducible exact Below.refl _ _ | with_reducible assumption | with_reducible refine Below.drew ?_)
         rintro e w2 ⟨A2, c2, rfl, hs2, hq2⟩
         have hb2 : Below w1.heap.size w1 w2 := below_next (Below.drew (Below.refl _ _)) hq2)
      | (go_at_call 35
         with_reducible refine (H2'.out _ ?s1 A2 c2 ?s2).mono ?_
         case s1 => repeat (first | with_reducible exact Below.refl _ _ | with_reducible assumption | with_reducible refine Below.drew ?_)
         case s2 => exact hs2.is
         rintro e w3 ⟨A3, c3, rfl, hs3, hq3⟩
         have hb3 : Below w1.heap.size w1 w3 := below_next hb2 hq3
         obtain ⟨y0, y1, y2, y3⟩ := Hk.out w3 hb3
         have k2 := (hb3.block _ z2).trans hr2
         have f0 : w3.frozen? ⟨w.heap.size + 1 + 1, 0, none⟩ = false := frozen_of_row _ _ _ _ _ k2
         have f1 : w3.frozen? ⟨w.heap.size + 1 + 1, 1, none⟩ = false := frozen_of_row _ _ _ _ _ k2
         have d0 : w3.cell? ⟨w.heap.size + 1 + 1, 0, none⟩ = some (.int .i64 0) := (cell_of_row _ _ 0 _ _ _ k2).trans rfl
         have d1 : w3.cell? ⟨w.heap.size + 1 + 1, 1, none⟩ = some (.slice none 0 0) := (cell_of_row _ _ 1 _ _ _ k2).trans rfl)))
  all_goals
    have e2 := set_one (v := .slice A3 U.length c3) (set_zero2 (v := .int .i64 ar) k2)
    have x0 := (cell_of_row _ _ 0 _ _ _ e2).trans (show _ = some (Value.int .i64 ar) from rfl)
    have x1 := (cell_of_row _ _ 1 _ _ _ e2).trans (show _ = some (Value.slice A3 U.length c3) from rfl)
    have hbe : Below w.heap.size w ((w3.setCell ⟨w.heap.size + 1 + 1, 0, none⟩ (.int .i64 ar)).setCell ⟨w.heap.size + 1 + 1, 1, none⟩ (.slice A3 U.length c3)) := ((below_next hb1 hb3).setCell (by simp; omega) _).setCell (by simp; omega) _
    have ho : Out [w.heap.size + 1 + 1] w3 ((w3.setCell ⟨w.heap.size + 1 + 1, 0, none⟩ (.int .i64 ar)).setCell ⟨w.heap.size + 1 + 1, 1, none⟩ (.slice A3 U.length c3)) := (set_out w3 _ 0 _).trans (set_out _ _ 1 _) (fun b hb _ => hb)
    have HS3 := Lib.hid hs3
    clear hs3 e2 k2
    go_wp2_with fail
    exact bodyPost_ret (v := .agg #[.int .i64 ar, .slice A3 U.length c3]) (by simp [results, Try.results36, go_sem, x0, x1]) rfl
      ⟨A3, c3, rfl, HS3.out.out ho (fun b hb _ => by simp at hb; simp [hb]) (fun b hb _ => by simp [hb]), hbe⟩

set_option maxRecDepth 100000 in
set_option maxHeartbeats 4000000 in
theorem refSame_any (ar : Int) (A B : Option Addr) (n c m d : Nat) (L M : List (List GV)) (w : World) (hl : SliceIs (Enc.slice Enc.val) w w.heap.size A n c L) (hm : SliceIs (Enc.slice Enc.val) w w.heap.size B m d M) :
    Calls Try.prog 37 #[.agg #[.int .i64 ar, .slice A n c], .agg #[.int .i64 ar, .slice B m d]] w (RetBool (decide (L = M)) w) := by
  obtain rfl : L.length = n := hl.1
  obtain rfl : M.length = m := hm.1
  have HX := Lib.hid hl
  have HY := Lib.hid hm
  have hn := hl.bound
  have hn2 := hm.bound
  obtain ⟨r, hr⟩ : ∃ r, Hid (r = decide (L = M)) := ⟨_, rfl⟩
  rw [← hr.out]
  clear hl hm
  go_enter Try.func37, Try.ntmps37
  have hb1 : Below w.heap.size w ((w.alloc (.cells #[.int .i64 ar, .slice A L.length c] 47)).alloc (.cells #[.int .i64 ar, .slice B M.length d] 47)) := belowA (belowA (Below.refl _ _) _) _
  have hr0 : ((w.alloc (.cells #[.int .i64 ar, .slice A L.length c] 47)).alloc (.cells #[.int .i64 ar, .slice B M.length d] 47)).heap[w.heap.size]? = some (.cells #[.int .i64 ar, .slice A L.length c] 47 (0, 0)) := heapOld (heapNew rfl)
  have hr1 : ((w.alloc (.cells #[.int .i64 ar, .slice A L.length c] 47)).alloc (.cells #[.int .i64 ar, .slice B M.length d] 47)).heap[w.heap.size + 1]? = some (.cells #[.int .i64 ar, .slice B M.length d] 47 (0, 0)) := heapNew (by simp)
  obtain ⟨w1, hw1⟩ : ∃ W, ((w.alloc (.cells #[.int .i64 ar, .slice A L.length c] 47)).alloc (.cells #[.int .i64 ar, .slice B M.length d] 47)) = W := ⟨_, rfl⟩
  rw [hw1] at hb1 hr0 hr1
  have c0 : w1.cell? ⟨w.heap.size, 0, none⟩ = some (.int .i64 ar) := (cell_of_row _ _ 0 _ _ _ hr0).trans rfl
  have c1 : w1.cell? ⟨w.heap.size, 1, none⟩ = some (.slice A L.length c) := (cell_of_row _ _ 1 _ _ _ hr0).trans rfl
  have d0 : w1.cell? ⟨w.heap.size + 1, 0, none⟩ = some (.int .i64 ar) := (cell_of_row _ _ 0 _ _ _ hr1).trans rfl
  have d1 : w1.cell? ⟨w.heap.size + 1, 1, none⟩ = some (.slice B M.length d) := (cell_of_row _ _ 1 _ _ _ hr1).trans rfl
  have hne : (ar != ar) = false := by simp
  by_cases hl : L.length = M.length
  rotate_left
  · have hl' : ((L.length : Int) != (M.length : Int)) = true := by simpa using fun h => hl (by omega)
    have HR : Hid (r = false) := by show _ = _; rw [hr.out]; simpa using fun e => hl (by rw [e])
    clear hl
    go_wp2_with fail
    go_ret
    exact ⟨by rw [HR.out]; rfl, hb1⟩
  have hl' : ((L.length : Int) != (M.length : Int)) = false := by simp; omega
  have HL := Lib.hid hl
  clear hl
  go_wp2_with fail
  go_loopw [5] (fun i wr => ∃ k : Nat, k ≤ L.length ∧ i = .int .i64 k ∧ Hid (L.take k = M.take k) ∧ Below w1.heap.size w1 wr) (fun i _ => L.length - (intOf i).toNat)
  case atStart => exact ⟨0, by omega, rfl, rfl, Below.refl _ _⟩
  case round =>
    obtain ⟨k, hk, rfl, HT, hbr⟩ := hrel
    have i0 : (0 : Int) ≤ (k : Int) := by omega
    have e1 := below_cell hbr c1
    have e2 := below_cell hbr d1
    have hbw := below_next hb1 hbr
    by_cases hlt : k < L.length
    · have hlt2 : k < M.length := by have := HL.out; omega
      have i1 : (k : Int) < (L.length : Int) := by omega
      have i2 : (k : Int) < (M.length : Int) := by omega
      obtain ⟨b1, o1, t1, A1, n1, c1', rfl, _, h1, x1, s1⟩ := (HX.out.below hbw).slice_at hlt
      obtain ⟨b2, o2, t2, A2, n2, c2', rfl, _, h2, y1, s2⟩ := (HY.out.below hbw).slice_at hlt2
      have HS := Lib.hid (fun (W : World) (hb : Below wr.heap.size wr W) => refTSame_any A1 A2 n1 c1' n2 c2' t1 t2 W (s1.mono (below_next hbw hb).size (fun b hb' => hb.block b (by have := hbw.size; omega))) (s2.mono (below_next hbw hb).size (fun b hb' => hb.block b (by have := hbw.size; omega))))
      have hk : ∀ W, Below wr.heap.size wr W → W.cell? ⟨w.heap.size, 1, none⟩ = some (.slice (some ⟨b1, o1, none⟩) L.length c) ∧ W.cell? ⟨w.heap.size + 1, 1, none⟩ = some (.slice (some ⟨b2, o2, none⟩) M.length d) ∧ W.cell? ⟨b1, o1 + k, none⟩ = some (.slice A1 n1 c1') ∧ W.cell? ⟨b2, o2 + k, none⟩ = some (.slice A2 n2 c2') := fun W hb => ⟨below_cell hb e1, below_cell hb e2, below_cell hb x1, below_cell hb y1⟩
      have Hk := Lib.hid hk
      clear s1 s2 hk
      by_cases hv : t1 = t2
      · have HT2 : Hid (L.take (k + 1) = M.take (k + 1)) := by show _ = _; rw [List.take_add_one, List.take_add_one, h1.out, h2.out, HT.out, hv]
        simp only [hv, decide_true] at HS
        clear hv HT h1 h2
        go_wp2_with fail
        go_region_held3 (fun w' => w'.cell? ⟨w.heap.size, 1, none⟩ = some (.slice (some ⟨b1, o1, none⟩) L.length c) ∧ w'.cell? ⟨w.heap.size + 1, 1, none⟩ = some (.slice (some ⟨b2, o2, none⟩) M.length d) ∧ w'.cell? ⟨b1, o1 + k, none⟩ = some (.slice A1 n1 c1') ∧ w'.cell? ⟨b2, o2 + k, none⟩ = some (.slice A2 n2 c2'))
          (first
            | (refine Hk.out _ ?_; (repeat (first | with_reducible exact Below.refl _ _ | with_reducible assumption | with_reducible refine Below.drew ?_)); done)
            | go_keep)
          ((go_at_call 47
            with_reducible refine (HS.out _ ?s1).mono ?_
            case s1 => repeat (first | with_reducible exact Below.refl _ _ | with_reducible assumption | with_reducible refine Below.drew ?_)
            rintro e w2 ⟨rfl, hq2⟩
            have hb2 : Below wr.heap.size wr w2 := below_next (Below.drew (Below.refl _ _)) hq2))
        all_goals
          have hb3 := below_next hbr hb2
          go_wp2_with fail
          go_roundw
          case rel => exact ⟨k + 1, by omega, by go_num, HT2, hb3⟩
          case measure => simp [intOf]; omega
      · have HR : Hid (r = false) := by
          show _ = _
          rw [hr.out]
          simp only [decide_eq_false_iff_not]
          intro e
          apply hv
          have a1 := h1.out
          have a2 := h2.out
          rw [e] at a1
          rw [a1] at a2
          injection a2
        simp only [hv, decide_false] at HS
        clear hv HT h1 h2
        go_wp2_with fail
        go_region_held3 (fun w' => w'.cell? ⟨w.heap.size, 1, none⟩ = some (.slice (some ⟨b1, o1, none⟩) L.length c) ∧ w'.cell? ⟨w.heap.size + 1, 1, none⟩ = some (.slice (some ⟨b2, o2, none⟩) M.length d) ∧ w'.cell? ⟨b1, o1 + k, none⟩ = some (.slice A1 n1 c1') ∧ w'.cell? ⟨b2, o2 + k, none⟩ = some (.slice A2 n2 c2'))
          (first
            | (refine Hk.out _ ?_; (repeat (first | with_reducible exact Below.refl _ _ | with_reducible assumption | with_reducible refine Below.drew ?_)); done)
            | go_keep)
          ((go_at_call 47
            with_reducible refine (HS.out _ ?s1).mono ?_
            case s1 => repeat (first | with_reducible exact Below.refl _ _ | with_reducible assumption | with_reducible refine Below.drew ?_)
            rintro e w2 ⟨rfl, hq2⟩
            have hb2 : Below wr.heap.size wr w2 := below_next (Below.drew (Below.refl _ _)) hq2))
        all_goals
          have hb3 := below_next hbw hb2
          go_wp2_with fail
          go_ret
          exact ⟨by rw [HR.out]; rfl, hb3⟩
    · have i1 : ¬ (k : Int) < (L.length : Int) := by omega
      have HR : Hid (r = true) := by
        show _ = _
        have a1 := HT.out
        rw [List.take_of_length_le (by omega), List.take_of_length_le (by have := HL.out; omega)] at a1
        rw [hr.out]; simpa using a1
      clear HT
      go_wp2_with fail
      go_ret
      exact ⟨by rw [HR.out]; rfl, hbw⟩
end Go.Proofs.Ytgomfmfaoeojkaa
