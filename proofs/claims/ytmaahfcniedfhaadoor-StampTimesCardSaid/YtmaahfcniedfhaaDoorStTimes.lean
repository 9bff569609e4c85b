/- StampTimes: the walk. -/
import Derived.Test.YtmaahfcniedfhaaDoorStRef
namespace Go.Proofs.YtmaahfcniedfhaaDoor
open Go.RowKit

set_option maxRecDepth 100000 in
set_option maxHeartbeats 8000000 in
theorem stampTimes_walk (a b c d : Int) (ha : fits a) (hb : fits b) (w : World) (h : TabW w) : Calls Tryd.prog 6 #[tm a b, tm c d] w (RetBool true w) := by
  have HT := Lib.hid h
  have Ha := Lib.hid ha
  have Hb := Lib.hid hb
  clear h ha hb
  go_enter Tryd.func6, Tryd.ntmps6
  go_wp2_with fail
  have B2 := (Box.new w 23 (.int .i64 a) (.int .i64 b)).old (.cells #[.int .i64 c, .int .i64 d] 23)
  have B3 := Box.new (w.alloc (.cells #[.int .i64 a, .int .i64 b] 23)) 23 (.int .i64 c) (.int .i64 d)
  rw [World.size_alloc] at B3
  have hbw : Below w.heap.size w ((w.alloc (.cells #[.int .i64 a, .int .i64 b] 23)).alloc (.cells #[.int .i64 c, .int .i64 d] 23)) := belowA (belowA (Below.refl _ _) _) _
  generalize (w.alloc (.cells #[.int .i64 a, .int .i64 b] 23)).alloc (.cells #[.int .i64 c, .int .i64 d] 23) = wb at hbw B2 B3 ⊢
  refine (alive_any _ (HT.out.on hbw)).mono ?_
  rintro e1 w1 ⟨rfl, hq1⟩
  replace hbw := below_next hbw hq1
  replace B2 := B2.on hq1
  replace B3 := B3.on hq1
  clear hq1
  have Hk := Lib.hid (fun W (h : Below w1.heap.size w1 W) => And.intro (B2.on h).1 (And.intro (B2.on h).2 (And.intro (B3.on h).1 (B3.on h).2)))
  go_upto_region 3 with fail
  go_cut [5, 6] (fun v5 v6 W => ∃ g5 g6, v5 = .pointer (some ⟨g5, 0, none⟩) ∧ v6 = .pointer (some ⟨g6, 0, none⟩) ∧ Box W g5 (.int .i64 a) (.int .i64 b) ∧ Box W g6 (.int .i64 c) (.int .i64 d) ∧ Below w1.heap.size w1 W)
  case first =>
    go_region_held3 (fun w' => w'.cell? ⟨w.heap.size, 0, none⟩ = some (.int .i64 a) ∧ w'.cell? ⟨w.heap.size, 1, none⟩ = some (.int .i64 b) ∧ w'.cell? ⟨w.heap.size + 1, 0, none⟩ = some (.int .i64 c) ∧ w'.cell? ⟨w.heap.size + 1, 1, none⟩ = some (.int .i64 d))
      (first
        | (refine Hk.out _ ?_; (repeat (first | with_reducible exact Below.refl _ _ | with_reducible assumption | with_reducible refine Below.drew ?_ | with_reducible refine belowA ?_ _)))
        | go_keep)
      ((go_at_call 14
        refine (lawTime_at _ _ _).mono ?_
        rintro e w2 ⟨rfl, rfl⟩))
    all_goals
      go_wp2_with fail
      go_meet
      refine ⟨_, _, rfl, rfl, ⟨cellD ?_, cellD ?_⟩, ⟨cellD ?_, cellD ?_⟩, ?_⟩
      all_goals (repeat (first | with_reducible exact Below.refl _ _ | with_reducible refine Below.drew ?_ | with_reducible refine belowA ?_ _ | (refine newCell' ?_ rfl; simp only [World.size_alloc]; done) | with_reducible refine cellA ?_))
  case rest =>
    obtain ⟨g5, g6, rfl, rfl, B5, B6, hb⟩ := hcut
    replace hbw := below_next hbw hb
    replace B2 := B2.on hb
    replace B3 := B3.on hb
    clear Hk hb
    have hl1 := Lib.hid (fun w => refLess_any a b c d w)
    have hl2 := Lib.hid (fun w => refLess_any c d a b w)
    have hC := Lib.hid (fun w => compare_any a b c d w)
    have hc : cmpT a b c d = if less c d a b = true then 1 else if less a b c d = true then -1 else 0 := rfl
    generalize cmpT a b c d = ct at hC hc
    generalize less a b c d = l1 at hl1 hc
    generalize less c d a b = l2 at hl2 hc
    have HC := Lib.hid hc
    clear hc
    have C5 := B5; obtain ⟨c50, c51⟩ := C5
    have C6 := B6; obtain ⟨c60, c61⟩ := C6
    go_upto_if 16 with (
      (go_at_call 22
       refine (hl1.out _).mono ?_
       rintro e w2 ⟨rfl, hq2⟩))
    clear c50 c51 c60 c61
    replace B2 := B2.on hq2
    replace B3 := B3.on hq2
    replace B5 := B5.on hq2
    replace B6 := B6.on hq2
    replace hbw := below_next hbw hq2
    clear hq2
    obtain ⟨k1, hk1⟩ : ∃ k1 : Int, (if l1 = true then -1 else 0) = k1 := ⟨_, rfl⟩
    have HK1 := Lib.hid hk1
    clear hk1
    go_cut [7] (fun v W => v = .int .i64 k1 ∧ Below w2.heap.size w2 W)
    case first =>
      cases hl : l1 with
      | false =>
        have e : k1 = 0 := by have := HK1.out; rw [hl] at this; simpa using this.symm
        subst e
        go_wp2_with fail
        go_meet
        exact ⟨rfl, Below.refl _ _⟩
      | true =>
        have e : k1 = -1 := by have := HK1.out; rw [hl] at this; simpa using this.symm
        subst e
        go_wp2_with fail
        go_meet
        exact ⟨rfl, Below.refl _ _⟩
    case rest =>
    obtain ⟨rfl, hb⟩ := hcut
    replace B2 := B2.on hb
    replace B3 := B3.on hb
    replace B5 := B5.on hb
    replace B6 := B6.on hb
    replace hbw := below_next hbw hb
    clear hb
    have C5 := B5; obtain ⟨c50, c51⟩ := C5
    have C6 := B6; obtain ⟨c60, c61⟩ := C6
    go_upto_if 19 with (
      (go_at_call 22
       refine (hl2.out _).mono ?_
       rintro e w2 ⟨rfl, hq2⟩))
    clear c50 c51 c60 c61
    replace B2 := B2.on hq2
    replace B3 := B3.on hq2
    replace B5 := B5.on hq2
    replace B6 := B6.on hq2
    replace hbw := below_next hbw hq2
    clear hq2
    go_cut [7] (fun v W => v = .int .i64 ct ∧ Below w2.heap.size w2 W)
    case first =>
      cases hl : l2 with
      | false =>
        have e : k1 = ct := by have := HC.out; rw [hl] at this; rw [this, ← HK1.out]; simp
        subst e
        go_wp2_with fail
        go_meet
        exact ⟨rfl, Below.refl _ _⟩
      | true =>
        have e : ct = 1 := by have := HC.out; rw [hl] at this; simpa using this
        subst e
        go_wp2_with fail
        go_meet
        exact ⟨rfl, Below.refl _ _⟩
    case rest =>
    obtain ⟨rfl, hb⟩ := hcut
    replace B2 := B2.on hb
    replace B3 := B3.on hb
    replace B5 := B5.on hb
    replace B6 := B6.on hb
    replace hbw := below_next hbw hb
    clear hb hl1 hl2
    have Hk := Lib.hid (fun W (h : Below wc.heap.size wc W) => And.intro (B2.on h).1 (And.intro (B2.on h).2 (And.intro (B3.on h).1 (And.intro (B3.on h).2 (And.intro (B5.on h).1 (And.intro (B5.on h).2 (And.intro (B6.on h).1 ((B6.on h).2))))))))
    clear B2 B3 B5 B6 HK1 HC
    go_upto_region 9 with fail
    have hb1 := Below.refl wc.heap.size wc
    go_region_held3 (fun w' => w'.cell? ⟨w.heap.size, 0, none⟩ = some (.int .i64 a) ∧ w'.cell? ⟨w.heap.size, 1, none⟩ = some (.int .i64 b) ∧ w'.cell? ⟨w.heap.size + 1, 0, none⟩ = some (.int .i64 c) ∧ w'.cell? ⟨w.heap.size + 1, 1, none⟩ = some (.int .i64 d) ∧ w'.cell? ⟨g5, 0, none⟩ = some (.int .i64 a) ∧ w'.cell? ⟨g5, 1, none⟩ = some (.int .i64 b) ∧ w'.cell? ⟨g6, 0, none⟩ = some (.int .i64 c) ∧ w'.cell? ⟨g6, 1, none⟩ = some (.int .i64 d))
        (first
          | (refine Hk.out _ ?_; (repeat (first | with_reducible exact Below.refl _ _ | with_reducible assumption | with_reducible refine Below.drew ?_ | with_reducible refine belowA ?_ _)))
          | go_keep)
        ((first
          | (go_at_call 23
             refine (right_any _ _ _).mono ?_
             rintro e w1 ⟨rfl, hq1⟩
             have hb1 : Below wc.heap.size wc w1 := by
               refine below_next ?_ hq1
               repeat (first | with_reducible exact Below.refl _ _ | with_reducible assumption | with_reducible refine Below.drew ?_ | with_reducible refine belowA ?_ _))
          | (go_at_call 24
             refine (refRight_any _ _ _).mono ?_
             rintro e w1 ⟨rfl, hq1⟩
             have hb1 : Below wc.heap.size wc w1 := by
               refine below_next ?_ hq1
               repeat (first | with_reducible exact Below.refl _ _ | with_reducible assumption | with_reducible refine Below.drew ?_ | with_reducible refine belowA ?_ _))
          | (go_at_call 8
             refine (atMost_any _ _ _ _ _).mono ?_
             rintro e w1 ⟨rfl, hq1⟩
             have hb1 : Below wc.heap.size wc w1 := by
               refine below_next ?_ hq1
               repeat (first | with_reducible exact Below.refl _ _ | with_reducible assumption | with_reducible refine Below.drew ?_ | with_reducible refine belowA ?_ _))
          | (go_at_call 25
             refine (refAtMost_any _ _ _ _ _).mono ?_
             rintro e w1 ⟨rfl, hq1⟩
             have hb1 : Below wc.heap.size wc w1 := by
               refine below_next ?_ hq1
               repeat (first | with_reducible exact Below.refl _ _ | with_reducible assumption | with_reducible refine Below.drew ?_ | with_reducible refine belowA ?_ _))
          | (go_at_call 9
             refine (least_any _ _ _ _ _).mono ?_
             rintro e w1 ⟨rfl, hq1⟩
             have hb1 : Below wc.heap.size wc w1 := by
               refine below_next ?_ hq1
               repeat (first | with_reducible exact Below.refl _ _ | with_reducible assumption | with_reducible refine Below.drew ?_ | with_reducible refine belowA ?_ _))
          | (go_at_call 14
             refine (lawTime_any _ _ _).mono ?_
             rintro e w1 ⟨rfl, hq1⟩
             have hb1 : Below wc.heap.size wc w1 := by
               refine below_next ?_ hq1
               repeat (first | with_reducible exact Below.refl _ _ | with_reducible assumption | with_reducible refine Below.drew ?_ | with_reducible refine belowA ?_ _))
          | (go_at_call 26
             refine (refLow_any _ _ _ _ _).mono ?_
             rintro e w1 ⟨rfl, hq1⟩
             have hb1 : Below wc.heap.size wc w1 := by
               refine below_next ?_ hq1
               repeat (first | with_reducible exact Below.refl _ _ | with_reducible assumption | with_reducible refine Below.drew ?_ | with_reducible refine belowA ?_ _))
          | (go_at_call 10
             refine (greatest_any _ _ _ _ _).mono ?_
             rintro e w1 ⟨rfl, hq1⟩
             have hb1 : Below wc.heap.size wc w1 := by
               refine below_next ?_ hq1
               repeat (first | with_reducible exact Below.refl _ _ | with_reducible assumption | with_reducible refine Below.drew ?_ | with_reducible refine belowA ?_ _))
          | (go_at_call 27
             refine (refBoth_any _ _ _ _ _).mono ?_
             rintro e w1 ⟨rfl, hq1⟩
             have hb1 : Below wc.heap.size wc w1 := by
               refine below_next ?_ hq1
               repeat (first | with_reducible exact Below.refl _ _ | with_reducible assumption | with_reducible refine Below.drew ?_ | with_reducible refine belowA ?_ _))
          | (go_at_call 28
             refine (hC.out _).mono ?_
             rintro e w1 ⟨rfl, hq1⟩
             have hb1 : Below wc.heap.size wc w1 := by
               refine below_next ?_ hq1
               repeat (first | with_reducible exact Below.refl _ _ | with_reducible assumption | with_reducible refine Below.drew ?_ | with_reducible refine belowA ?_ _))
          | (go_at_call 29
             refine (string_any _ _ Ha.out Hb.out _ (HT.out.on (below_next hbw hb1))).mono ?_
             rintro e w1 ⟨rfl, hq1⟩
             have hb1 : Below wc.heap.size wc w1 := by
               refine below_next ?_ hq1
               repeat (first | with_reducible exact Below.refl _ _ | with_reducible assumption | with_reducible refine Below.drew ?_ | with_reducible refine belowA ?_ _))
          | (go_at_call 30
             refine (text_any _ _ Ha.out Hb.out _).mono ?_
             rintro e w1 ⟨rfl, hq1⟩
             have hb1 : Below wc.heap.size wc w1 := by
               refine below_next ?_ hq1
               repeat (first | with_reducible exact Below.refl _ _ | with_reducible assumption | with_reducible refine Below.drew ?_ | with_reducible refine belowA ?_ _))))
    all_goals
      go_wp2_with fail
      go_ret
      exact ⟨by simp, below_next hbw hb1⟩
end Go.Proofs.YtmaahfcniedfhaaDoor
