/- StampPaths: the walk. -/
import Derived.Test.YtmaahfcniedfhaaDoorStPath
import Derived.Test.YtmaahfcniedfhaaDoorStOrders
namespace Go.Proofs.YtmaahfcniedfhaaDoor
open Go.RowKit

def Box (W : World) (g : Nat) (u v : Value) : Prop := W.cell? ⟨g, 0, none⟩ = some u ∧ W.cell? ⟨g, 1, none⟩ = some v
theorem Box.on {W W' : World} {g : Nat} {u v : Value} (h : Box W g u v) (hb : Below W.heap.size W W') : Box W' g u v := ⟨below_cell hb h.1, below_cell hb h.2⟩
theorem Box.new (W : World) (t : TypeId) (u v : Value) : Box (W.alloc (.cells #[u, v] t)) W.heap.size u v := ⟨newCell W t [u, v] 0 u rfl, newCell W t [u, v] 1 v rfl⟩
theorem Box.old {W : World} {g : Nat} {u v : Value} (h : Box W g u v) (o : Obj) : Box (W.alloc o) g u v := ⟨cellA h.1, cellA h.2⟩
theorem boxes3 (w : World) (t t' t'' : TypeId) (a b c d e f : Value) (W : World) (hW : W = ((w.alloc (.cells #[a, b] t)).alloc (.cells #[c, d] t')).alloc (.cells #[e, f] t'')) :
    Box W w.heap.size a b ∧ Box W (w.heap.size + 1) c d ∧ Box W (w.heap.size + 1 + 1) e f ∧ Below w.heap.size w W := by
  subst hW
  have h2 := Box.new (w.alloc (.cells #[a, b] t)) t' c d
  have h3 := Box.new ((w.alloc (.cells #[a, b] t)).alloc (.cells #[c, d] t')) t'' e f
  simp only [World.size_alloc] at h2 h3
  exact ⟨((Box.new w t a b).old _).old _, h2.old _, h3, belowA (belowA (belowA (Below.refl _ _) _) _) _⟩

theorem Box.set {W : World} {g : Nat} {u0 v0 : Value} (h : Box W g u0 v0) (u v : Value) : Box ((W.setCell ⟨g, 0, none⟩ u).setCell ⟨g, 1, none⟩ v) g u v := by
  obtain ⟨h1, h2⟩ := h
  constructor
  · rw [World.cell?_setCell_other _ _ _ _ (by simp)]
    exact World.cell?_setCell_same' _ _ _ (by rw [h1]; rfl)
  · exact World.cell?_setCell_same' _ _ _ (by rw [World.cell?_setCell_other _ _ _ _ (by simp), h2]; rfl)

set_option maxRecDepth 100000 in
set_option maxHeartbeats 4000000 in
theorem stampPaths_walk (a b : Bool) (m n e r : Int) (w : World) (h : TabW w) : Calls Tryd.prog 4 #[pv a m, pv b n, tm e r] w (RetBool true w) := by
  have HT := Lib.hid h
  clear h
  have hO := of_any a m e r
  have hR := refOf_any a m e r
  have hT := then_any a b m n
  have hS := refThen_any a b m n
  generalize ofF a m e r = X at hO hR
  generalize thenF a b m n = Y at hT hS
  obtain ⟨x1, x2, x3⟩ := X
  obtain ⟨y1, y2, y3⟩ := Y
  have HO := Lib.hid hO
  have HR := Lib.hid hR
  have HTh := Lib.hid hT
  have HS := Lib.hid hS
  clear hO hR hT hS
  go_enter Tryd.func4, Tryd.ntmps4
  go_wp2_with fail
  obtain ⟨B3, B4, B5, hbw⟩ := boxes3 w 29 29 23 (.bool a) (.int .i64 m) (.bool b) (.int .i64 n) (.int .i64 e) (.int .i64 r) _ rfl
  generalize ((w.alloc (.cells #[.bool a, .int .i64 m] 29)).alloc (.cells #[.bool b, .int .i64 n] 29)).alloc (.cells #[.int .i64 e, .int .i64 r] 23) = wb at hbw B3 B4 B5 ⊢
  refine (alive_any _ (HT.out.on hbw)).mono ?_
  rintro e1 w1 ⟨rfl, hq1⟩
  replace hbw := below_next hbw hq1
  replace B3 := B3.on hq1
  replace B4 := B4.on hq1
  replace B5 := B5.on hq1
  clear hq1
  have C3 := B3; obtain ⟨c30, c31⟩ := C3
  have C5 := B5; obtain ⟨c50, c51⟩ := C5
  go_upto_region 4 with (
    (go_at_call 11
     refine (HO.out _).mono ?_
     rintro e2 w2 ⟨rfl, hq2⟩))
  clear c30 c31 c50 c51
  replace hbw := belowA (below_next hbw hq2) (.cells #[.int .i64 x1, .int .i64 x2] 23)
  replace B3 := (B3.on hq2).old (.cells #[.int .i64 x1, .int .i64 x2] 23)
  replace B4 := (B4.on hq2).old (.cells #[.int .i64 x1, .int .i64 x2] 23)
  replace B5 := (B5.on hq2).old (.cells #[.int .i64 x1, .int .i64 x2] 23)
  have B7 := Box.new w2 23 (.int .i64 x1) (.int .i64 x2)
  generalize w2.heap.size = g7 at B7 ⊢
  generalize w2.alloc (.cells #[.int .i64 x1, .int .i64 x2] 23) = w3 at hbw B3 B4 B5 B7 ⊢
  have Hk4 := Lib.hid (fun W (h : Below w3.heap.size w3 W) => And.intro (B3.on h).1 (And.intro (B3.on h).2 (And.intro (B5.on h).1 (B5.on h).2)))
  go_cut [9, 10] (fun v9 v10 W => ∃ g9, v9 = .pointer (some ⟨g9, 0, none⟩) ∧ v10 = .int .i64 x3 ∧ Box W g9 (.int .i64 x1) (.int .i64 x2) ∧ Below w3.heap.size w3 W)
  case first =>
    go_region_held3 (fun w' => w'.cell? ⟨w.heap.size, 0, none⟩ = some (.bool a) ∧ w'.cell? ⟨w.heap.size, 1, none⟩ = some (.int .i64 m) ∧ w'.cell? ⟨w.heap.size + 1 + 1, 0, none⟩ = some (.int .i64 e) ∧ w'.cell? ⟨w.heap.size + 1 + 1, 1, none⟩ = some (.int .i64 r))
      (first
        | (refine Hk4.out _ ?_; (repeat (first | with_reducible exact Below.refl _ _ | with_reducible assumption | with_reducible refine Below.drew ?_ | with_reducible refine belowA ?_ _ | with_reducible refine belowS ?_ _ _ (by omega) _)))
        | go_keep)
      ((first
        | (go_at_call 13
           refine (lawPath_at _ _ _).mono ?_
           rintro e w1 ⟨rfl, rfl⟩)
        | (go_at_call 14
           refine (lawTime_at _ _ _).mono ?_
           rintro e w1 ⟨rfl, rfl⟩)
        | (go_at_call 12
           refine (HR.out _).mono ?_
           rintro e w1 ⟨rfl, hq1⟩
           obtain ⟨hc1, hf1⟩ := bcell hq1
           have hz1 := hq1.size
           try simp only [World.size_alloc, World.size_drew, Nat.add_one_le_iff] at hz1 hc1 hf1
           have hb1 : Below w3.heap.size w3 w1 := by
             refine below_next ?_ hq1
             repeat (first | with_reducible exact Below.refl _ _ | with_reducible assumption | with_reducible refine Below.drew ?_ | with_reducible refine belowA ?_ _))))
    all_goals
      go_wp2_with fail
      go_meet
      refine ⟨_, rfl, rfl, ?_, ?_⟩
    all_goals first
      | exact Box.new _ _ _ _
      | (refine Box.set (u0 := .int .i64 0) (v0 := .int .i64 0) ⟨below_cell hq1 ?_, below_cell hq1 ?_⟩ _ _
         all_goals (repeat (first | (refine newCell' ?_ rfl; simp only [World.size_alloc]; done) | with_reducible refine cellA ?_ | with_reducible refine cellD ?_)))
      | (repeat (first | with_reducible exact Below.refl _ _ | with_reducible assumption | with_reducible refine Below.drew ?_ | with_reducible refine belowA ?_ _ | with_reducible refine belowS ?_ _ _ (by omega) _))
  case rest =>
    obtain ⟨g9, rfl, rfl, B9, hb⟩ := hcut
    replace hbw := below_next hbw hb
    replace B3 := B3.on hb
    replace B4 := B4.on hb
    replace B5 := B5.on hb
    replace B7 := B7.on hb
    clear hb Hk4
    have C3 := B3; obtain ⟨c30, c31⟩ := C3
    have C4 := B4; obtain ⟨c40, c41⟩ := C4
    go_upto_region 6 with (
      (go_at_call 15
       refine (HTh.out _).mono ?_
       rintro e2 w2 ⟨rfl, hq2⟩))
    clear c30 c31 c40 c41
    replace hbw := belowA (below_next hbw hq2) (.cells #[.bool y1, .int .i64 y2] 29)
    replace B3 := (B3.on hq2).old (.cells #[.bool y1, .int .i64 y2] 29)
    replace B4 := (B4.on hq2).old (.cells #[.bool y1, .int .i64 y2] 29)
    replace B7 := (B7.on hq2).old (.cells #[.bool y1, .int .i64 y2] 29)
    replace B9 := (B9.on hq2).old (.cells #[.bool y1, .int .i64 y2] 29)
    clear B5
    have B11 := Box.new w2 29 (.bool y1) (.int .i64 y2)
    generalize w2.heap.size = g11 at B11 ⊢
    generalize w2.alloc (.cells #[.bool y1, .int .i64 y2] 29) = w4 at hbw B3 B4 B7 B9 B11 ⊢
    have Hk4 := Lib.hid (fun W (h : Below w4.heap.size w4 W) => And.intro (B3.on h).1 (And.intro (B3.on h).2 (And.intro (B4.on h).1 (B4.on h).2)))
    go_cut [13, 14] (fun v13 v14 W => ∃ g13, v13 = .pointer (some ⟨g13, 0, none⟩) ∧ v14 = .int .i64 y3 ∧ Box W g13 (.bool y1) (.int .i64 y2) ∧ Below w4.heap.size w4 W)
    case first =>
      go_region_held3 (fun w' => w'.cell? ⟨w.heap.size, 0, none⟩ = some (.bool a) ∧ w'.cell? ⟨w.heap.size, 1, none⟩ = some (.int .i64 m) ∧ w'.cell? ⟨w.heap.size + 1, 0, none⟩ = some (.bool b) ∧ w'.cell? ⟨w.heap.size + 1, 1, none⟩ = some (.int .i64 n))
        (first
          | (refine Hk4.out _ ?_; (repeat (first | with_reducible exact Below.refl _ _ | with_reducible assumption | with_reducible refine Below.drew ?_ | with_reducible refine belowA ?_ _ | with_reducible refine belowS ?_ _ _ (by omega) _)))
          | go_keep)
        ((first
          | (go_at_call 13
             refine (lawPath_at _ _ _).mono ?_
             rintro e w1 ⟨rfl, rfl⟩)
          | (go_at_call 16
             refine (HS.out _).mono ?_
             rintro e w1 ⟨rfl, hq1⟩
             obtain ⟨hc1, hf1⟩ := bcell hq1
             have hz1 := hq1.size
             try simp only [World.size_alloc, World.size_drew, Nat.add_one_le_iff] at hz1 hc1 hf1
             have hb1 : Below w4.heap.size w4 w1 := by
               refine below_next ?_ hq1
               repeat (first | with_reducible exact Below.refl _ _ | with_reducible assumption | with_reducible refine Below.drew ?_ | with_reducible refine belowA ?_ _))))
      all_goals
        go_wp2_with fail
        go_meet
        refine ⟨_, rfl, rfl, ?_, ?_⟩
      all_goals first
        | exact Box.new _ _ _ _
        | (refine Box.set (u0 := .bool false) (v0 := .int .i64 0) ⟨below_cell hq1 ?_, below_cell hq1 ?_⟩ _ _
           all_goals (repeat (first | (refine newCell' ?_ rfl; simp only [World.size_alloc]; done) | with_reducible refine cellA ?_ | with_reducible refine cellD ?_)))
        | (repeat (first | with_reducible exact Below.refl _ _ | with_reducible assumption | with_reducible refine Below.drew ?_ | with_reducible refine belowA ?_ _ | with_reducible refine belowS ?_ _ _ (by omega) _))
    case rest =>
      obtain ⟨g13, rfl, rfl, B13, hb⟩ := hcut
      replace hbw := below_next hbw hb
      replace B3 := B3.on hb
      replace B4 := B4.on hb
      replace B7 := B7.on hb
      replace B9 := B9.on hb
      replace B11 := B11.on hb
      clear hb Hk4
      have Hk4 := Lib.hid (fun W (h : Below wc.heap.size wc W) => And.intro (B3.on h).1 (And.intro (B3.on h).2 (And.intro (B4.on h).1 (And.intro (B4.on h).2 (And.intro (B7.on h).1 (And.intro (B7.on h).2 (And.intro (B9.on h).1 (And.intro (B9.on h).2 (And.intro (B11.on h).1 (And.intro (B11.on h).2 (And.intro (B13.on h).1 ((B13.on h).2))))))))))))
      clear B3 B4 B7 B9 B11 B13 hq2
      go_upto_region 7 with fail
      have hb1 := Below.refl wc.heap.size wc
      go_region_held3 (fun w' => w'.cell? ⟨w.heap.size, 0, none⟩ = some (.bool a) ∧ w'.cell? ⟨w.heap.size, 1, none⟩ = some (.int .i64 m) ∧ w'.cell? ⟨w.heap.size + 1, 0, none⟩ = some (.bool b) ∧ w'.cell? ⟨w.heap.size + 1, 1, none⟩ = some (.int .i64 n) ∧ w'.cell? ⟨g7, 0, none⟩ = some (.int .i64 x1) ∧ w'.cell? ⟨g7, 1, none⟩ = some (.int .i64 x2) ∧ w'.cell? ⟨g9, 0, none⟩ = some (.int .i64 x1) ∧ w'.cell? ⟨g9, 1, none⟩ = some (.int .i64 x2) ∧ w'.cell? ⟨g11, 0, none⟩ = some (.bool y1) ∧ w'.cell? ⟨g11, 1, none⟩ = some (.int .i64 y2) ∧ w'.cell? ⟨g13, 0, none⟩ = some (.bool y1) ∧ w'.cell? ⟨g13, 1, none⟩ = some (.int .i64 y2))
        (first
          | (refine Hk4.out _ ?_; (repeat (first | with_reducible exact Below.refl _ _ | with_reducible assumption | with_reducible refine Below.drew ?_ | with_reducible refine belowA ?_ _)))
          | go_keep)
        ((first
          | (go_at_call 17
             refine (num_any _ _).mono ?_
             rintro e w1 ⟨rfl, hq1⟩
             have hb1 : Below wc.heap.size wc w1 := by
               refine below_next ?_ hq1
               repeat (first | with_reducible exact Below.refl _ _ | with_reducible assumption | with_reducible refine Below.drew ?_ | with_reducible refine belowA ?_ _))
          | (go_at_call 14
             refine (lawTime_any _ _ _).mono ?_
             rintro e w1 ⟨rfl, hq1⟩
             have hb1 : Below wc.heap.size wc w1 := by
               refine below_next ?_ hq1
               repeat (first | with_reducible exact Below.refl _ _ | with_reducible assumption | with_reducible refine Below.drew ?_ | with_reducible refine belowA ?_ _))
          | (go_at_call 13
             refine (lawPath_any _ _ _).mono ?_
             rintro e w1 ⟨rfl, hq1⟩
             have hb1 : Below wc.heap.size wc w1 := by
               refine below_next ?_ hq1
               repeat (first | with_reducible exact Below.refl _ _ | with_reducible assumption | with_reducible refine Below.drew ?_ | with_reducible refine belowA ?_ _))
          | (go_at_call 18
             refine (rightPath_any _ _ _).mono ?_
             rintro e w1 ⟨rfl, hq1⟩
             have hb1 : Below wc.heap.size wc w1 := by
               refine below_next ?_ hq1
               repeat (first | with_reducible exact Below.refl _ _ | with_reducible assumption | with_reducible refine Below.drew ?_ | with_reducible refine belowA ?_ _))
          | (go_at_call 19
             refine (refRightPath_any _ _ _).mono ?_
             rintro e w1 ⟨rfl, hq1⟩
             have hb1 : Below wc.heap.size wc w1 := by
               refine below_next ?_ hq1
               repeat (first | with_reducible exact Below.refl _ _ | with_reducible assumption | with_reducible refine Below.drew ?_ | with_reducible refine belowA ?_ _))
          | (go_at_call 20
             refine (pathAtMost_any _ _ _ _ _).mono ?_
             rintro e w1 ⟨rfl, hq1⟩
             have hb1 : Below wc.heap.size wc w1 := by
               refine below_next ?_ hq1
               repeat (first | with_reducible exact Below.refl _ _ | with_reducible assumption | with_reducible refine Below.drew ?_ | with_reducible refine belowA ?_ _))
          | (go_at_call 21
             refine (refPathAtMost_any _ _ _ _ _).mono ?_
             rintro e w1 ⟨rfl, hq1⟩
             have hb1 : Below wc.heap.size wc w1 := by
               refine below_next ?_ hq1
               repeat (first | with_reducible exact Below.refl _ _ | with_reducible assumption | with_reducible refine Below.drew ?_ | with_reducible refine belowA ?_ _))))
      all_goals
        go_wp2_with fail
        go_ret
        exact ⟨by simp, below_next hbw hb1⟩
end Go.Proofs.YtmaahfcniedfhaaDoor
