/- StampOrders: the walk. -/
import Derived.Test.YtmaahfcniedfhaaDoorStTime
namespace Go.Proofs.YtmaahfcniedfhaaDoor
open Go.RowKit

theorem newCell (W : World) (t : TypeId) (cs : List Value) (i : Nat) (v : Value) (h : cs[i]? = some v) : (W.alloc (.cells cs.toArray t)).cell? ⟨W.heap.size, i, none⟩ = some v := by
  exact (cell_of_row _ _ i _ _ _ (heapNew (w := W) rfl)).trans (by simpa using h)
theorem newCell' {W : World} {t : TypeId} {cs : List Value} {i g : Nat} {v : Value} (hg : W.heap.size = g) (h : cs[i]? = some v) : (W.alloc (.cells cs.toArray t)).cell? ⟨g, i, none⟩ = some v := by
  subst hg; exact newCell W t cs i v h
theorem cellD {w : World} {a : Addr} {v : Value} (h : w.cell? a = some v) : w.drew.cell? a = some v := h
theorem box2 (w : World) (t : TypeId) (a b c d : Value) :
    ((w.alloc (.cells #[a, b] t)).alloc (.cells #[c, d] t)).cell? ⟨w.heap.size, 0, none⟩ = some a ∧
    ((w.alloc (.cells #[a, b] t)).alloc (.cells #[c, d] t)).cell? ⟨w.heap.size, 1, none⟩ = some b ∧
    ((w.alloc (.cells #[a, b] t)).alloc (.cells #[c, d] t)).cell? ⟨w.heap.size + 1, 0, none⟩ = some c ∧
    ((w.alloc (.cells #[a, b] t)).alloc (.cells #[c, d] t)).cell? ⟨w.heap.size + 1, 1, none⟩ = some d := by
  have h := fun (i : Nat) (v : Value) (h : [c, d][i]? = some v) => newCell (w.alloc (.cells #[a, b] t)) t [c, d] i v h
  rw [World.size_alloc] at h
  exact ⟨cellA (newCell w t [a, b] 0 _ rfl), cellA (newCell w t [a, b] 1 _ rfl), h 0 _ rfl, h 1 _ rfl⟩
theorem box3 (w : World) (t : TypeId) (a b c d e f : Value) (W : World) (hW : W = ((w.alloc (.cells #[a, b] t)).alloc (.cells #[c, d] t)).alloc (.cells #[e, f] t)) :
    W.cell? ⟨w.heap.size, 0, none⟩ = some a ∧ W.cell? ⟨w.heap.size, 1, none⟩ = some b ∧ W.cell? ⟨w.heap.size + 1, 0, none⟩ = some c ∧ W.cell? ⟨w.heap.size + 1, 1, none⟩ = some d ∧
      W.cell? ⟨w.heap.size + 1 + 1, 0, none⟩ = some e ∧ W.cell? ⟨w.heap.size + 1 + 1, 1, none⟩ = some f ∧ Below w.heap.size w W := by
  subst hW
  have h := fun (i : Nat) (v : Value) (h : [e, f][i]? = some v) => newCell ((w.alloc (.cells #[a, b] t)).alloc (.cells #[c, d] t)) t [e, f] i v h
  rw [World.size_alloc, World.size_alloc] at h
  obtain ⟨h0, h1, h2, h3⟩ := box2 w t a b c d
  exact ⟨cellA h0, cellA h1, cellA h2, cellA h3, h 0 _ rfl, h 1 _ rfl, belowA (belowA (belowA (Below.refl _ _) _) _) _⟩

/-- what the boxes of three times hold -/
structure Three (g0 g1 g2 : Nat) (a1 a2 b1 b2 d1 d2 : Int) (W : World) : Prop where
  c0 : W.cell? ⟨g0, 0, none⟩ = some (.int .i64 a1)
  c1 : W.cell? ⟨g0, 1, none⟩ = some (.int .i64 a2)
  c2 : W.cell? ⟨g1, 0, none⟩ = some (.int .i64 b1)
  c3 : W.cell? ⟨g1, 1, none⟩ = some (.int .i64 b2)
  c4 : W.cell? ⟨g2, 0, none⟩ = some (.int .i64 d1)
  c5 : W.cell? ⟨g2, 1, none⟩ = some (.int .i64 d2)
theorem Three.on {g0 g1 g2 : Nat} {a1 a2 b1 b2 d1 d2 : Int} {W W' : World} (h : Three g0 g1 g2 a1 a2 b1 b2 d1 d2 W) (hb : Below W.heap.size W W') : Three g0 g1 g2 a1 a2 b1 b2 d1 d2 W' :=
  ⟨below_cell hb h.1, below_cell hb h.2, below_cell hb h.3, below_cell hb h.4, below_cell hb h.5, below_cell hb h.6⟩
theorem Three.f4 {g0 g1 g2 : Nat} {a1 a2 b1 b2 d1 d2 : Int} {W : World} (h : Three g0 g1 g2 a1 a2 b1 b2 d1 d2 W) : W.cell? ⟨g0, 0, none⟩ = some (.int .i64 a1) ∧ W.cell? ⟨g0, 1, none⟩ = some (.int .i64 a2) ∧ W.cell? ⟨g1, 0, none⟩ = some (.int .i64 b1) ∧ W.cell? ⟨g1, 1, none⟩ = some (.int .i64 b2) :=
  ⟨h.1, h.2, h.3, h.4⟩
structure Two (g0 g1 : Nat) (a1 a2 b1 b2 : Int) (W : World) : Prop where
  e0 : W.cell? ⟨g0, 0, none⟩ = some (.int .i64 a1)
  e1 : W.cell? ⟨g0, 1, none⟩ = some (.int .i64 a2)
  e2 : W.cell? ⟨g1, 0, none⟩ = some (.int .i64 b1)
  e3 : W.cell? ⟨g1, 1, none⟩ = some (.int .i64 b2)
theorem Two.on {g0 g1 : Nat} {a1 a2 b1 b2 : Int} {W W' : World} (h : Two g0 g1 a1 a2 b1 b2 W) (hb : Below W.heap.size W W') : Two g0 g1 a1 a2 b1 b2 W' :=
  ⟨below_cell hb h.1, below_cell hb h.2, below_cell hb h.3, below_cell hb h.4⟩

set_option maxRecDepth 100000 in
set_option maxHeartbeats 4000000 in
theorem stampOrders_walk (a1 a2 b1 b2 d1 d2 : Int) (w : World) (h : TabW w) : Calls Tryd.prog 3 #[tm a1 a2, tm b1 b2, tm d1 d2] w (RetBool true w) := by
  have HT := Lib.hid h
  clear h
  go_enter Tryd.func3, Tryd.ntmps3
  go_wp2_with fail
  obtain ⟨c0, c1, c2, c3, c4, c5, hbw⟩ := box3 w 23 (.int .i64 a1) (.int .i64 a2) (.int .i64 b1) (.int .i64 b2) (.int .i64 d1) (.int .i64 d2) _ rfl
  generalize ((w.alloc (.cells #[.int .i64 a1, .int .i64 a2] 23)).alloc (.cells #[.int .i64 b1, .int .i64 b2] 23)).alloc (.cells #[.int .i64 d1, .int .i64 d2] 23) = wb at hbw c0 c1 c2 c3 c4 c5 ⊢
  have Hk := Lib.hid (fun W (h : Below wb.heap.size wb W) => Three.on (W' := W) ⟨c0, c1, c2, c3, c4, c5⟩ h)
  have hb := Below.refl wb.heap.size wb
  go_upto_region 3 with (first
    | (go_at_call 7
       refine (alive_any _ (HT.out.on (below_next hbw hb))).mono ?_
       rintro e w1 ⟨rfl, hq1⟩
       have hb := below_next hb hq1
       clear hq1 c0 c1 c2 c3 c4 c5
       obtain ⟨c0, c1, c2, c3, c4, c5⟩ := Hk.out _ hb))
  go_cut [45] (fun v45 W => v45 = .bool false ∧ Below wb.heap.size wb W)
  case first =>
    go_wp2_with (
      (go_at_call 8
       refine (atMost_any _ _ _ _ _).mono ?_
       rintro e w1 ⟨rfl, hq1⟩
       have hb := below_next hb hq1
       clear hq1 c0 c1 c2 c3 c4 c5
       obtain ⟨c0, c1, c2, c3, c4, c5⟩ := Hk.out _ hb))
    all_goals
      go_meet
      refine ⟨?_, hb⟩
      first
        | rfl
        | (simp; omega)
        | (simp; done)
  case rest =>
    obtain ⟨rfl, hb⟩ := hcut
    obtain ⟨c0, c1, c2, c3, c4, c5⟩ := Hk.out _ hb
    go_upto_region 5 with fail
    have hwc : Below w.heap.size w wc := below_next hbw hb
    have Hk := Lib.hid (fun W (h : Below wc.heap.size wc W) => Three.on (W' := W) ⟨c0, c1, c2, c3, c4, c5⟩ h)
    clear hb
    go_cut [7, 8] (fun v7 v8 W => ∃ g7 g8, v7 = .pointer (some ⟨g7, 0, none⟩) ∧ v8 = .pointer (some ⟨g8, 0, none⟩) ∧ Two g7 g8 (min a1 b1) (min a2 b2) (max a1 b1) (max a2 b2) W ∧ Below wc.heap.size wc W)
    case first =>
      go_region_held3 (fun w' => w'.cell? ⟨w.heap.size, 0, none⟩ = some (.int .i64 a1) ∧ w'.cell? ⟨w.heap.size, 1, none⟩ = some (.int .i64 a2) ∧ w'.cell? ⟨w.heap.size + 1, 0, none⟩ = some (.int .i64 b1) ∧ w'.cell? ⟨w.heap.size + 1, 1, none⟩ = some (.int .i64 b2))
        (first
          | (refine Three.f4 (Hk.out _ ?_); (repeat (first | with_reducible exact Below.refl _ _ | with_reducible assumption | with_reducible refine Below.drew ?_ | with_reducible refine belowA ?_ _ | with_reducible refine belowS ?_ _ _ (by first | exact Nat.le_refl _ | exact Below.size (by assumption) | exact Nat.le_succ_of_le (Below.size (by assumption)) | exact Nat.le_succ _ | exact Nat.le_succ_of_le (Nat.le_succ _)) _)))
          | go_keep)
        ((first
          | (go_at_call 9
             refine (least_at _ _ _ _ _).mono ?_
             rintro e w1 ⟨rfl, rfl⟩)
          | (go_at_call 10
             refine (greatest_at _ _ _ _ _).mono ?_
             rintro e w1 ⟨rfl, rfl⟩)))
      all_goals
        go_wp2_with fail
        go_meet
        refine ⟨_, _, rfl, rfl, ⟨cellD ?_, cellD ?_, cellD ?_, cellD ?_⟩, ?_⟩
        all_goals (repeat (first | with_reducible exact Below.refl _ _ | with_reducible refine Below.drew ?_ | with_reducible refine belowA ?_ _ | (refine newCell' ?_ rfl; simp only [World.size_alloc]; done) | with_reducible refine cellA ?_))
    case rest =>
      obtain ⟨g7, g8, rfl, rfl, h78, hb⟩ := hcut
      have hwc := below_next hwc hb
      obtain ⟨c0, c1, c2, c3, c4, c5⟩ := Hk.out _ hb
      obtain ⟨e0, e1, e2, e3⟩ := h78
      have Hk := Lib.hid (fun W (h : Below wc.heap.size wc W) => And.intro (Three.on (W' := W) ⟨c0, c1, c2, c3, c4, c5⟩ h) (Two.on (W' := W) ⟨e0, e1, e2, e3⟩ h))
      clear hb
      have hb := Below.refl wc.heap.size wc
      have hbc := hwc
      go_upto_region 6 with fail
      go_cut [73] (fun v W => v = .bool false ∧ Below wc.heap.size wc W)
      case first =>
        go_wp2_with (
        (go_at_call 8
         refine (atMost_any _ _ _ _ _).mono ?_
         rintro e w1 ⟨rfl, hq1⟩
         have hb := below_next hb hq1
         clear hq1 c0 c1 c2 c3 c4 c5 e0 e1 e2 e3
         obtain ⟨⟨c0, c1, c2, c3, c4, c5⟩, ⟨e0, e1, e2, e3⟩⟩ := Hk.out _ hb))
        all_goals
          go_meet
          refine ⟨?_, hb⟩
          first
            | rfl
            | (simp; omega)
            | (simp; done)
      case rest =>
        obtain ⟨rfl, hb2⟩ := hcut
        obtain ⟨⟨c0, c1, c2, c3, c4, c5⟩, ⟨e0, e1, e2, e3⟩⟩ := Hk.out _ hb2
        have hb := hb2
        go_upto_region 8 with fail
        go_cut [87] (fun v W => v = .bool false ∧ ∃ B : World, Below w.heap.size w B ∧ (∀ W', Below B.heap.size B W' → Three w.heap.size (w.heap.size + 1) (w.heap.size + 1 + 1) a1 a2 b1 b2 d1 d2 W' ∧ Two g7 g8 (min a1 b1) (min a2 b2) (max a1 b1) (max a2 b2) W') ∧ Below B.heap.size B W)
        case first =>
          go_wp2_with (
        (go_at_call 8
         refine (atMost_any _ _ _ _ _).mono ?_
         rintro e w1 ⟨rfl, hq1⟩
         have hb := below_next hb hq1
         clear hq1 c0 c1 c2 c3 c4 c5 e0 e1 e2 e3
         obtain ⟨⟨c0, c1, c2, c3, c4, c5⟩, ⟨e0, e1, e2, e3⟩⟩ := Hk.out _ hb))
          all_goals
            go_meet
            refine ⟨?_, _, hbc, Hk.out, hb⟩
            first
              | rfl
              | (simp; omega)
              | (simp; done)
        case rest =>
          obtain ⟨rfl, B, hbc, hk, hb⟩ := hcut
          have Hk := Lib.hid hk
          clear hk
          obtain ⟨⟨c0, c1, c2, c3, c4, c5⟩, ⟨e0, e1, e2, e3⟩⟩ := Hk.out _ hb
          go_wp2_with (
        (go_at_call 8
         refine (atMost_any _ _ _ _ _).mono ?_
         rintro e w1 ⟨rfl, hq1⟩
         have hb := below_next hb hq1
         clear hq1 c0 c1 c2 c3 c4 c5 e0 e1 e2 e3
         obtain ⟨⟨c0, c1, c2, c3, c4, c5⟩, ⟨e0, e1, e2, e3⟩⟩ := Hk.out _ hb))
          all_goals
            go_ret
            refine ⟨?_, below_next hbc hb⟩
            first
              | rfl
              | (simp; omega)
              | (simp; done)
end Go.Proofs.YtmaahfcniedfhaaDoor
