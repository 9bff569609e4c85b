/- The document's functions on times, and stamp.Compare: what each computes. -/
import Derived.Test.YtmaahfcniedfhaaDoorStDigits
import Derived.Test.YtmaahfcniedfhaaDoorStPaths
namespace Go.Proofs.YtmaahfcniedfhaaDoor
open Go.RowKit
set_option linter.unusedSimpArgs false

def less (a b c d : Int) : Bool := decide (a < c ∨ a = c ∧ b < d)
set_option maxRecDepth 100000 in
set_option maxHeartbeats 400000 in
theorem refLess_any (a b c d : Int) (w : World) : Calls Tryd.prog 22 #[tm a b, tm c d] w (RetBool (less a b c d) w) := by
  go_enter Tryd.func22, Tryd.ntmps22
  go_wp2
  all_goals
    go_ret
    refine ⟨?_, belowA (belowA (Below.refl _ _) _) _⟩
    first
      | (simp [less]; omega)
      | (simp [less]; done)
      | (simp [less, *]; done)

set_option maxRecDepth 100000 in
set_option maxHeartbeats 400000 in
theorem refAtMost_any (a b c d : Int) (w : World) : Calls Tryd.prog 25 #[tm a b, tm c d] w (RetBool (decide (a ≤ c ∧ b ≤ d)) w) := by
  go_enter Tryd.func25, Tryd.ntmps25
  go_wp2
  all_goals
    go_ret
    refine ⟨?_, belowA (belowA (Below.refl _ _) _) _⟩
    first
      | (simp; omega)
      | (simp; done)
      | (simp [*]; done)
      | (simp; rw [Bool.eq_iff_iff]; simp; done)
      | (simp; rw [Bool.eq_iff_iff]; simp; omega)

set_option maxRecDepth 100000 in
set_option maxHeartbeats 400000 in
theorem refLow_any (a b c d : Int) (w : World) : Calls Tryd.prog 26 #[tm a b, tm c d] w (RetV (tm (min a c) (min b d)) w) := by
  by_cases h1 : c < a <;> by_cases h2 : d < b
  · rw [show min a c = c by omega, show min b d = d by omega]
    go_enter Tryd.func26, Tryd.ntmps26
    go_wp2
    exact bodyPost_ret (v := tm c d) (by simp [results, Tryd.results26, go_sem]) rfl ⟨rfl, by repeat (first | with_reducible exact Below.refl _ _ | with_reducible refine belowA ?_ _)⟩
  · rw [show min a c = c by omega, show min b d = b by omega]
    go_enter Tryd.func26, Tryd.ntmps26
    go_wp2
    exact bodyPost_ret (v := tm c b) (by simp [results, Tryd.results26, go_sem]) rfl ⟨rfl, by repeat (first | with_reducible exact Below.refl _ _ | with_reducible refine belowA ?_ _)⟩
  · rw [show min a c = a by omega, show min b d = d by omega]
    go_enter Tryd.func26, Tryd.ntmps26
    go_wp2
    exact bodyPost_ret (v := tm a d) (by simp [results, Tryd.results26, go_sem]) rfl ⟨rfl, by repeat (first | with_reducible exact Below.refl _ _ | with_reducible refine belowA ?_ _)⟩
  · rw [show min a c = a by omega, show min b d = b by omega]
    go_enter Tryd.func26, Tryd.ntmps26
    go_wp2
    exact bodyPost_ret (v := tm a b) (by simp [results, Tryd.results26, go_sem]) rfl ⟨rfl, by repeat (first | with_reducible exact Below.refl _ _ | with_reducible refine belowA ?_ _)⟩

set_option maxRecDepth 100000 in
set_option maxHeartbeats 400000 in
theorem refBoth_any (a b c d : Int) (w : World) : Calls Tryd.prog 27 #[tm a b, tm c d] w (RetV (tm (max a c) (max b d)) w) := by
  by_cases h1 : a < c <;> by_cases h2 : b < d
  · rw [show max a c = c by omega, show max b d = d by omega]
    go_enter Tryd.func27, Tryd.ntmps27
    go_wp2
    exact bodyPost_ret (v := tm c d) (by simp [results, Tryd.results27, go_sem]) rfl ⟨rfl, by repeat (first | with_reducible exact Below.refl _ _ | with_reducible refine belowA ?_ _)⟩
  · rw [show max a c = c by omega, show max b d = b by omega]
    go_enter Tryd.func27, Tryd.ntmps27
    go_wp2
    exact bodyPost_ret (v := tm c b) (by simp [results, Tryd.results27, go_sem]) rfl ⟨rfl, by repeat (first | with_reducible exact Below.refl _ _ | with_reducible refine belowA ?_ _)⟩
  · rw [show max a c = a by omega, show max b d = d by omega]
    go_enter Tryd.func27, Tryd.ntmps27
    go_wp2
    exact bodyPost_ret (v := tm a d) (by simp [results, Tryd.results27, go_sem]) rfl ⟨rfl, by repeat (first | with_reducible exact Below.refl _ _ | with_reducible refine belowA ?_ _)⟩
  · rw [show max a c = a by omega, show max b d = b by omega]
    go_enter Tryd.func27, Tryd.ntmps27
    go_wp2
    exact bodyPost_ret (v := tm a b) (by simp [results, Tryd.results27, go_sem]) rfl ⟨rfl, by repeat (first | with_reducible exact Below.refl _ _ | with_reducible refine belowA ?_ _)⟩

set_option maxRecDepth 100000 in
set_option maxHeartbeats 1000000 in
theorem text_any (x y : Int) (hx : fits x) (hy : fits y) (w : World) : Calls Tryd.prog 30 #[tm x y] w (RetV (.string ⟨(timeText x y).toArray⟩) w) := by
  rw [fits_iff] at hx hy
  have Hx := Lib.hid (digits_any _ x (Nat.lt_succ_self _) hx.1 hx.2)
  have Hy := Lib.hid (digits_any _ y (Nat.lt_succ_self _) hy.1 hy.2)
  clear hx hy
  go_enter Tryd.func30, Tryd.ntmps30
  go_wp2_with fail
  have c0 : (w.alloc (.cells #[.int .i64 x, .int .i64 y] 34)).cell? ⟨w.heap.size, 0, none⟩ = some (.int .i64 x) := by simp
  have c1 : (w.alloc (.cells #[.int .i64 x, .int .i64 y] 34)).cell? ⟨w.heap.size, 1, none⟩ = some (.int .i64 y) := by simp
  have hbw : Below w.heap.size w (w.alloc (.cells #[.int .i64 x, .int .i64 y] 34)) := belowA (Below.refl _ _) _
  generalize w.alloc (.cells #[.int .i64 x, .int .i64 y] 34) = wb at hbw c0 c1 ⊢
  have Hk := Lib.hid (fun W (h : Below wb.heap.size wb W) => And.intro (below_cell h c0) (below_cell h c1))
  go_region_held3 (fun w' => w'.cell? ⟨w.heap.size, 0, none⟩ = some (.int .i64 x) ∧ w'.cell? ⟨w.heap.size, 1, none⟩ = some (.int .i64 y))
    (first
      | (refine Hk.out _ ?_; (repeat (first | with_reducible exact Below.refl _ _ | with_reducible assumption | with_reducible refine Below.drew ?_)))
      | go_keep)
    ((first
      | (go_at_call 35
         refine (Hx.out _).mono ?_
         clear Hx
         rintro e w1 ⟨sx, hsx, hlx, rfl, rfl⟩
         have hx1 : ¬ (9223372036854775807 < sx.size + 1) := by omega
         have hx2 : ¬ (9223372036854775806 < sx.size) := by omega)
      | (go_at_call 35
         refine (Hy.out _).mono ?_
         rintro e w1 ⟨sy, hsy, hly, rfl, rfl⟩
         have hy1 : ¬ (9223372036854775807 < sx.size + 1 + sy.size) := by omega
         have hy2 : ¬ (9223372036854775807 < sx.size + sy.size + 1) := by omega)))
  go_wp2_with fail
  go_ret
  refine ⟨?_, (by repeat (first | with_reducible assumption | with_reducible refine Below.drew ?_))⟩
  have e1 := hsx.out
  have e2 := hsy.out
  subst e1 e2
  rw [ByteArray.mk_append_mk, ByteArray.mk_append_mk]
  simp [timeText]

set_option maxRecDepth 100000 in
set_option maxHeartbeats 1000000 in
theorem or_any (g : Nat) (p q : Int) (w : World) (h0 : w.cell? ⟨g, 0, none⟩ = some (.int .i64 p)) (h1 : w.cell? ⟨g, 1, none⟩ = some (.int .i64 q)) :
    Calls Tryd.prog 32 #[.slice (some ⟨g, 0, none⟩) 2 2] w (RetInt (if p = 0 then q else p) w) := by
  obtain ⟨r, hr⟩ : ∃ r, (if p = 0 then q else p) = r := ⟨_, rfl⟩
  rw [hr]
  have Hr := Lib.hid hr
  clear hr
  go_enter Tryd.func32, Tryd.ntmps32
  go_wp2_with fail
  go_loop [5, 8] (fun _ i => ∃ k : Nat, k ≤ 2 ∧ i = .int .i64 k ∧ Hid (1 ≤ k → p = 0) ∧ Hid (2 ≤ k → q = 0)) (fun _ i => 2 - (intOf i).toNat)
  case atStart => exact ⟨0, by omega, rfl, fun h => absurd h (by omega), fun h => absurd h (by omega)⟩
  case round =>
    obtain ⟨k, hk, rfl, hp, hq⟩ := hrel
    by_cases h2 : k = 2
    · subst h2
      have e : q = r := by have := Hr.out; rw [if_pos (hp.out (by omega))] at this; exact this
      have e' := hq.out (by omega)
      rw [e'] at e
      subst e
      go_wp2_with fail
      go_ret
      exact ⟨by simp, Below.refl _ _⟩
    · by_cases h0' : k = 0
      · subst h0'
        by_cases hp0 : p = 0
        · have HP := Lib.hid hp0
          go_wp2_with fail
          go_round
          case rel => exact ⟨1, by omega, by go_num, fun _ => HP.out, fun h => absurd h (by omega)⟩
          case measure => simp [intOf]
        · have e : p = r := by have := Hr.out; rw [if_neg hp0] at this; exact this
          subst e
          go_wp2_with fail
          go_ret
          exact ⟨by simp, Below.refl _ _⟩
      · obtain rfl : k = 1 := by omega
        have e : q = r := by have := Hr.out; rw [if_pos (hp.out (by omega))] at this; exact this
        subst e
        by_cases hq0 : q = 0
        · have HQ := Lib.hid hq0
          go_wp2_with fail
          go_round
          case rel => exact ⟨2, by omega, by go_num, fun _ => hp.out (by omega), fun _ => HQ.out⟩
          case measure => simp [intOf]
        · go_wp2_with fail
          go_ret
          exact ⟨by simp, Below.refl _ _⟩

def cmpT (a b c d : Int) : Int := if less c d a b then 1 else if less a b c d then -1 else 0
theorem cmpT_eq (a b c d : Int) : (if Lib.compareInt a c = 0 then Lib.compareInt b d else Lib.compareInt a c) = cmpT a b c d := by
  unfold cmpT less Lib.compareInt
  simp only [decide_eq_true_eq]
  repeat' split
  all_goals omega

set_option maxRecDepth 100000 in
set_option maxHeartbeats 1000000 in
theorem compare_any (a b c d : Int) (w : World) : Calls Tryd.prog 28 #[tm a b, tm c d] w (RetInt (cmpT a b c d) w) := by
  obtain ⟨p, hp⟩ : ∃ p, Lib.compareInt a c = p := ⟨_, rfl⟩
  obtain ⟨q, hq⟩ : ∃ q, Lib.compareInt b d = q := ⟨_, rfl⟩
  obtain ⟨r, hr⟩ : ∃ r, (if p = 0 then q else p) = r := ⟨_, rfl⟩
  have hC := Lib.hid (fun w => Tryd.cmp_Compare_int a c w)
  have hD := Lib.hid (fun w => Tryd.cmp_Compare_int b d w)
  rw [← cmpT_eq, hp, hq, hr]
  rw [hp] at hC
  rw [hq] at hD
  have hO := Lib.hid (fun g w => or_any g p q w)
  rw [hr] at hO
  clear hp hq hr
  go_enter Tryd.func28, Tryd.ntmps28
  go_wp2_with fail
  obtain ⟨c0, c1, c2, c3⟩ := box2 w 23 (.int .i64 a) (.int .i64 b) (.int .i64 c) (.int .i64 d)
  have hbw : Below w.heap.size w ((w.alloc (.cells #[.int .i64 a, .int .i64 b] 23)).alloc (.cells #[.int .i64 c, .int .i64 d] 23)) := belowA (belowA (Below.refl _ _) _) _
  generalize (w.alloc (.cells #[.int .i64 a, .int .i64 b] 23)).alloc (.cells #[.int .i64 c, .int .i64 d] 23) = wb at hbw c0 c1 c2 c3 ⊢
  have Hk := Lib.hid (fun W (h : Below wb.heap.size wb W) => And.intro (below_cell h c0) (And.intro (below_cell h c1) (And.intro (below_cell h c2) (below_cell h c3))))
  go_region_held3 (fun w' => w'.cell? ⟨w.heap.size, 0, none⟩ = some (.int .i64 a) ∧ w'.cell? ⟨w.heap.size, 1, none⟩ = some (.int .i64 b) ∧ w'.cell? ⟨w.heap.size + 1, 0, none⟩ = some (.int .i64 c) ∧ w'.cell? ⟨w.heap.size + 1, 1, none⟩ = some (.int .i64 d))
    (first
      | (refine Hk.out _ ?_; (repeat (first | with_reducible exact Below.refl _ _ | with_reducible assumption | with_reducible refine Below.drew ?_ | with_reducible refine belowA ?_ _)))
      | go_keep)
    ((first
      | (go_at_call 33
         refine (hC.out _).mono ?_
         clear hC
         rintro e w1 ⟨rfl, rfl⟩)
      | (go_at_call 33
         refine (hD.out _).mono ?_
         rintro e w1 ⟨rfl, rfl⟩)
      | (go_at_call 32
         refine (hO.out _ _ ?h0 ?h1).mono ?_
         case h0 => repeat (first | (refine newCell' (cs := [.int .i64 p, .int .i64 q]) ?_ rfl; simp only [World.size_alloc, World.size_drew]; done) | with_reducible refine cellA ?_ | with_reducible refine cellD ?_)
         case h1 => repeat (first | (refine newCell' (cs := [.int .i64 p, .int .i64 q]) ?_ rfl; simp only [World.size_alloc, World.size_drew]; done) | with_reducible refine cellA ?_ | with_reducible refine cellD ?_)
         rintro e w1 ⟨rfl, hq1⟩
         have hb1 : Below wb.heap.size wb w1 := by
           refine below_next ?_ hq1
           repeat (first | with_reducible exact Below.refl _ _ | with_reducible assumption | with_reducible refine Below.drew ?_ | with_reducible refine belowA ?_ _))))
  all_goals
    go_wp2_with fail
    go_ret
    exact ⟨by simp, below_next hbw hb1⟩
end Go.Proofs.YtmaahfcniedfhaaDoor
