/- stamp.Path's methods and the document's: what each computes. -/
import Derived.Test.YtmaahfcniedfhaaDoorStTime
namespace Go.Proofs.YtmaahfcniedfhaaDoor
open Go.RowKit
set_option linter.unusedSimpArgs false

abbrev pv (a : Bool) (n : Int) : Value := .agg #[.bool a, .int .i64 n]
def inB (n : Int) : Bool := decide (0 ≤ n ∧ n ≤ 1048576)

set_option maxRecDepth 100000 in
set_option maxHeartbeats 400000 in
theorem rightPath_at (a : Bool) (n : Int) (w : World) : Calls Tryd.prog 18 #[pv a n] w (fun e w' => e = .returned (.bool (inB n)) ∧ w' = w.alloc (.cells #[.bool a, .int .i64 n] 29)) := by
  go_enter Tryd.func18, Tryd.ntmps18
  go_wp2
  all_goals
    go_ret
    refine ⟨?_, rfl⟩
    first
      | (simp [inB]; omega)
      | (simp [inB]; done)
      | (simp [inB, *]; done)
theorem rightPath_any (a : Bool) (n : Int) (w : World) : Calls Tryd.prog 18 #[pv a n] w (RetBool (inB n) w) :=
  (rightPath_at a n w).mono fun e w' ⟨h, h2⟩ => ⟨h, by subst h2; exact belowA (Below.refl _ _) _⟩

set_option maxRecDepth 100000 in
set_option maxHeartbeats 400000 in
theorem right_at (a n : Int) (w : World) : Calls Tryd.prog 23 #[tm a n] w (fun e w' => e = .returned (.bool (inB a && inB n)) ∧ w' = w.alloc (.cells #[.int .i64 a, .int .i64 n] 23)) := by
  go_enter Tryd.func23, Tryd.ntmps23
  go_wp2
  all_goals
    go_ret
    refine ⟨?_, rfl⟩
    first
      | (simp [inB]; omega)
      | (simp [inB]; done)
      | (simp [inB, *]; done)
theorem right_any (a n : Int) (w : World) : Calls Tryd.prog 23 #[tm a n] w (RetBool (inB a && inB n) w) :=
  (right_at a n w).mono fun e w' ⟨h, h2⟩ => ⟨h, by subst h2; exact belowA (Below.refl _ _) _⟩

set_option maxRecDepth 100000 in
set_option maxHeartbeats 400000 in
theorem refRightPath_at (a : Bool) (n : Int) (w : World) : Calls Tryd.prog 19 #[pv a n] w (fun e w' => e = .returned (.bool (inB n)) ∧ w' = w.alloc (.cells #[.bool a, .int .i64 n] 37)) := by
  go_enter Tryd.func19, Tryd.ntmps19
  go_wp2
  all_goals
    go_ret
    refine ⟨?_, rfl⟩
    first
      | (simp [inB]; omega)
      | (simp [inB]; done)
      | (simp [inB, *]; done)
theorem refRightPath_any (a : Bool) (n : Int) (w : World) : Calls Tryd.prog 19 #[pv a n] w (RetBool (inB n) w) :=
  (refRightPath_at a n w).mono fun e w' ⟨h, h2⟩ => ⟨h, by subst h2; exact belowA (Below.refl _ _) _⟩

set_option maxRecDepth 100000 in
set_option maxHeartbeats 400000 in
theorem refRight_at (a n : Int) (w : World) : Calls Tryd.prog 24 #[tm a n] w (fun e w' => e = .returned (.bool (inB a && inB n)) ∧ w' = w.alloc (.cells #[.int .i64 a, .int .i64 n] 34)) := by
  go_enter Tryd.func24, Tryd.ntmps24
  go_wp2
  all_goals
    go_ret
    refine ⟨?_, rfl⟩
    first
      | (simp [inB]; omega)
      | (simp [inB]; done)
      | (simp [inB, *]; done)
theorem refRight_any (a n : Int) (w : World) : Calls Tryd.prog 24 #[tm a n] w (RetBool (inB a && inB n) w) :=
  (refRight_at a n w).mono fun e w' ⟨h, h2⟩ => ⟨h, by subst h2; exact belowA (Below.refl _ _) _⟩

set_option maxRecDepth 100000 in
set_option maxHeartbeats 400000 in
theorem pathAtMost_any (a b : Bool) (m n : Int) (w : World) : Calls Tryd.prog 20 #[pv a m, pv b n] w (RetBool ((a || !b) && decide (m ≤ n)) w) := by
  cases a <;> cases b
  all_goals
    go_enter Tryd.func20, Tryd.ntmps20
    go_wp2
  all_goals
    go_ret
    exact ⟨by simp, belowA (belowA (Below.refl _ _) _) _⟩

set_option maxRecDepth 100000 in
set_option maxHeartbeats 400000 in
theorem refPathAtMost_any (a b : Bool) (m n : Int) (w : World) : Calls Tryd.prog 21 #[pv a m, pv b n] w (RetBool ((a || !b) && decide (m ≤ n)) w) := by
  cases a <;> cases b
  all_goals
    go_enter Tryd.func21, Tryd.ntmps21
    go_wp2
  all_goals
    go_ret
    exact ⟨by simp, belowA (belowA (Below.refl _ _) _) _⟩

set_option maxRecDepth 100000 in
set_option maxHeartbeats 400000 in
theorem lawPath_at (a : Bool) (n : Int) (w : World) : Calls Tryd.prog 13 #[pv a n] w (fun e w' => e = .returned (pv a n) ∧ w' = (w.alloc (.cells #[.bool a, .int .i64 n] 29)).alloc (.cells #[.bool a, .int .i64 n] 37)) := by
  go_enter Tryd.func13, Tryd.ntmps13
  go_wp2
  exact bodyPost_ret (v := pv a n) (by simp [results, Tryd.results13, go_sem]) rfl ⟨rfl, rfl⟩
theorem lawPath_any (a : Bool) (n : Int) (w : World) : Calls Tryd.prog 13 #[pv a n] w (RetV (pv a n) w) :=
  (lawPath_at a n w).mono fun e w' ⟨h, h2⟩ => ⟨h, by subst h2; exact belowA (belowA (Below.refl _ _) _) _⟩

set_option maxRecDepth 100000 in
set_option maxHeartbeats 400000 in
theorem lawTime_at (a n : Int) (w : World) : Calls Tryd.prog 14 #[tm a n] w (fun e w' => e = .returned (tm a n) ∧ w' = (w.alloc (.cells #[.int .i64 a, .int .i64 n] 23)).alloc (.cells #[.int .i64 a, .int .i64 n] 34)) := by
  go_enter Tryd.func14, Tryd.ntmps14
  go_wp2
  exact bodyPost_ret (v := tm a n) (by simp [results, Tryd.results14, go_sem]) rfl ⟨rfl, rfl⟩
theorem lawTime_any (a n : Int) (w : World) : Calls Tryd.prog 14 #[tm a n] w (RetV (tm a n) w) :=
  (lawTime_at a n w).mono fun e w' ⟨h, h2⟩ => ⟨h, by subst h2; exact belowA (belowA (Below.refl _ _) _) _⟩

/-- what a path makes of a time: the time, the number of the error -/
def ofF (a : Bool) (n e r : Int) : Int × Int × Int :=
  if (inB n && (inB e && inB r)) = false then (0, 0, 2)
  else if inB (if a then n else n + r) = false then (0, 0, 1)
  else (e, if a then n else n + r, 0)
/-- two paths as one -/
def thenF (a b : Bool) (m n : Int) : Bool × Int × Int :=
  if (inB m && inB n) = false then (false, 0, 2)
  else if b then (b, n, 0)
  else if inB (m + n) = false then (false, 0, 1)
  else (a, m + n, 0)
def RetOf (x : Int × Int × Int) (w : World) (e : Ending) (w' : World) : Prop := e = .returned (.tuple #[tm x.1 x.2.1, errV 58 x.2.2]) ∧ Below w.heap.size w w'
def RetRefOf (x : Int × Int × Int) (w : World) (e : Ending) (w' : World) : Prop := e = .returned (.tuple #[tm x.1 x.2.1, .int .i64 x.2.2]) ∧ Below w.heap.size w w'
def RetThen (x : Bool × Int × Int) (w : World) (e : Ending) (w' : World) : Prop := e = .returned (.tuple #[pv x.1 x.2.1, errV 58 x.2.2]) ∧ Below w.heap.size w w'
def RetRefThen (x : Bool × Int × Int) (w : World) (e : Ending) (w' : World) : Prop := e = .returned (.tuple #[pv x.1 x.2.1, .int .i64 x.2.2]) ∧ Below w.heap.size w w'

theorem inB_cases (n : Int) : (inB n = true ∧ 0 ≤ n ∧ n ≤ 1048576) ∨ (inB n = false ∧ ¬ (0 ≤ n ∧ n ≤ 1048576)) := by
  by_cases h : 0 ≤ n ∧ n ≤ 1048576
  · exact .inl ⟨by simp [inB, h], h⟩
  · exact .inr ⟨by simp only [inB, decide_eq_false_iff_not]; exact h, h⟩

set_option maxRecDepth 100000 in
set_option maxHeartbeats 1000000 in
theorem of_any (a : Bool) (n e r : Int) (w : World) : Calls Tryd.prog 11 #[pv a n, tm e r] w (RetOf (ofF a n e r) w) := by
  rcases inB_cases n with ⟨h1, n1, n2⟩ | ⟨h1, n1⟩
  · cases h2 : (inB e && inB r) with
    | false =>
      clear n1 n2
      go_enter Tryd.func11, Tryd.ntmps11
      go_wp2_with (first
          | (go_at_call 18
             refine (rightPath_at _ _ _).mono ?_
             rintro e w1 ⟨rfl, rfl⟩)
          | (go_at_call 23
             refine (right_at _ _ _).mono ?_
             rintro e w1 ⟨rfl, rfl⟩))
      exact bodyPost_ret (v := .tuple #[tm 0 0, .iface 58 (.int .i64 2)]) (by simp [results, Tryd.results11, go_sem]) rfl ⟨by simp [ofF, errV, h1, h2], (by repeat (first | with_reducible exact Below.refl _ _ | with_reducible refine belowA ?_ _))⟩
    | true =>
      have h3 : inB e = true ∧ inB r = true := by simpa using h2
      obtain ⟨h3, h4⟩ := h3
      rcases inB_cases r with ⟨_, r1, r2⟩ | ⟨h5, _⟩
      · have hw : wrap64 (n + r) = n + r := by unfold wrap64; omega
        have hw' : wrap64 (r + n) = n + r := by rw [Int.add_comm]; exact hw
        cases a with
        | true =>
          have hg : ¬ (1048576 < n) := by omega
          have hz : wrap64 (0 + n) = n := by unfold wrap64; omega
          have hz' : wrap64 n = n := by unfold wrap64; omega
          clear hw hw' r1 r2 n1 n2
          go_enter Tryd.func11, Tryd.ntmps11
          go_wp2_with (first
              | (go_at_call 18
                 refine (rightPath_at _ _ _).mono ?_
                 rintro e w1 ⟨rfl, rfl⟩)
              | (go_at_call 23
                 refine (right_at _ _ _).mono ?_
                 rintro e w1 ⟨rfl, rfl⟩))
          exact bodyPost_ret (v := .tuple #[tm e n, .nilIface]) (by simp [results, Tryd.results11, go_sem]) rfl ⟨by simp [ofF, errV, h1, h2, h3, h4], (by repeat (first | with_reducible exact Below.refl _ _ | with_reducible refine belowA ?_ _))⟩
        | false =>
          rcases inB_cases (n + r) with ⟨h5, s1, s2⟩ | ⟨h5, s1⟩
          · have hg : ¬ (1048576 < n + r) := by omega
            clear s1 s2 r1 r2 n1 n2
            go_enter Tryd.func11, Tryd.ntmps11
            go_wp2_with (first
                | (go_at_call 18
                   refine (rightPath_at _ _ _).mono ?_
                   rintro e w1 ⟨rfl, rfl⟩)
                | (go_at_call 23
                   refine (right_at _ _ _).mono ?_
                   rintro e w1 ⟨rfl, rfl⟩))
            exact bodyPost_ret (v := .tuple #[tm e (n + r), .nilIface]) (by simp [results, Tryd.results11, go_sem]) rfl ⟨by simp [ofF, errV, h1, h2, h3, h4, h5], (by repeat (first | with_reducible exact Below.refl _ _ | with_reducible refine belowA ?_ _))⟩
          · have hg : 1048576 < n + r := by omega
            clear s1 r1 r2 n1 n2
            go_enter Tryd.func11, Tryd.ntmps11
            go_wp2_with (first
                | (go_at_call 18
                   refine (rightPath_at _ _ _).mono ?_
                   rintro e w1 ⟨rfl, rfl⟩)
                | (go_at_call 23
                   refine (right_at _ _ _).mono ?_
                   rintro e w1 ⟨rfl, rfl⟩))
            exact bodyPost_ret (v := .tuple #[tm 0 0, .iface 58 (.int .i64 1)]) (by simp [results, Tryd.results11, go_sem]) rfl ⟨by simp [ofF, errV, h1, h2, h3, h4, h5], (by repeat (first | with_reducible exact Below.refl _ _ | with_reducible refine belowA ?_ _))⟩
      · rw [h4] at h5; cases h5
  · clear n1
    go_enter Tryd.func11, Tryd.ntmps11
    go_wp2_with (first
        | (go_at_call 18
           refine (rightPath_at _ _ _).mono ?_
           rintro e w1 ⟨rfl, rfl⟩)
        | (go_at_call 23
           refine (right_at _ _ _).mono ?_
           rintro e w1 ⟨rfl, rfl⟩))
    exact bodyPost_ret (v := .tuple #[tm 0 0, .iface 58 (.int .i64 2)]) (by simp [results, Tryd.results11, go_sem]) rfl ⟨by simp [ofF, errV, h1], (by repeat (first | with_reducible exact Below.refl _ _ | with_reducible refine belowA ?_ _))⟩

set_option maxRecDepth 100000 in
set_option maxHeartbeats 1000000 in
theorem refOf_any (a : Bool) (n e r : Int) (w : World) : Calls Tryd.prog 12 #[pv a n, tm e r] w (RetRefOf (ofF a n e r) w) := by
  rcases inB_cases n with ⟨h1, n1, n2⟩ | ⟨h1, n1⟩
  · cases h2 : (inB e && inB r) with
    | false =>
      clear n1 n2
      go_enter Tryd.func12, Tryd.ntmps12
      go_wp2_with (first
          | (go_at_call 19
             refine (refRightPath_at _ _ _).mono ?_
             rintro e w1 ⟨rfl, rfl⟩)
          | (go_at_call 24
             refine (refRight_at _ _ _).mono ?_
             rintro e w1 ⟨rfl, rfl⟩))
      exact bodyPost_ret (v := .tuple #[tm 0 0, .int .i64 2]) (by simp [results, Tryd.results12, go_sem]) rfl ⟨by simp [ofF, errV, h1, h2], (by repeat (first | with_reducible exact Below.refl _ _ | with_reducible refine belowA ?_ _))⟩
    | true =>
      have h3 : inB e = true ∧ inB r = true := by simpa using h2
      obtain ⟨h3, h4⟩ := h3
      rcases inB_cases r with ⟨_, r1, r2⟩ | ⟨h5, _⟩
      · have hw : wrap64 (n + r) = n + r := by unfold wrap64; omega
        have hw' : wrap64 (r + n) = n + r := by rw [Int.add_comm]; exact hw
        cases a with
        | true =>
          have hg : ¬ (1048576 < n) := by omega
          have hz : wrap64 (0 + n) = n := by unfold wrap64; omega
          have hz' : wrap64 n = n := by unfold wrap64; omega
          clear hw hw' r1 r2 n1 n2
          go_enter Tryd.func12, Tryd.ntmps12
          go_wp2_with (first
              | (go_at_call 19
                 refine (refRightPath_at _ _ _).mono ?_
                 rintro e w1 ⟨rfl, rfl⟩)
              | (go_at_call 24
                 refine (refRight_at _ _ _).mono ?_
                 rintro e w1 ⟨rfl, rfl⟩))
          exact bodyPost_ret (v := .tuple #[tm e n, .int .i64 0]) (by simp [results, Tryd.results12, go_sem]) rfl ⟨by simp [ofF, errV, h1, h2, h3, h4], (by repeat (first | with_reducible exact Below.refl _ _ | with_reducible refine belowA ?_ _))⟩
        | false =>
          rcases inB_cases (n + r) with ⟨h5, s1, s2⟩ | ⟨h5, s1⟩
          · have hg : ¬ (1048576 < n + r) := by omega
            clear s1 s2 r1 r2 n1 n2
            go_enter Tryd.func12, Tryd.ntmps12
            go_wp2_with (first
                | (go_at_call 19
                   refine (refRightPath_at _ _ _).mono ?_
                   rintro e w1 ⟨rfl, rfl⟩)
                | (go_at_call 24
                   refine (refRight_at _ _ _).mono ?_
                   rintro e w1 ⟨rfl, rfl⟩))
            exact bodyPost_ret (v := .tuple #[tm e (n + r), .int .i64 0]) (by simp [results, Tryd.results12, go_sem]) rfl ⟨by simp [ofF, errV, h1, h2, h3, h4, h5], (by repeat (first | with_reducible exact Below.refl _ _ | with_reducible refine belowA ?_ _))⟩
          · have hg : 1048576 < n + r := by omega
            clear s1 r1 r2 n1 n2
            go_enter Tryd.func12, Tryd.ntmps12
            go_wp2_with (first
                | (go_at_call 19
                   refine (refRightPath_at _ _ _).mono ?_
                   rintro e w1 ⟨rfl, rfl⟩)
                | (go_at_call 24
                   refine (refRight_at _ _ _).mono ?_
                   rintro e w1 ⟨rfl, rfl⟩))
            exact bodyPost_ret (v := .tuple #[tm 0 0, .int .i64 1]) (by simp [results, Tryd.results12, go_sem]) rfl ⟨by simp [ofF, errV, h1, h2, h3, h4, h5], (by repeat (first | with_reducible exact Below.refl _ _ | with_reducible refine belowA ?_ _))⟩
      · rw [h4] at h5; cases h5
  · clear n1
    go_enter Tryd.func12, Tryd.ntmps12
    go_wp2_with (first
        | (go_at_call 19
           refine (refRightPath_at _ _ _).mono ?_
           rintro e w1 ⟨rfl, rfl⟩)
        | (go_at_call 24
           refine (refRight_at _ _ _).mono ?_
           rintro e w1 ⟨rfl, rfl⟩))
    exact bodyPost_ret (v := .tuple #[tm 0 0, .int .i64 2]) (by simp [results, Tryd.results12, go_sem]) rfl ⟨by simp [ofF, errV, h1], (by repeat (first | with_reducible exact Below.refl _ _ | with_reducible refine belowA ?_ _))⟩

set_option maxRecDepth 100000 in
set_option maxHeartbeats 1000000 in
theorem then_any (a b : Bool) (m n : Int) (w : World) : Calls Tryd.prog 15 #[pv a m, pv b n] w (RetThen (thenF a b m n) w) := by
  rcases inB_cases m with ⟨h1, m1, m2⟩ | ⟨h1, m1⟩
  · rcases inB_cases n with ⟨h2, n1, n2⟩ | ⟨h2, n1⟩
    · cases b with
      | true =>
        clear m1 m2 n1 n2
        go_enter Tryd.func15, Tryd.ntmps15
        go_wp2_with (first
            | (go_at_call 18
               refine (rightPath_at _ _ _).mono ?_
               rintro e w1 ⟨rfl, rfl⟩))
        exact bodyPost_ret (v := .tuple #[pv true n, .nilIface]) (by simp [results, Tryd.results15, go_sem]) rfl ⟨by simp [thenF, errV, h1, h2], (by repeat (first | with_reducible exact Below.refl _ _ | with_reducible refine belowA ?_ _))⟩
      | false =>
        have hw : wrap64 (m + n) = m + n := by unfold wrap64; omega
        rcases inB_cases (m + n) with ⟨h5, s1, s2⟩ | ⟨h5, s1⟩
        · have hg : ¬ (1048576 < m + n) := by omega
          clear s1 s2 m1 m2 n1 n2
          go_enter Tryd.func15, Tryd.ntmps15
          go_wp2_with (first
              | (go_at_call 18
                 refine (rightPath_at _ _ _).mono ?_
                 rintro e w1 ⟨rfl, rfl⟩))
          exact bodyPost_ret (v := .tuple #[pv a (m + n), .nilIface]) (by simp [results, Tryd.results15, go_sem]) rfl ⟨by simp [thenF, errV, h1, h2, h5], (by repeat (first | with_reducible exact Below.refl _ _ | with_reducible refine belowA ?_ _))⟩
        · have hg : 1048576 < m + n := by omega
          clear s1 m1 m2 n1 n2
          go_enter Tryd.func15, Tryd.ntmps15
          go_wp2_with (first
              | (go_at_call 18
                 refine (rightPath_at _ _ _).mono ?_
                 rintro e w1 ⟨rfl, rfl⟩))
          exact bodyPost_ret (v := .tuple #[pv false 0, .iface 58 (.int .i64 1)]) (by simp [results, Tryd.results15, go_sem]) rfl ⟨by simp [thenF, errV, h1, h2, h5], (by repeat (first | with_reducible exact Below.refl _ _ | with_reducible refine belowA ?_ _))⟩
    · clear m1 m2 n1
      go_enter Tryd.func15, Tryd.ntmps15
      go_wp2_with (first
          | (go_at_call 18
             refine (rightPath_at _ _ _).mono ?_
             rintro e w1 ⟨rfl, rfl⟩))
      exact bodyPost_ret (v := .tuple #[pv false 0, .iface 58 (.int .i64 2)]) (by simp [results, Tryd.results15, go_sem]) rfl ⟨by simp [thenF, errV, h1, h2], (by repeat (first | with_reducible exact Below.refl _ _ | with_reducible refine belowA ?_ _))⟩
  · clear m1
    go_enter Tryd.func15, Tryd.ntmps15
    go_wp2_with (first
        | (go_at_call 18
           refine (rightPath_at _ _ _).mono ?_
           rintro e w1 ⟨rfl, rfl⟩))
    exact bodyPost_ret (v := .tuple #[pv false 0, .iface 58 (.int .i64 2)]) (by simp [results, Tryd.results15, go_sem]) rfl ⟨by simp [thenF, errV, h1], (by repeat (first | with_reducible exact Below.refl _ _ | with_reducible refine belowA ?_ _))⟩

set_option maxRecDepth 100000 in
set_option maxHeartbeats 1000000 in
theorem refThen_any (a b : Bool) (m n : Int) (w : World) : Calls Tryd.prog 16 #[pv a m, pv b n] w (RetRefThen (thenF a b m n) w) := by
  rcases inB_cases m with ⟨h1, m1, m2⟩ | ⟨h1, m1⟩
  · rcases inB_cases n with ⟨h2, n1, n2⟩ | ⟨h2, n1⟩
    · cases b with
      | true =>
        clear m1 m2 n1 n2
        go_enter Tryd.func16, Tryd.ntmps16
        go_wp2_with (first
            | (go_at_call 19
               refine (refRightPath_at _ _ _).mono ?_
               rintro e w1 ⟨rfl, rfl⟩))
        exact bodyPost_ret (v := .tuple #[pv true n, .int .i64 0]) (by simp [results, Tryd.results16, go_sem]) rfl ⟨by simp [thenF, errV, h1, h2], (by repeat (first | with_reducible exact Below.refl _ _ | with_reducible refine belowA ?_ _))⟩
      | false =>
        have hw : wrap64 (m + n) = m + n := by unfold wrap64; omega
        rcases inB_cases (m + n) with ⟨h5, s1, s2⟩ | ⟨h5, s1⟩
        · have hg : ¬ (1048576 < m + n) := by omega
          clear s1 s2 m1 m2 n1 n2
          go_enter Tryd.func16, Tryd.ntmps16
          go_wp2_with (first
              | (go_at_call 19
                 refine (refRightPath_at _ _ _).mono ?_
                 rintro e w1 ⟨rfl, rfl⟩))
          exact bodyPost_ret (v := .tuple #[pv a (m + n), .int .i64 0]) (by simp [results, Tryd.results16, go_sem]) rfl ⟨by simp [thenF, errV, h1, h2, h5], (by repeat (first | with_reducible exact Below.refl _ _ | with_reducible refine belowA ?_ _))⟩
        · have hg : 1048576 < m + n := by omega
          clear s1 m1 m2 n1 n2
          go_enter Tryd.func16, Tryd.ntmps16
          go_wp2_with (first
              | (go_at_call 19
                 refine (refRightPath_at _ _ _).mono ?_
                 rintro e w1 ⟨rfl, rfl⟩))
          exact bodyPost_ret (v := .tuple #[pv false 0, .int .i64 1]) (by simp [results, Tryd.results16, go_sem]) rfl ⟨by simp [thenF, errV, h1, h2, h5], (by repeat (first | with_reducible exact Below.refl _ _ | with_reducible refine belowA ?_ _))⟩
    · clear m1 m2 n1
      go_enter Tryd.func16, Tryd.ntmps16
      go_wp2_with (first
          | (go_at_call 19
             refine (refRightPath_at _ _ _).mono ?_
             rintro e w1 ⟨rfl, rfl⟩))
      exact bodyPost_ret (v := .tuple #[pv false 0, .int .i64 2]) (by simp [results, Tryd.results16, go_sem]) rfl ⟨by simp [thenF, errV, h1, h2], (by repeat (first | with_reducible exact Below.refl _ _ | with_reducible refine belowA ?_ _))⟩
  · clear m1
    go_enter Tryd.func16, Tryd.ntmps16
    go_wp2_with (first
        | (go_at_call 19
           refine (refRightPath_at _ _ _).mono ?_
           rintro e w1 ⟨rfl, rfl⟩))
    exact bodyPost_ret (v := .tuple #[pv false 0, .int .i64 2]) (by simp [results, Tryd.results16, go_sem]) rfl ⟨by simp [thenF, errV, h1], (by repeat (first | with_reducible exact Below.refl _ _ | with_reducible refine belowA ?_ _))⟩

set_option maxRecDepth 100000 in
set_option maxHeartbeats 400000 in
theorem num_any (n : Int) (w : World) : Calls Tryd.prog 17 #[errV 58 n] w (RetInt n w) := by
  by_cases h : n = 0
  · subst h
    simp only [errV, if_true]
    go_enter Tryd.func17, Tryd.ntmps17
    go_wp2
    go_ret
    exact ⟨rfl, Below.refl _ _⟩
  · simp only [errV, if_neg h]
    have h1 : ((n : Int) != 0) = true := by simp [h]
    have ta : ∀ w, (Instr.typeAssert (.iface 58 (.int .i64 n)) 31 58 true).run Tryd.prog w = .ok (.tuple #[.int .i64 n, .bool true]) w := fun _ => by kernel_rfl
    clear h
    go_enter Tryd.func17, Tryd.ntmps17
    go_wp2
    go_ret
    exact ⟨rfl, Below.refl _ _⟩

end Go.Proofs.YtmaahfcniedfhaaDoor
