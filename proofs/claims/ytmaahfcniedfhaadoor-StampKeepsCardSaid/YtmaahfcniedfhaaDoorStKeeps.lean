/- StampKeeps: the walk. -/
import Derived.Test.YtmaahfcniedfhaaDoorStPaths
namespace Go.Proofs.YtmaahfcniedfhaaDoor
open Go.RowKit
set_option linter.unusedSimpArgs false

theorem ofF_cases (a : Bool) (n e r : Int) : (∃ s, s = (if a then n else n + r) ∧ inB n = true ∧ inB e = true ∧ inB r = true ∧ inB s = true ∧ ofF a n e r = (e, s, 0)) ∨ (∃ k, k ≠ 0 ∧ ofF a n e r = (0, 0, k)) := by
  unfold ofF
  by_cases h1 : (inB n && (inB e && inB r)) = false
  · right; rw [if_pos h1]; exact ⟨2, by decide, rfl⟩
  · rw [if_neg h1]
    by_cases h2 : inB (if a then n else n + r) = false
    · right; rw [if_pos h2]; exact ⟨1, by decide, rfl⟩
    · left; rw [if_neg h2]
      simp only [Bool.not_eq_false, Bool.and_eq_true] at h1 h2
      exact ⟨_, rfl, h1.1, h1.2.1, h1.2.2, h2, rfl⟩
theorem thenF_cases (a b : Bool) (m n : Int) (hm : inB m = true) (hn : inB n = true) : (∃ c s, c = (if b then b else a) ∧ s = (if b then n else m + n) ∧ inB s = true ∧ thenF a b m n = (c, s, 0)) ∨ (∃ k, k ≠ 0 ∧ thenF a b m n = (false, 0, k)) := by
  unfold thenF
  have hg : (inB m && inB n) = true := by simp [hm, hn]
  rw [hg, if_neg (show ¬ ((true : Bool) = false) by decide)]
  cases b with
  | true => left; exact ⟨true, n, rfl, rfl, hn, rfl⟩
  | false =>
    by_cases h2 : inB (m + n) = false
    · right; simp only [Bool.false_eq_true, if_false]; rw [if_pos h2]; exact ⟨1, by decide, rfl⟩
    · left; simp only [Bool.false_eq_true, if_false]; rw [if_neg h2]; exact ⟨a, _, rfl, rfl, by simpa using h2, rfl⟩
theorem inB_iff (n : Int) : inB n = true ↔ 0 ≤ n ∧ n ≤ 1048576 := by simp [inB]
theorem err0 : errV 58 0 = .nilIface := rfl
theorem err1 {k : Int} (h : k ≠ 0) : errV 58 k = .iface 58 (.int .i64 k) := if_neg h

/-- two times in one box -/
def Box4 (W : World) (g : Nat) (a b c d : Value) : Prop := W.cell? ⟨g, 0, none⟩ = some a ∧ W.cell? ⟨g, 1, none⟩ = some b ∧ W.cell? ⟨g, 2, none⟩ = some c ∧ W.cell? ⟨g, 3, none⟩ = some d
theorem Box4.on {W W' : World} {g : Nat} {a b c d : Value} (h : Box4 W g a b c d) (hb : Below W.heap.size W W') : Box4 W' g a b c d := ⟨below_cell hb h.1, below_cell hb h.2.1, below_cell hb h.2.2.1, below_cell hb h.2.2.2⟩
theorem Box4.old {W : World} {g : Nat} {a b c d : Value} (h : Box4 W g a b c d) (o : Obj) : Box4 (W.alloc o) g a b c d := ⟨cellA h.1, cellA h.2.1, cellA h.2.2.1, cellA h.2.2.2⟩
theorem boxesK (w : World) (t t' t'' : TypeId) (a b c d e f g h : Value) (W : World) (hW : W = ((w.alloc (.cells #[a, b] t)).alloc (.cells #[c, d] t')).alloc (.cells #[e, f, g, h] t'')) :
    Box W w.heap.size a b ∧ Box W (w.heap.size + 1) c d ∧ Box4 W (w.heap.size + 1 + 1) e f g h ∧ Below w.heap.size w W := by
  subst hW
  have h2 := Box.new (w.alloc (.cells #[a, b] t)) t' c d
  have h3 := fun (i : Nat) (v : Value) (hv : [e, f, g, h][i]? = some v) => newCell ((w.alloc (.cells #[a, b] t)).alloc (.cells #[c, d] t')) t'' [e, f, g, h] i v hv
  simp only [World.size_alloc] at h2 h3
  exact ⟨((Box.new w t a b).old _).old _, h2.old _, ⟨h3 0 _ rfl, h3 1 _ rfl, h3 2 _ rfl, h3 3 _ rfl⟩, belowA (belowA (belowA (Below.refl _ _) _) _) _⟩

set_option maxRecDepth 100000 in
set_option maxHeartbeats 8000000 in
theorem stampKeeps_walk (a b : Bool) (m n e r e' r' : Int) (w : World) (h : TabW w) : Calls Tryd.prog 5 #[pv a m, pv b n, .agg #[.int .i64 e, .int .i64 r, .int .i64 e', .int .i64 r']] w (RetBool true w) := by
  have HT := Lib.hid h
  clear h
  go_enter Tryd.func5, Tryd.ntmps5
  go_wp2_with fail
  obtain ⟨B3, B4, B5, hbw⟩ := boxesK w 29 29 49 (.bool a) (.int .i64 m) (.bool b) (.int .i64 n) (.int .i64 e) (.int .i64 r) (.int .i64 e') (.int .i64 r') _ rfl
  generalize ((w.alloc (.cells #[.bool a, .int .i64 m] 29)).alloc (.cells #[.bool b, .int .i64 n] 29)).alloc (.cells #[.int .i64 e, .int .i64 r, .int .i64 e', .int .i64 r'] 49) = wb at hbw B3 B4 B5 ⊢
  refine (alive_any _ (HT.out.on hbw)).mono ?_
  rintro e1 w1 ⟨rfl, hq1⟩
  replace hbw := below_next hbw hq1
  replace B3 := B3.on hq1
  replace B4 := B4.on hq1
  replace B5 := B5.on hq1
  clear hq1
  have C3 := B3; obtain ⟨c30, c31⟩ := C3
  have C5 := B5; obtain ⟨c50, c51, c52, c53⟩ := C5
  have hX := of_any a m e r
  have hY := of_any a m e' r'
  have HX := Lib.hid (ofF_cases a m e r)
  have HY := Lib.hid (ofF_cases a m e' r')
  generalize ofF a m e r = X at hX HX
  generalize ofF a m e' r' = Y at hY HY
  obtain ⟨x1, x2, x3⟩ := X
  obtain ⟨y1, y2, y3⟩ := Y
  have hX := Lib.hid hX
  have hY := Lib.hid hY
  go_upto_region 4 with (
    (go_at_call 11
     refine (hX.out _).mono ?_
     rintro e2 w2 ⟨rfl, hq2⟩))
  clear c30 c31 c50 c51 c52 c53
  replace hbw := belowA (below_next hbw hq2) (.cells #[.int .i64 x1, .int .i64 x2] 23)
  replace B3 := (B3.on hq2).old (.cells #[.int .i64 x1, .int .i64 x2] 23)
  replace B4 := (B4.on hq2).old (.cells #[.int .i64 x1, .int .i64 x2] 23)
  replace B5 := (B5.on hq2).old (.cells #[.int .i64 x1, .int .i64 x2] 23)
  clear hq2
  have B7 := Box.new w2 23 (.int .i64 x1) (.int .i64 x2)
  generalize w2.heap.size = g7 at B7 ⊢
  generalize w2.alloc (.cells #[.int .i64 x1, .int .i64 x2] 23) = w3 at hbw B3 B4 B5 B7 ⊢
  have C3 := B3; obtain ⟨c30, c31⟩ := C3
  have C5 := B5; obtain ⟨c50, c51, c52, c53⟩ := C5
  go_upto_region 5 with (
    (go_at_call 11
     refine (hY.out _).mono ?_
     rintro e2 w2 ⟨rfl, hq2⟩))
  clear c30 c31 c50 c51 c52 c53
  replace hbw := belowA (below_next hbw hq2) (.cells #[.int .i64 y1, .int .i64 y2] 23)
  replace B3 := (B3.on hq2).old (.cells #[.int .i64 y1, .int .i64 y2] 23)
  replace B4 := (B4.on hq2).old (.cells #[.int .i64 y1, .int .i64 y2] 23)
  replace B5 := (B5.on hq2).old (.cells #[.int .i64 y1, .int .i64 y2] 23)
  replace B7 := (B7.on hq2).old (.cells #[.int .i64 y1, .int .i64 y2] 23)
  clear hq2
  have B9 := Box.new w2 23 (.int .i64 y1) (.int .i64 y2)
  generalize w2.heap.size = g9 at B9 ⊢
  generalize w2.alloc (.cells #[.int .i64 y1, .int .i64 y2] 23) = w4 at hbw B3 B4 B5 B7 B9 ⊢
  have C7 := B7; obtain ⟨c70, c71⟩ := C7
  rcases HX.out with ⟨s, hs, im, ie, ir, is, hx⟩ | ⟨k, hk, hx⟩
  · rcases HY.out with ⟨s', hs', im', ie', ir', is', hy⟩ | ⟨k, hk, hy⟩
    · injection hx with hx1 hx2
      injection hx2 with hx2 hx3
      injection hy with hy1 hy2
      injection hy2 with hy2 hy3
      subst hx1 hx2 hx3 hy1 hy2 hy3
      simp only [err0]
      rw [inB_iff] at im ie ir is ie' ir' is'
      have Hs := Lib.hid hs
      have Hs' := Lib.hid hs'
      clear hs hs'
      clear c70 c71 im' HX HY hX hY
      have Hk := Lib.hid (fun W (h : Below w4.heap.size w4 W) => And.intro (B3.on h) (And.intro (B4.on h) (And.intro (B5.on h) (And.intro (B7.on h) (B9.on h)))))
      have hb := Below.refl w4.heap.size w4
      obtain ⟨c40, c41⟩ := B4
      obtain ⟨c90, c91⟩ := B9
      obtain ⟨c50, c51, c52, c53⟩ := B5
      obtain ⟨c70, c71⟩ := B7
      clear B3
      go_upto_region 7 with fail
      go_cut [60] (fun v W => v = .bool (!inB n) ∧ Below w4.heap.size w4 W)
      case first =>
        go_wp2_with (first
          | (go_at_call 8
             refine (atMost_any _ _ _ _ _).mono ?_
             rintro e2 w2 ⟨rfl, hq2⟩
             have hb := below_next hb hq2
             clear hq2 c40 c41 c50 c51 c52 c53 c70 c71 c90 c91
             obtain ⟨-, ⟨c40, c41⟩, ⟨c50, c51, c52, c53⟩, ⟨c70, c71⟩, ⟨c90, c91⟩⟩ := Hk.out _ hb)
          | (go_at_call 18
             refine (rightPath_any _ _ _).mono ?_
             rintro e2 w2 ⟨rfl, hq2⟩
             have hb := below_next hb hq2))
        all_goals
          go_meet
          refine ⟨?_, hb⟩
          first
            | rfl
            | (exfalso
               have h1 := Hs.out
               have h2 := Hs'.out
               cases a <;> simp only [Bool.false_eq_true, if_false, if_true] at h1 h2 <;> simp at * <;> omega)
      case rest =>
        obtain ⟨rfl, hb⟩ := hcut
        obtain ⟨B3, B4, B5, B7, -⟩ := Hk.out _ hb
        have hbw := below_next hbw hb
        clear hb Hk c40 c41 c50 c51 c52 c53 c70 c71 c90 c91
        have C4 := B4; obtain ⟨c40, c41⟩ := C4
        cases hn : inB n with
        | false =>
          go_wp2_with (
            (go_at_call 18
             refine (rightPath_any _ _ _).mono ?_
             rintro e2 w2 ⟨rfl, hq2⟩))
          go_ret
          exact ⟨by simp [hn], below_next hbw hq2⟩
        | true =>
          have hn' := hn
          rw [inB_iff] at hn'
          have im2 := im
          rw [← inB_iff] at im2
          have ie2 := ie
          rw [← inB_iff] at ie2
          have ir2 := ir
          rw [← inB_iff] at ir2
          have HZ := Lib.hid (thenF_cases a b m n im2 hn)
          have HV := Lib.hid (ofF_cases b n x1 x2)
          have hT := then_any a b m n
          have hV := of_any b n x1 x2
          generalize thenF a b m n = Z at HZ hT
          generalize ofF b n x1 x2 = V at HV hV
          obtain ⟨z1, z2, z3⟩ := Z
          obtain ⟨v1, v2, v3⟩ := V
          have hT := Lib.hid hT
          have hV := Lib.hid hV
          have HHn := Lib.hid hn
          have HHm := Lib.hid im2
          have HHe := Lib.hid ie2
          have HHr := Lib.hid ir2
          clear hn im2 ie2 ir2
          have C3 := B3; obtain ⟨c30, c31⟩ := C3
          go_upto_region 10 with (
            (go_at_call 15
             refine (hT.out _).mono ?_
             rintro e2 w2 ⟨rfl, hq2⟩))
          clear c30 c31 c40 c41
          replace hbw := belowA (below_next hbw hq2) (.cells #[.bool z1, .int .i64 z2] 29)
          replace B3 := (B3.on hq2).old (.cells #[.bool z1, .int .i64 z2] 29)
          replace B4 := (B4.on hq2).old (.cells #[.bool z1, .int .i64 z2] 29)
          replace B5 := (B5.on hq2).old (.cells #[.bool z1, .int .i64 z2] 29)
          replace B7 := (B7.on hq2).old (.cells #[.bool z1, .int .i64 z2] 29)
          clear hq2
          have B11 := Box.new w2 29 (.bool z1) (.int .i64 z2)
          generalize w2.heap.size = g11 at B11 ⊢
          generalize w2.alloc (.cells #[.bool z1, .int .i64 z2] 29) = w5 at hbw B3 B4 B5 B7 B11 ⊢
          have C4 := B4; obtain ⟨c40, c41⟩ := C4
          have C7 := B7; obtain ⟨c70, c71⟩ := C7
          go_upto_region 11 with (
            (go_at_call 11
             refine (hV.out _).mono ?_
             rintro e2 w2 ⟨rfl, hq2⟩))
          clear c40 c41 c70 c71
          replace hbw := belowA (below_next hbw hq2) (.cells #[.int .i64 v1, .int .i64 v2] 23)
          replace B3 := (B3.on hq2).old (.cells #[.int .i64 v1, .int .i64 v2] 23)
          replace B4 := (B4.on hq2).old (.cells #[.int .i64 v1, .int .i64 v2] 23)
          replace B5 := (B5.on hq2).old (.cells #[.int .i64 v1, .int .i64 v2] 23)
          replace B7 := (B7.on hq2).old (.cells #[.int .i64 v1, .int .i64 v2] 23)
          replace B11 := (B11.on hq2).old (.cells #[.int .i64 v1, .int .i64 v2] 23)
          clear hq2
          have B12 := Box.new w2 23 (.int .i64 v1) (.int .i64 v2)
          generalize w2.heap.size = g12 at B12 ⊢
          generalize w2.alloc (.cells #[.int .i64 v1, .int .i64 v2] 23) = w6 at hbw B3 B4 B5 B7 B11 B12 ⊢
          have HW := Lib.hid (ofF_cases b n x1 r)
          have hW := of_any b n x1 r
          have HU := Lib.hid (fun (h1 : z1 = (if b then b else a)) (h2 : z2 = (if b then n else m + n)) (h3 : inB z2 = true) (h4 : inB v2 = true) (h5 : v2 = (if b then n else n + x2)) => show ofF z1 z2 x1 r = (x1, v2, 0) by
            have hs := Hs.out
            have e1 := HHe.out
            have e2 := HHr.out
            subst h1 h2 h5 hs
            unfold ofF
            cases b
            · cases a
              · simp only [Bool.false_eq_true, if_false] at h3 h4 ⊢
                rw [show n + (m + r) = m + n + r by omega] at h4
                rw [show n + (m + r) = m + n + r by omega]
                simp [h3, h4, e1, e2]
              · simp only [Bool.false_eq_true, if_false, if_true] at h3 h4 ⊢
                simp [h3, e1, e2]
                omega
            · simp only [if_true] at h3 h4 ⊢
              simp [h3, e1, e2])
          generalize ofF b n x1 r = TT at HW hW
          obtain ⟨t1, t2, t3⟩ := TT
          have hW := Lib.hid hW
          rcases HZ.out with ⟨c, s, hc, hz, iz, hZ⟩ | ⟨k, hk, hZ⟩
          · injection hZ with hZ1 hZ2
            injection hZ2 with hZ2 hZ3
            subst hZ1 hZ2 hZ3
            rcases HV.out with ⟨sv, hsv, -, -, -, isv, hv⟩ | ⟨k, hk, hv⟩
            · injection hv with hv1 hv2
              injection hv2 with hv2 hv3
              subst hv1 hv2 hv3
              simp only [err0]
              have hU := of_any z1 z2 v1 r
              rw [HU.out hc hz iz isv hsv] at hU
              have hU := Lib.hid hU
              clear hc hz hsv HU HZ HV hT hV iz isv
              have C11 := B11; obtain ⟨ca0, ca1⟩ := C11
              have C12 := B12; obtain ⟨cb0, cb1⟩ := C12
              have C5 := B5; obtain ⟨c50, c51, c52, c53⟩ := C5
              go_upto_region 13 with (
                (go_at_call 11
                 refine (hU.out _).mono ?_
                 rintro e2 w2 ⟨rfl, hq2⟩))
              simp only [err0]
              replace hbw := belowA (below_next hbw hq2) (.cells #[.int .i64 v1, .int .i64 v2] 23)
              replace B3 := (B3.on hq2).old (.cells #[.int .i64 v1, .int .i64 v2] 23)
              replace B4 := (B4.on hq2).old (.cells #[.int .i64 v1, .int .i64 v2] 23)
              replace B5 := (B5.on hq2).old (.cells #[.int .i64 v1, .int .i64 v2] 23)
              replace B7 := (B7.on hq2).old (.cells #[.int .i64 v1, .int .i64 v2] 23)
              replace B12 := (B12.on hq2).old (.cells #[.int .i64 v1, .int .i64 v2] 23)
              clear hq2 ca0 ca1 cb0 cb1 c50 c51 c52 c53
              have B13 := Box.new w2 23 (.int .i64 v1) (.int .i64 v2)
              generalize w2.heap.size = g13 at B13 ⊢
              generalize w2.alloc (.cells #[.int .i64 v1, .int .i64 v2] 23) = w7 at hbw B3 B4 B5 B7 B12 B13 ⊢
              have C12 := B12; obtain ⟨cb0, cb1⟩ := C12
              have C13 := B13; obtain ⟨cd0, cd1⟩ := C13
              have C4 := B4; obtain ⟨c40, c41⟩ := C4
              have C5 := B5; obtain ⟨c50, c51, c52, c53⟩ := C5
              go_upto_region 16 with (
                (go_at_call 11
                 refine (hW.out _).mono ?_
                 rintro e2 w2 ⟨rfl, hq2⟩))
              clear c40 c41 c50 c51 c52 c53
              replace hbw := belowA (below_next hbw hq2) (.cells #[.int .i64 t1, .int .i64 t2] 23)
              replace B3 := (B3.on hq2).old (.cells #[.int .i64 t1, .int .i64 t2] 23)
              replace B4 := (B4.on hq2).old (.cells #[.int .i64 t1, .int .i64 t2] 23)
              replace B7 := (B7.on hq2).old (.cells #[.int .i64 t1, .int .i64 t2] 23)
              clear hq2 B5
              have B15 := Box.new w2 23 (.int .i64 t1) (.int .i64 t2)
              generalize w2.heap.size = g15 at B15 ⊢
              generalize w2.alloc (.cells #[.int .i64 t1, .int .i64 t2] 23) = w8 at hbw B3 B4 B7 B15 ⊢
              rcases HW.out with ⟨st, hst, -, -, -, ist, hw⟩ | ⟨k, hk, hw⟩
              · injection hw with hw1 hw2
                injection hw2 with hw2 hw3
                subst hw1 hw2 hw3
                simp only [err0]
                rw [inB_iff] at ist
                have Ht := Lib.hid hst
                clear hst HW hW
                have C3 := B3; obtain ⟨c30, c31⟩ := C3
                have C4 := B4; obtain ⟨c40, c41⟩ := C4
                have C7 := B7; obtain ⟨c70, c71⟩ := C7
                have C15 := B15; obtain ⟨cf0, cf1⟩ := C15
                have B7 := Lib.hid B7
                have B15 := Lib.hid B15
                have hbw := Lib.hid hbw
                go_wp2_with (first
                  | (go_at_call 20
                     refine (pathAtMost_any _ _ _ _ _).mono ?_
                     rintro e2 w2 ⟨rfl, hq2⟩
                     have C7 := B7.out.on hq2; obtain ⟨c70', c71'⟩ := C7
                     have C15 := B15.out.on hq2; obtain ⟨cf0', cf1'⟩ := C15)
                  | (go_at_call 8
                     refine (atMost_any _ _ _ _ _).mono ?_
                     rintro e2 w3 ⟨rfl, hq3⟩))
                all_goals first
                  | (go_ret
                     refine ⟨?_, below_next (below_next hbw.out hq2) hq3⟩
                     have h1 := Hs.out
                     have h2 := Ht.out
                     cases a <;> cases b <;> simp only [Bool.false_eq_true, if_false, if_true] at h1 h2 <;> simp at * <;> omega)
                  | (go_ret
                     refine ⟨?_, below_next hbw.out hq2⟩
                     simp
                     done)
                  | (exfalso
                     clear hT hV hX hY hW im ir ir' is ie ie' is' ist
                     cases a <;> cases b <;> simp at * <;> omega)
              · injection hw with hw1 hw2
                injection hw2 with hw2 hw3
                subst hw1 hw2 hw3
                simp only [err1 hk]
                go_wp2_with fail
                go_ret
                exact ⟨by simp, hbw⟩
            · injection hv with hv1 hv2
              injection hv2 with hv2 hv3
              subst hv1 hv2 hv3
              simp only [err0, err1 hk]
              clear hc hz HU HZ HV hT hV iz
              have C4 := B4; obtain ⟨c40, c41⟩ := C4
              have C5 := B5; obtain ⟨c50, c51, c52, c53⟩ := C5
              go_upto_region 16 with (
                (go_at_call 11
                 refine (hW.out _).mono ?_
                 rintro e2 w2 ⟨rfl, hq2⟩))
              clear c40 c41 c50 c51 c52 c53
              replace hbw := belowA (below_next hbw hq2) (.cells #[.int .i64 t1, .int .i64 t2] 23)
              replace B3 := (B3.on hq2).old (.cells #[.int .i64 t1, .int .i64 t2] 23)
              replace B4 := (B4.on hq2).old (.cells #[.int .i64 t1, .int .i64 t2] 23)
              replace B7 := (B7.on hq2).old (.cells #[.int .i64 t1, .int .i64 t2] 23)
              clear hq2 B5
              have B15 := Box.new w2 23 (.int .i64 t1) (.int .i64 t2)
              generalize w2.heap.size = g15 at B15 ⊢
              generalize w2.alloc (.cells #[.int .i64 t1, .int .i64 t2] 23) = w8 at hbw B3 B4 B7 B15 ⊢
              rcases HW.out with ⟨st, hst, -, -, -, ist, hw⟩ | ⟨k, hk, hw⟩
              · injection hw with hw1 hw2
                injection hw2 with hw2 hw3
                subst hw1 hw2 hw3
                simp only [err0]
                rw [inB_iff] at ist
                have Ht := Lib.hid hst
                clear hst HW hW
                have C3 := B3; obtain ⟨c30, c31⟩ := C3
                have C4 := B4; obtain ⟨c40, c41⟩ := C4
                have C7 := B7; obtain ⟨c70, c71⟩ := C7
                have C15 := B15; obtain ⟨cf0, cf1⟩ := C15
                have B7 := Lib.hid B7
                have B15 := Lib.hid B15
                have hbw := Lib.hid hbw
                go_wp2_with (first
                  | (go_at_call 20
                     refine (pathAtMost_any _ _ _ _ _).mono ?_
                     rintro e2 w2 ⟨rfl, hq2⟩
                     have C7 := B7.out.on hq2; obtain ⟨c70', c71'⟩ := C7
                     have C15 := B15.out.on hq2; obtain ⟨cf0', cf1'⟩ := C15)
                  | (go_at_call 8
                     refine (atMost_any _ _ _ _ _).mono ?_
                     rintro e2 w3 ⟨rfl, hq3⟩))
                all_goals first
                  | (go_ret
                     refine ⟨?_, below_next (below_next hbw.out hq2) hq3⟩
                     have h1 := Hs.out
                     have h2 := Ht.out
                     cases a <;> cases b <;> simp only [Bool.false_eq_true, if_false, if_true] at h1 h2 <;> simp at * <;> omega)
                  | (go_ret
                     refine ⟨?_, below_next hbw.out hq2⟩
                     simp
                     done)
                  | (exfalso
                     clear hT hV hX hY hW im ir ir' is ie ie' is' ist
                     cases a <;> cases b <;> simp at * <;> omega)
              · injection hw with hw1 hw2
                injection hw2 with hw2 hw3
                subst hw1 hw2 hw3
                simp only [err1 hk]
                go_wp2_with fail
                go_ret
                exact ⟨by simp, hbw⟩
          · injection hZ with hZ1 hZ2
            injection hZ2 with hZ2 hZ3
            subst hZ1 hZ2 hZ3
            simp only [err1 hk]
            clear HU HZ HV hT hV
            have C4 := B4; obtain ⟨c40, c41⟩ := C4
            have C5 := B5; obtain ⟨c50, c51, c52, c53⟩ := C5
            go_upto_region 16 with (
              (go_at_call 11
               refine (hW.out _).mono ?_
               rintro e2 w2 ⟨rfl, hq2⟩))
            clear c40 c41 c50 c51 c52 c53
            replace hbw := belowA (below_next hbw hq2) (.cells #[.int .i64 t1, .int .i64 t2] 23)
            replace B3 := (B3.on hq2).old (.cells #[.int .i64 t1, .int .i64 t2] 23)
            replace B4 := (B4.on hq2).old (.cells #[.int .i64 t1, .int .i64 t2] 23)
            replace B7 := (B7.on hq2).old (.cells #[.int .i64 t1, .int .i64 t2] 23)
            clear hq2 B5
            have B15 := Box.new w2 23 (.int .i64 t1) (.int .i64 t2)
            generalize w2.heap.size = g15 at B15 ⊢
            generalize w2.alloc (.cells #[.int .i64 t1, .int .i64 t2] 23) = w8 at hbw B3 B4 B7 B15 ⊢
            rcases HW.out with ⟨st, hst, -, -, -, ist, hw⟩ | ⟨k, hk, hw⟩
            · injection hw with hw1 hw2
              injection hw2 with hw2 hw3
              subst hw1 hw2 hw3
              simp only [err0]
              rw [inB_iff] at ist
              have Ht := Lib.hid hst
              clear hst HW hW
              have C3 := B3; obtain ⟨c30, c31⟩ := C3
              have C4 := B4; obtain ⟨c40, c41⟩ := C4
              have C7 := B7; obtain ⟨c70, c71⟩ := C7
              have C15 := B15; obtain ⟨cf0, cf1⟩ := C15
              have B7 := Lib.hid B7
              have B15 := Lib.hid B15
              have hbw := Lib.hid hbw
              go_wp2_with (first
                | (go_at_call 20
                   refine (pathAtMost_any _ _ _ _ _).mono ?_
                   rintro e2 w2 ⟨rfl, hq2⟩
                   have C7 := B7.out.on hq2; obtain ⟨c70', c71'⟩ := C7
                   have C15 := B15.out.on hq2; obtain ⟨cf0', cf1'⟩ := C15)
                | (go_at_call 8
                   refine (atMost_any _ _ _ _ _).mono ?_
                   rintro e2 w3 ⟨rfl, hq3⟩))
              all_goals first
                | (go_ret
                   refine ⟨?_, below_next (below_next hbw.out hq2) hq3⟩
                   have h1 := Hs.out
                   have h2 := Ht.out
                   cases a <;> cases b <;> simp only [Bool.false_eq_true, if_false, if_true] at h1 h2 <;> simp at * <;> omega)
                | (go_ret
                   refine ⟨?_, below_next hbw.out hq2⟩
                   simp
                   done)
                | (exfalso
                   clear hT hV hX hY hW im ir ir' is ie ie' is' ist
                   cases a <;> cases b <;> simp at * <;> omega)
            · injection hw with hw1 hw2
              injection hw2 with hw2 hw3
              subst hw1 hw2 hw3
              simp only [err1 hk]
              go_wp2_with fail
              go_ret
              exact ⟨by simp, hbw⟩
    · injection hx with hx1 hx2
      injection hx2 with hx2 hx3
      injection hy with hy1 hy2
      injection hy2 with hy2 hy3
      subst hx1 hx2 hx3 hy1 hy2 hy3
      simp only [err0, err1 hk]
      clear HX HY hX hY
      go_wp2
      go_ret
      exact ⟨by simp, hbw⟩
  · injection hx with hx1 hx2
    injection hx2 with hx2 hx3
    subst hx1 hx2 hx3
    simp only [err1 hk]
    clear HX HY hX hY
    go_wp2
    go_ret
    exact ⟨by simp, hbw⟩
end Go.Proofs.YtmaahfcniedfhaaDoor
