/- ValueTexts: the walk. -/
import Derived.Test.YtpjdjiohdhekaaaDoorVOf
import Derived.Deep.DeepCutAuto
import Derived.Deep.RegionHeld3
namespace Go.Proofs.YtpjdjiohdhekaaaDoor
open Go.RowKit

def OfP (n : Int) (av : GV) (er : Value) : Prop := (bndB n = true ∧ av = ⟨1, n, ⟨#[]⟩⟩ ∧ er = .nilIface) ∨ (bndB n = false ∧ av = gv0 ∧ er = .iface 36 (.int .i64 10))
theorem ofP_of (n : Int) : OfP n (ofV n) (errV 36 (ofE n)) := by
  unfold OfP ofV ofE
  cases bndB n <;> simp [errV]
def SymP (s : ByteArray) (av : GV) (er : Value) : Prop := (nameOk s = true ∧ av = ⟨2, 0, s⟩ ∧ er = .nilIface) ∨ (nameOk s = false ∧ av = gv0 ∧ er = .iface 36 (.int .i64 5))
theorem symP_of (s : ByteArray) : SymP s (symV s) (errV 36 (symE s)) := by
  unfold SymP symV symE
  cases nameOk s <;> simp [errV]
set_option maxRecDepth 100000 in
set_option maxHeartbeats 400000 in
theorem numq_any (n : Int) (h : n ≠ 0) (w : World) : Calls Tryd.prog 31 #[.iface 36 (.int .i64 n)] w (RetSame n w) := by
  have h1 : ((n : Int) != 0) = true := by simp [h]
  have ta : ∀ w, (Instr.typeAssert (.iface 36 (.int .i64 n)) 31 36 true).run Tryd.prog w = .ok (.tuple #[.int .i64 n, .bool true]) w := fun _ => by kernel_rfl
  clear h
  go_enter Tryd.func31, Tryd.ntmps31
  go_wp2
  go_ret
  exact ⟨rfl, rfl⟩
set_option maxRecDepth 100000 in
set_option maxHeartbeats 400000 in
theorem isq_any (n : Int) (h : n ≠ 0) (w : World) : Calls Tryd.prog 13 #[.iface 36 (.int .i64 n), .int .i64 n] w (RetSameB true w) := by
  have hn := Lib.hid (numq_any n h)
  have hb : (n == n) = true := by simp
  clear h
  go_enter Tryd.func13, Tryd.ntmps13
  go_wp2_with fail
  refine (hn.out _).mono ?_
  rintro e w1 ⟨rfl, rfl⟩
  go_wp2_with fail
  go_ret
  exact ⟨rfl, rfl⟩

set_option maxRecDepth 100000 in
set_option maxHeartbeats 4000000 in
theorem valueTexts_walk (v : GV) (hv : v.ok) (w : World) (h : TabW w) : Calls Tryd.prog 4 #[v.v] w (RetBool true w) := by
  have HT := Lib.hid h
  have HV := Lib.hid hv
  have ho := Lib.hid (fun w => of_any v.n w)
  have hs := Lib.hid (fun w => symbol_any v.s w)
  have hop := Lib.hid (ofP_of v.n)
  have hsp := Lib.hid (symP_of v.s)
  generalize ofV v.n = av at ho hop
  generalize errV 36 (ofE v.n) = er at ho hop
  generalize symV v.s = sv at hs hsp
  generalize errV 36 (symE v.s) = sr at hs hsp
  clear h hv
  go_enter Tryd.func4, Tryd.ntmps4
  go_wp2_with fail
  have B0 := VBox.new w v
  have hbw : Below w.heap.size w (w.alloc (.cells #[.int .i64 v.k, .int .i64 v.n, .string v.s] 24)) := belowA (Below.refl _ _) _
  generalize w.alloc (.cells #[.int .i64 v.k, .int .i64 v.n, .string v.s] 24) = wb at hbw B0 ⊢
  refine (alive_any _ (HT.out.on hbw)).mono ?_
  rintro e2 w2 ⟨rfl, hq2⟩
  replace B0 := B0.on hq2
  replace hbw := below_next hbw hq2
  clear hq2
  have C0 := B0
  obtain ⟨c0, c1, c2⟩ := C0
  go_wp2_with fail
  refine (long_any _ _).mono ?_
  rintro e3 w3 ⟨bb, rfl, hq3⟩
  replace B0 := B0.on hq3
  replace hbw := below_next hbw hq3
  clear hq3 c0 c1 c2
  cases bb with
  | true =>
    go_wp2_with fail
    go_ret
    exact ⟨rfl, hbw⟩
  | false =>
  have C0 := B0
  obtain ⟨c0, c1, c2⟩ := C0
  go_upto_region 6 with (
    (go_at_call 11
     refine (ho.out _).mono ?_
     rintro e2 w2 ⟨rfl, hq2⟩))
  clear c0 c1 c2
  have hbx := hbw
  replace hbw := belowA (below_next hbw hq2) (.cells #[.int .i64 av.k, .int .i64 av.n, .string av.s] 24)
  replace B0 := (B0.on hq2).old (.cells #[.int .i64 av.k, .int .i64 av.n, .string av.s] 24)
  clear hq2
  have B3 := VBox.new w2 av
  generalize w2.heap.size = g3 at B3 ⊢
  generalize w2.alloc (.cells #[.int .i64 av.k, .int .i64 av.n, .string av.s] 24) = w4 at hbw B0 B3 ⊢
  clear hbx
  have C0 := B0
  obtain ⟨c0, c1, c2⟩ := C0
  go_upto_region 7 with (
    (go_at_call 12
     refine (hs.out _).mono ?_
     rintro e2 w5 ⟨rfl, hq2⟩))
  clear c0 c1 c2
  replace hbw := belowA (below_next hbw hq2) (.cells #[.int .i64 sv.k, .int .i64 sv.n, .string sv.s] 24)
  replace B0 := (B0.on hq2).old (.cells #[.int .i64 sv.k, .int .i64 sv.n, .string sv.s] 24)
  replace B3 := (B3.on hq2).old (.cells #[.int .i64 sv.k, .int .i64 sv.n, .string sv.s] 24)
  clear hq2
  have B5 := VBox.new w5 sv
  generalize w5.heap.size = g5 at B5 ⊢
  generalize w5.alloc (.cells #[.int .i64 sv.k, .int .i64 sv.n, .string sv.s] 24) = w6 at hbw B0 B3 B5 ⊢
  have Hk := Lib.hid (fun W (h : Below w6.heap.size w6 W) => And.intro (B0.on h) (And.intro (B3.on h) (B5.on h)))
  have hb := Below.refl w6.heap.size w6
  go_upto_region 7 with fail
  go_cut [53] (fun x W => x = .bool false ∧ Below w6.heap.size w6 W)
  case first =>
    obtain ⟨c0, c1, c2⟩ := B0
    rcases hop.out with ⟨hbn, rfl, rfl⟩ | ⟨hbn, rfl, rfl⟩
    · have hN : -2147483647 ≤ v.n ∧ v.n ≤ 2147483647 := by simpa [bndB] using hbn
      obtain ⟨hN1, hN2⟩ := hN
      have rn := run_neq_value ⟨1, v.n, ⟨#[]⟩⟩ ⟨1, v.n, ⟨#[]⟩⟩
      rw [GV.beq_self] at rn
      obtain ⟨c3, c4, c5⟩ := B3
      dsimp only at c3 c4 c5 rn
      clear hbn hop Hk B5
      go_quiet (fail)
      all_goals
        go_wp2_with fail
        go_meet
        exact ⟨by simp, below_drewN _ _ _⟩
    · have hN : ¬ (-2147483647 ≤ v.n ∧ v.n ≤ 2147483647) := by
        intro hN
        have : bndB v.n = true := by simp [bndB, hN]
        rw [this] at hbn; cases hbn
      clear hbn hop Hk B5 B3
      by_cases hN1 : -2147483647 ≤ v.n
      · have hN2 : ¬ v.n ≤ 2147483647 := fun h => hN ⟨hN1, h⟩
        clear hN
        go_quiet ((go_at_call 13; exact Calls.quiet_of_same (isq_any 10 (by decide) _)))
        all_goals
          go_wp2_with fail
          go_meet
          exact ⟨by simp, below_drewN _ _ _⟩
      · clear hN
        go_quiet ((go_at_call 13; exact Calls.quiet_of_same (isq_any 10 (by decide) _)))
        all_goals
          go_wp2_with fail
          go_meet
          exact ⟨by simp, below_drewN _ _ _⟩
  case rest =>
  obtain ⟨rfl, hb⟩ := hcut
  go_upto_region 9 with fail
  go_cut [79] (fun x W => x = .bool false ∧ Below w6.heap.size w6 W)
  case first =>
    have B00 := B0.on hb
    have B50 := B5.on hb
    have hb0 := hb
    obtain ⟨c0, c1, c2⟩ := B00
    have hnq := Lib.hid (fun w => refNameQ_any v.s HV.out.2.2 w)
    rcases hsp.out with ⟨hbn, rfl, rfl⟩ | ⟨hbn, rfl, rfl⟩
    · rw [hbn] at hnq
      have rn := run_neq_value ⟨2, 0, v.s⟩ ⟨2, 0, v.s⟩
      rw [GV.beq_self] at rn
      obtain ⟨c3, c4, c5⟩ := B50
      dsimp only at c3 c4 c5 rn
      clear hbn hsp Hk B5 B3 B0 hbw
      have HB := Lib.hid hb
      clear hb hb0
      go_quiet ((go_at_call 14; exact Calls.quiet_of_same (hnq.out _)))
      all_goals
        go_wp2_with fail
        go_meet
        exact ⟨by simp, below_next HB.out (below_drewN _ _ _)⟩
    · rw [hbn] at hnq
      clear hbn hsp Hk B5 B3 B0 hbw B50
      have HB := Lib.hid hb
      clear hb hb0
      go_quiet ((first
        | (go_at_call 14; exact Calls.quiet_of_same (hnq.out _))
        | (go_at_call 13; exact Calls.quiet_of_same (isq_any 5 (by decide) _))))
      all_goals
        go_wp2_with fail
        go_meet
        exact ⟨by simp, below_next HB.out (below_drewN _ _ _)⟩
  case rest =>
  obtain ⟨rfl, hb⟩ := hcut
  replace hbw := below_next hbw hb
  replace B0 := B0.on hb
  clear hb B3 B5 Hk ho hs hop hsp
  have Hk := Lib.hid (fun W (h : Below wc.heap.size wc W) => B0.on h)
  clear B0
  unfold VBox at Hk
  go_wp2_with fail
  have hb1 := Below.refl wc.heap.size wc
  go_region_held3 (fun w' => w'.cell? ⟨w.heap.size, 0, none⟩ = some (.int .i64 v.k) ∧ w'.cell? ⟨w.heap.size, 1, none⟩ = some (.int .i64 v.n) ∧ w'.cell? ⟨w.heap.size, 2, none⟩ = some (.string v.s))
        (first
          | (refine Hk.out _ ?_; (repeat (first | with_reducible exact Below.refl _ _ | with_reducible assumption | with_reducible refine Below.drew ?_ | with_reducible refine belowA ?_ _)))
          | go_keep)
        ((first
          | (go_at_call 15
             refine (name_any _ _).mono ?_
             rintro e w1 ⟨rfl, hq1⟩
             have hb1 : Below wc.heap.size wc w1 := by
               refine below_next ?_ hq1
               repeat (first | with_reducible exact Below.refl _ _ | with_reducible assumption | with_reducible refine Below.drew ?_ | with_reducible refine belowA ?_ _))
          | (go_at_call 14
             refine (refName_any _ HV.out.2.2 _).mono ?_
             rintro e w1 ⟨rfl, hq1⟩
             have hb1 : Below wc.heap.size wc w1 := by
               refine below_next ?_ hq1
               repeat (first | with_reducible exact Below.refl _ _ | with_reducible assumption | with_reducible refine Below.drew ?_ | with_reducible refine belowA ?_ _))
          | (go_at_call 16
             refine (right_any _ _).mono ?_
             rintro e w1 ⟨rfl, hq1⟩
             have hb1 : Below wc.heap.size wc w1 := by
               refine below_next ?_ hq1
               repeat (first | with_reducible exact Below.refl _ _ | with_reducible assumption | with_reducible refine Below.drew ?_ | with_reducible refine belowA ?_ _))
          | (go_at_call 17
             refine (refRight_any _ HV.out _).mono ?_
             rintro e w1 ⟨rfl, hq1⟩
             have hb1 : Below wc.heap.size wc w1 := by
               refine below_next ?_ hq1
               repeat (first | with_reducible exact Below.refl _ _ | with_reducible assumption | with_reducible refine Below.drew ?_ | with_reducible refine belowA ?_ _))
          | (go_at_call 18
             refine (text_any _ HV.out.2.1 _ (HT.out.on (below_next hbw hb1))).mono ?_
             rintro e w1 ⟨rfl, hq1⟩
             have hb1 : Below wc.heap.size wc w1 := by
               refine below_next ?_ hq1
               repeat (first | with_reducible exact Below.refl _ _ | with_reducible assumption | with_reducible refine Below.drew ?_ | with_reducible refine belowA ?_ _))
          | (go_at_call 19
             refine (refText_any _ HV.out _).mono ?_
             rintro e w1 ⟨rfl, hq1⟩
             have hb1 : Below wc.heap.size wc w1 := by
               refine below_next ?_ hq1
               repeat (first | with_reducible exact Below.refl _ _ | with_reducible assumption | with_reducible refine Below.drew ?_ | with_reducible refine belowA ?_ _))
          | (go_at_call 20
             refine (hash_any _ HV.out _ (HT.out.on (below_next hbw hb1))).mono ?_
             rintro e w1 ⟨rfl, hq1⟩
             have hb1 : Below wc.heap.size wc w1 := by
               refine below_next ?_ hq1
               repeat (first | with_reducible exact Below.refl _ _ | with_reducible assumption | with_reducible refine Below.drew ?_ | with_reducible refine belowA ?_ _))
          | (go_at_call 21
             refine (refHash_any _ HV.out _).mono ?_
             rintro e w1 ⟨rfl, hq1⟩
             have hb1 : Below wc.heap.size wc w1 := by
               refine below_next ?_ hq1
               repeat (first | with_reducible exact Below.refl _ _ | with_reducible assumption | with_reducible refine Below.drew ?_ | with_reducible refine belowA ?_ _))))
  all_goals
    go_wp2_with fail
    go_ret
    exact ⟨by simp, below_next hbw hb1⟩
end Go.Proofs.YtpjdjiohdhekaaaDoor
