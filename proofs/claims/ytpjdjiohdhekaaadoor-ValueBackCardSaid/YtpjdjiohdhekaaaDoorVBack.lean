/- ValueBack: the walk. -/
import Derived.Test.YtpjdjiohdhekaaaDoorVParse
import Derived.Deep.DeepCutAuto
namespace Go.Proofs.YtpjdjiohdhekaaaDoor
open Go.RowKit

theorem name_itoa (n : Int) : nameOk ⟨(Lib.itoa n).toArray⟩ = false := by
  have hf : ∃ c r, Lib.itoa n = c :: r ∧ (c.toNat = 45 ∨ (48 ≤ c.toNat ∧ c.toNat ≤ 57)) := by
    by_cases hn : n < 0
    · obtain ⟨m, rfl⟩ : ∃ m : Nat, n = -(m : Int) := ⟨n.natAbs, by omega⟩
      exact ⟨45, _, Lib.itoa_neg m (by omega), .inl rfl⟩
    · obtain ⟨m, rfl⟩ : ∃ m : Nat, n = (m : Int) := ⟨n.toNat, by omega⟩
      rw [itoa_pos]
      rcases Nat.eq_zero_or_pos m with e | e
      · subst e; exact ⟨48, [], digits_zero, .inr (by decide)⟩
      · obtain ⟨c, r, e', h3, h4⟩ := digits_first m e
        exact ⟨c, r, e', .inr (by omega)⟩
  obtain ⟨c, r, e, hc⟩ := hf
  rw [e]
  have hb : byteAt ⟨(c :: r).toArray⟩ 0 = c.toNat := by rw [← byteAt_eq (by simp [ByteArray.size])]; rfl
  have hl : lowB (byteAt ⟨(c :: r).toArray⟩ 0) = false := by
    rw [hb]; simp only [lowB, Bool.and_eq_false_iff, decide_eq_false_iff_not]; omega
  simp [nameOk, hl]
theorem parse_text (v : GV) (h : rightB v = true) : parseO ⟨(textOf v).toArray⟩ = some v := by
  obtain ⟨k, n, s⟩ := v
  by_cases hk : k = 2
  · subst hk
    have ht : textOf ⟨2, n, s⟩ = s.toList := by simp [textOf, h]
    rw [ht, bytes_back]
    have h' : n = 0 ∧ nameOk s = true := by simpa [rightB] using h
    rw [parse_name h'.2, h'.1]
  · have ht : textOf ⟨k, n, s⟩ = Lib.itoa n := by simp [textOf, h, hk]
    rw [ht]
    have h' : k = 1 ∧ s = ⟨#[]⟩ ∧ -2147483647 ≤ n ∧ n ≤ 2147483647 := by
      by_cases hk1 : k = 1
      · subst hk1
        simp [rightB] at h
        refine ⟨rfl, ?_, h.1.2, h.2⟩
        have := h.1.1
        have e : s.toList = [] := List.eq_nil_of_length_eq_zero (by rw [ba_len]; simpa using this)
        exact (toList_inj _ _).1 (by rw [e]; exact (toList_mk []).symm)
      · simp [rightB, hk, hk1] at h
    obtain ⟨rfl, rfl, h1, h2⟩ := h'
    exact parse_some (name_itoa n) (by rw [toList_mk]; exact (refNum_itoa h1 h2).1)

set_option maxRecDepth 100000 in
set_option maxHeartbeats 4000000 in
theorem valueBack_walk (v : GV) (hv : v.ok) (w : World) (h : TabW w) (hE : ErrW w) : Calls Tryd.prog 5 #[v.v] w (RetBool true w) := by
  have HT := Lib.hid h
  have HE := Lib.hid hE
  have HV := Lib.hid hv
  clear h hE hv
  go_enter Tryd.func5, Tryd.ntmps5
  go_wp2_with fail
  have B0 := VBox.new w v
  have hbw : Below w.heap.size w (w.alloc (.cells #[.int .i64 v.k, .int .i64 v.n, .string v.s] 24)) := belowA (Below.refl _ _) _
  generalize w.alloc (.cells #[.int .i64 v.k, .int .i64 v.n, .string v.s] 24) = wb at hbw B0 ⊢
  refine (alive_any _ (HT.out.on hbw)).mono ?_
  rintro e2 w2 ⟨rfl, hq2⟩
  replace B0 := B0.on hq2
  replace hbw := below_next hbw hq2
  clear hq2
  have C0 := B0
  obtain ⟨c0, c1, c2⟩ := C0
  go_wp2_with fail
  refine (long_any _ _).mono ?_
  rintro e3 w3 ⟨bb, rfl, hq3⟩
  replace B0 := B0.on hq3
  replace hbw := below_next hbw hq3
  clear hq3 c0 c1 c2
  cases bb with
  | true =>
    go_wp2_with fail
    go_ret
    exact ⟨rfl, hbw⟩
  | false =>
  have C0 := B0
  obtain ⟨c0, c1, c2⟩ := C0
  go_wp2_with fail
  have hr := fun w => right_any v w
  cases hR : rightB v with
  | false =>
    rw [hR] at hr
    refine (hr _).mono ?_
    rintro e3 w3 ⟨rfl, hq3⟩
    replace hbw := below_next hbw hq3
    clear hq3 c0 c1 c2 hr B0 hR
    go_wp2_with fail
    go_ret
    exact ⟨rfl, hbw⟩
  | true =>
    rw [hR] at hr
    have HP := Lib.hid (parse_text v hR)
    refine (hr _).mono ?_
    rintro e3 w3 ⟨rfl, hq3⟩
    replace B0 := B0.on hq3
    replace hbw := below_next hbw hq3
    clear hq3 c0 c1 c2 hr hR
    have C0 := B0
    obtain ⟨c0, c1, c2⟩ := C0
    go_wp2_with fail
    refine (text_any v HV.out.2.1 _ (HT.out.on hbw)).mono ?_
    rintro e3 w4 ⟨rfl, hq3⟩
    replace B0 := B0.on hq3
    replace hbw := below_next hbw hq3
    clear hq3 c0 c1 c2
    have hp := fun w h hE => parse_any ⟨(textOf v).toArray⟩ (textOf_len v HV.out) w h hE
    simp only [parseG, HP.out, Option.getD_some, Option.isSome_some, if_true, errV] at hp
    have Hp := Lib.hid hp
    clear hp
    go_upto_region 6 with (
      (go_at_call 22
       refine (Hp.out _ (HT.out.on hbw) (HE.out.on hbw)).mono ?_
       rintro e2 w5 ⟨rfl, hq2⟩))
    replace hbw := belowA (below_next hbw hq2) (.cells #[.int .i64 v.k, .int .i64 v.n, .string v.s] 24)
    replace B0 := (B0.on hq2).old (.cells #[.int .i64 v.k, .int .i64 v.n, .string v.s] 24)
    clear hq2
    have B3 := VBox.new w5 v
    generalize w5.heap.size = g5 at B3 ⊢
    generalize w5.alloc (.cells #[.int .i64 v.k, .int .i64 v.n, .string v.s] 24) = w6 at hbw B0 B3 ⊢
    have rn := run_eql_value v v
    rw [GV.beq_self] at rn
    obtain ⟨c0, c1, c2⟩ := B0
    obtain ⟨c3, c4, c5⟩ := B3
    go_wp2_with fail
    go_ret
    exact ⟨by simp, hbw⟩
end Go.Proofs.YtpjdjiohdhekaaaDoor
