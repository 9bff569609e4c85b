/- corollaryref01.Digits: the decimal numeral. -/
import Derived.Test.YtplekbpmfaghbaaGreatDoorTab
namespace Go.Proofs.YtplekbpmfaghbaaGreatDoor
open Go.RowKit

def RetStr (l : List UInt8) (w : World) (e : Ending) (w' : World) : Prop := ∃ s : ByteArray, Hid (s = ⟨l.toArray⟩) ∧ s.size ≤ 21 ∧ e = .returned (.string s) ∧ w' = w
theorem fits_iff (n : Int) : fits n ↔ -9223372036854775808 ≤ n ∧ n ≤ 9223372036854775807 := by
  unfold fits; simp [Lit.wf, IntKind.min, IntKind.max, IntKind.signed, IntKind.bits]

set_option maxRecDepth 100000 in
set_option maxHeartbeats 1000000 in
theorem digits_any : ∀ (k : Nat) (n : Int), (if n < 0 then n.natAbs + 10 else n.natAbs) < k → -9223372036854775808 ≤ n → n ≤ 9223372036854775807 → ∀ w, Calls Tryz.prog 155 #[.int .i64 n] w (RetStr (Lib.itoa n) w) := by
  intro k
  induction k with
  | zero => intro n h; omega
  | succ k ih =>
    intro n hk h0 h1 w
    have HI := Lib.hid ih
    clear ih
    have Hlen := Lib.hid (Lib.itoa_length_le n h0 h1)
    by_cases hn : n < 0
    · rw [if_pos hn] at hk
      by_cases hn2 : -10 < n
      · have hw : wrap64 (-n) = -n := by unfold wrap64; omega
        have hi := HI.out (-n) (by rw [if_neg (by omega)]; omega) (by omega) (by omega)
        have HE := Lib.hid (show Lib.itoa n = 45 :: Lib.itoa (-n) by
          obtain ⟨u, rfl⟩ : ∃ u : Nat, n = -(u : Int) := ⟨n.natAbs, by omega⟩
          rw [Lib.itoa_neg u (by omega), Int.neg_neg, Lib.itoa_nonneg])
        clear hk h0 h1 HI
        go_enter Tryz.func155, Tryz.ntmps155
        go_wp2_with (
          (go_at_call 155
           refine (hi _).mono ?_
           rintro e1 w1 ⟨s, hs, hl, rfl, rfl⟩
           have hz1 : ¬ (9223372036854775807 < 1 + s.size) := by omega
           have hz2 : ¬ (9223372036854775807 < s.size + 1) := by omega
           have hz3 : ¬ (9223372036854775806 < s.size) := by omega))
        go_ret
        refine ⟨_, ?_, ?_, rfl, rfl⟩
        · show _ = _
          rw [HE.out]
          have e1 := hs.out
          subst e1
          rw [ByteArray.mk_append_mk]; rfl
        · have e1 := hs.out
          have h2 := Hlen.out
          rw [HE.out] at h2
          subst e1
          simpa [ByteArray.mk_append_mk, ByteArray.size] using h2
      · obtain ⟨u, rfl⟩ : ∃ u : Nat, n = -(u : Int) := ⟨n.natAbs, by omega⟩
        obtain ⟨q, hq⟩ : ∃ q, (-(u : Int)).tdiv 10 = q := ⟨_, rfl⟩
        obtain ⟨r, hr⟩ : ∃ r, (-(u : Int)).tmod 10 = r := ⟨_, rfl⟩
        have hq' : q = -((u / 10 : Nat) : Int) := by rw [← hq, Int.neg_tdiv]; rfl
        have hr' : r = -((u % 10 : Nat) : Int) := by rw [← hr, Int.neg_tmod]; rfl
        have hwq : wrap64 q = q := by unfold wrap64; omega
        have hwr : wrap64 (-r) = -r := by unfold wrap64; omega
        have hi := HI.out q (by rw [if_pos (by omega)]; omega) (by omega) (by omega)
        have hj := HI.out (-r) (by rw [if_neg (by omega)]; omega) (by omega) (by omega)
        have HE := Lib.hid (show Lib.itoa (-(u : Int)) = Lib.itoa q ++ Lib.itoa (-r) by
          rw [hq', hr', Int.neg_neg, Lib.itoa_neg u (by omega), Lib.itoa_neg (u / 10) (by omega), Lib.itoa_nonneg, Lib.decDigits_one (i := u % 10) (by omega)]
          conv => lhs; rw [Lib.decDigits, dif_neg (by omega)]
          rfl)
        have Hi := Lib.hid hi
        have Hj := Lib.hid hj
        generalize (-(u : Int)) = n at *
        clear hk h0 h1 HI hq' hr' hi hj
        go_enter Tryz.func155, Tryz.ntmps155
        go_wp2_with (first
          | (go_at_call 155
             refine (Hi.out _).mono ?_
             clear Hi
             rintro e1 w1 ⟨s, hs, hl, rfl, rfl⟩)
          | (go_at_call 155
             refine (Hj.out _).mono ?_
             rintro e1 w1 ⟨s2, hs2, hl2, rfl, rfl⟩
             have hz1 : ¬ (9223372036854775807 < s.size + s2.size) := by omega))
        go_ret
        refine ⟨_, ?_, ?_, rfl, rfl⟩
        · show _ = _
          rw [HE.out]
          have e1 := hs.out
          have e2 := hs2.out
          subst e1 e2
          rw [ByteArray.mk_append_mk]
        · have e1 := hs.out
          have e2 := hs2.out
          have h2 := Hlen.out
          rw [HE.out] at h2
          subst e1 e2
          simpa [ByteArray.mk_append_mk, ByteArray.size] using h2
    · rw [if_neg hn] at hk
      by_cases hn2 : n < 10
      · obtain ⟨u, rfl⟩ : ∃ u : Nat, n = (u : Int) := ⟨n.natAbs, by omega⟩
        have HE := Lib.hid (show Lib.itoa (u : Int) = [UInt8.ofNat (48 + u)] by rw [Lib.itoa_nonneg, Lib.decDigits_one (by omega)])
        have hu : u < 10 := by omega
        have hE := Lib.hid (show Utf8.encode (48 + (u : Int)) = ⟨[UInt8.ofNat (48 + u)].toArray⟩ by
          rcases (by omega : u = 0 ∨ u = 1 ∨ u = 2 ∨ u = 3 ∨ u = 4 ∨ u = 5 ∨ u = 6 ∨ u = 7 ∨ u = 8 ∨ u = 9) with rfl | rfl | rfl | rfl | rfl | rfl | rfl | rfl | rfl | rfl <;> rfl)
        clear hk h0 h1 HI
        go_enter Tryz.func155, Tryz.ntmps155
        go_wp2_with fail
        go_ret
        refine ⟨_, ?_, ?_, rfl, rfl⟩
        · show _ = _
          rw [HE.out]; exact hE.out
        · rw [hE.out]; simp [ByteArray.size]
      · obtain ⟨u, rfl⟩ : ∃ u : Nat, n = (u : Int) := ⟨n.natAbs, by omega⟩
        obtain ⟨q, hq⟩ : ∃ q, ((u : Int)).tdiv 10 = q := ⟨_, rfl⟩
        obtain ⟨r, hr⟩ : ∃ r, ((u : Int)).tmod 10 = r := ⟨_, rfl⟩
        have hq' : q = ((u / 10 : Nat) : Int) := by rw [← hq]; rfl
        have hr' : r = ((u % 10 : Nat) : Int) := by rw [← hr]; rfl
        have hwq : wrap64 q = q := by unfold wrap64; omega
        have hi := HI.out q (by rw [if_neg (by omega)]; omega) (by omega) (by omega)
        have hj := HI.out r (by rw [if_neg (by omega)]; omega) (by omega) (by omega)
        have HE := Lib.hid (show Lib.itoa (u : Int) = Lib.itoa q ++ Lib.itoa r by
          rw [hq', hr', Lib.itoa_nonneg, Lib.itoa_nonneg, Lib.itoa_nonneg, Lib.decDigits_one (i := u % 10) (by omega)]
          conv => lhs; rw [Lib.decDigits, dif_neg (by omega)])
        have Hi := Lib.hid hi
        have Hj := Lib.hid hj
        generalize ((u : Int)) = n at *
        clear hk h0 h1 HI hq' hr' hi hj
        go_enter Tryz.func155, Tryz.ntmps155
        go_wp2_with (first
          | (go_at_call 155
             refine (Hi.out _).mono ?_
             clear Hi
             rintro e1 w1 ⟨s, hs, hl, rfl, rfl⟩)
          | (go_at_call 155
             refine (Hj.out _).mono ?_
             rintro e1 w1 ⟨s2, hs2, hl2, rfl, rfl⟩
             have hz1 : ¬ (9223372036854775807 < s.size + s2.size) := by omega))
        go_ret
        refine ⟨_, ?_, ?_, rfl, rfl⟩
        · show _ = _
          rw [HE.out]
          have e1 := hs.out
          have e2 := hs2.out
          subst e1 e2
          rw [ByteArray.mk_append_mk]
        · have e1 := hs.out
          have e2 := hs2.out
          have h2 := Hlen.out
          rw [HE.out] at h2
          subst e1 e2
          simpa [ByteArray.mk_append_mk, ByteArray.size] using h2
end Go.Proofs.YtplekbpmfaghbaaGreatDoor
