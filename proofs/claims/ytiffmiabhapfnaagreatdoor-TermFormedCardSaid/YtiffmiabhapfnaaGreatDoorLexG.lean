/- lex: bytes, run, skip: what each computes. -/
import Derived.Test.YtiffmiabhapfnaaGreatDoorLexLaw
import Derived.Test.YtiffmiabhapfnaaGreatDoorVParse
import Derived.Lib.CutLaws
namespace Go.Proofs.YtiffmiabhapfnaaGreatDoor
open Go.RowKit

/-! ### bytes of a string -/
theorem ba_ext (s : ByteArray) (a b : Nat) : (s.extract a b).toList = (s.toList.take b).drop a := by
  rw [ByteArray.toList_eq, ByteArray.toList_eq, ByteArray.data_extract, Array.toList_extract]
  show List.take (b - a) (s.data.toList.drop a) = _
  rw [List.drop_take]
theorem ba_drop (s : ByteArray) (a : Nat) : (s.extract a s.size).toList = s.toList.drop a := by
  rw [ba_ext, List.take_of_length_le (by rw [ba_len]; exact Nat.le_refl _)]
theorem ba_take (s : ByteArray) (b : Nat) : (s.extract 0 b).toList = s.toList.take b := by rw [ba_ext]; rfl
theorem ba_eq {s : ByteArray} {l : List UInt8} (h : s.toList = l) : s = ⟨l.toArray⟩ := by rw [← h]; exact (bytes_back s).symm

def greatB (n : Nat) : Bool := decide (65 ≤ n) && decide (n ≤ 90)
def figB (n : Nat) : Bool := decide (48 ≤ n) && decide (n ≤ 57)
theorem insB_eq (c : UInt8) : insB c = (lowB c.toNat || greatB c.toNat || figB c.toNat || decide (c.toNat = 95)) := rfl
set_option maxRecDepth 100000 in
theorem small_any (r : Nat) (w : World) : Calls Tryz.prog 113 #[.int .u8 r] w (RetSameB (lowB r) w) := by
  by_cases h1 : (97 : Int) ≤ r <;> by_cases h2 : (r : Int) ≤ 122 <;> (try (exfalso; omega))
  all_goals
    go_enter Tryz.func113, Tryz.ntmps113
    go_wp2
    go_ret
    exact ⟨by simp [lowB]; omega, rfl⟩
set_option maxRecDepth 100000 in
theorem great_any (r : Nat) (w : World) : Calls Tryz.prog 114 #[.int .u8 r] w (RetSameB (greatB r) w) := by
  by_cases h1 : (65 : Int) ≤ r <;> by_cases h2 : (r : Int) ≤ 90 <;> (try (exfalso; omega))
  all_goals
    go_enter Tryz.func114, Tryz.ntmps114
    go_wp2
    go_ret
    exact ⟨by simp [greatB]; omega, rfl⟩
set_option maxRecDepth 100000 in
theorem figure_any (r : Nat) (w : World) : Calls Tryz.prog 115 #[.int .u8 r] w (RetSameB (figB r) w) := by
  by_cases h1 : (48 : Int) ≤ r <;> by_cases h2 : (r : Int) ≤ 57 <;> (try (exfalso; omega))
  all_goals
    go_enter Tryz.func115, Tryz.ntmps115
    go_wp2
    go_ret
    exact ⟨by simp [figB]; omega, rfl⟩

/-! ### run -/
theorem ins_run : ∀ (l : List UInt8) (k : Nat) (c : UInt8), k ≤ runL l → l[k]? = some c → insB c = true → k + 1 ≤ runL l
  | [], k, c, h, hc, hi => by simp at hc
  | d :: r, 0, c, h, hc, hi => by
    simp at hc; subst hc
    simp [runL, hi]
  | d :: r, k + 1, c, h, hc, hi => by
    unfold runL at h ⊢
    rw [List.takeWhile_cons] at h ⊢
    cases hd : insB d with
    | false => rw [hd] at h; simp at h
    | true =>
      rw [hd] at h
      simp only [if_true, List.length_cons] at h ⊢
      have := ins_run r k c (by unfold runL; omega) (by simpa using hc) hi
      unfold runL at this; omega
theorem run_out : ∀ (l : List UInt8) (k : Nat) (c : UInt8), k ≤ runL l → l[k]? = some c → insB c = false → runL l = k
  | [], k, c, h, hc, hi => by simp at hc
  | d :: r, 0, c, h, hc, hi => by
    simp at hc; subst hc
    simp [runL, hi]
  | d :: r, k + 1, c, h, hc, hi => by
    unfold runL at h ⊢
    rw [List.takeWhile_cons] at h ⊢
    cases hd : insB d with
    | false => rw [hd] at h; simp at h
    | true =>
      rw [hd] at h
      simp only [if_true, List.length_cons] at h ⊢
      have := run_out r k c (by unfold runL; omega) (by simpa using hc) hi
      unfold runL at this; omega
def RetSame' (n : Int) (w : World) (e : Ending) (w' : World) : Prop := e = .returned (.int .i64 n) ∧ w' = w

set_option maxRecDepth 100000 in
set_option maxHeartbeats 2000000 in
theorem run_any (s : ByteArray) (hs : s.size ≤ 140737488351232) (w : World) : Calls Tryz.prog 98 #[.string s] w (RetSame' (runL s.toList) w) := by
  have Hle := Lib.hid (runL_le s.toList)
  have Hlen := Lib.hid (ba_len s)
  obtain ⟨R, HR⟩ : ∃ R, Hid (R = runL s.toList) := ⟨_, rfl⟩
  rw [← HR.out]
  have Hs := Lib.hid (fun r => small_any r w)
  have Hg := Lib.hid (fun r => great_any r w)
  have Hf := Lib.hid (fun r => figure_any r w)
  go_enter Tryz.func98, Tryz.ntmps98
  go_wp2
  go_loop [3] (fun i => ∃ k : Nat, k ≤ s.size ∧ i = .int .i64 k ∧ Hid (k ≤ runL s.toList)) (fun i => s.size - (intOf i).toNat)
  case atStart => exact ⟨0, by omega, rfl, Nat.zero_le _⟩
  case round =>
    obtain ⟨k, hk, rfl, HK⟩ := hrel
    by_cases hlt : k < s.size
    · have i0 : (0 : Int) ≤ (k : Int) := by omega
      have i1 : (k : Int) < (s.size : Int) := by omega
      have Hc := Lib.hid (ba_get hlt)
      have HN : Hid (insB (s[k]'hlt) = true → k + 1 ≤ runL s.toList) := fun h => ins_run _ _ _ HK.out Hc.out h
      have HF : Hid (insB (s[k]'hlt) = false → R = k) := fun h => by rw [HR.out]; exact run_out _ _ _ HK.out Hc.out h
      have HE := Lib.hid (insB_eq (s[k]'hlt))
      cases h1 : lowB (s[k]'hlt).toNat with
      | true =>
        have HI : Hid (insB (s[k]'hlt) = true) := by show _ = _; rw [HE.out]; simp [h1]
        go_wp2_with (go_at_call 113; refine (Hs.out _).mono ?_; rintro e w1 ⟨rfl, rfl⟩)
        go_round
        case rel => exact ⟨k + 1, by omega, by go_num, HN.out HI.out⟩
        case measure => simp [intOf]; omega
      | false =>
      cases h2 : greatB (s[k]'hlt).toNat with
      | true =>
        have HI : Hid (insB (s[k]'hlt) = true) := by show _ = _; rw [HE.out]; simp [h2]
        go_wp2_with (first | (go_at_call 113; refine (Hs.out _).mono ?_; rintro e w1 ⟨rfl, rfl⟩) | (go_at_call 114; refine (Hg.out _).mono ?_; rintro e w1 ⟨rfl, rfl⟩))
        go_round
        case rel => exact ⟨k + 1, by omega, by go_num, HN.out HI.out⟩
        case measure => simp [intOf]; omega
      | false =>
      cases h3 : figB (s[k]'hlt).toNat with
      | true =>
        have HI : Hid (insB (s[k]'hlt) = true) := by show _ = _; rw [HE.out]; simp [h3]
        go_wp2_with (first | (go_at_call 113; refine (Hs.out _).mono ?_; rintro e w1 ⟨rfl, rfl⟩) | (go_at_call 114; refine (Hg.out _).mono ?_; rintro e w1 ⟨rfl, rfl⟩) | (go_at_call 115; refine (Hf.out _).mono ?_; rintro e w1 ⟨rfl, rfl⟩))
        go_round
        case rel => exact ⟨k + 1, by omega, by go_num, HN.out HI.out⟩
        case measure => simp [intOf]; omega
      | false =>
      by_cases h4 : (s[k]'hlt).toNat = 95
      · have HI : Hid (insB (s[k]'hlt) = true) := by show _ = _; rw [HE.out]; simp [h4]
        have z5 : (((s[k]'hlt).toNat : Int) == 95) = true := by simp; omega
        clear h4
        go_wp2_with (first | (go_at_call 113; refine (Hs.out _).mono ?_; rintro e w1 ⟨rfl, rfl⟩) | (go_at_call 114; refine (Hg.out _).mono ?_; rintro e w1 ⟨rfl, rfl⟩) | (go_at_call 115; refine (Hf.out _).mono ?_; rintro e w1 ⟨rfl, rfl⟩))
        go_round
        case rel => exact ⟨k + 1, by omega, by go_num, HN.out HI.out⟩
        case measure => simp [intOf]; omega
      · have HI : Hid (insB (s[k]'hlt) = false) := by show _ = _; rw [HE.out]; simp [h1, h2, h3, h4]
        have z5 : (((s[k]'hlt).toNat : Int) == 95) = false := by simp; omega
        clear h4
        go_wp2_with (first | (go_at_call 113; refine (Hs.out _).mono ?_; rintro e w1 ⟨rfl, rfl⟩) | (go_at_call 114; refine (Hg.out _).mono ?_; rintro e w1 ⟨rfl, rfl⟩) | (go_at_call 115; refine (Hf.out _).mono ?_; rintro e w1 ⟨rfl, rfl⟩))
        go_ret
        exact ⟨by rw [HF.out HI.out]; rfl, rfl⟩
    · have i1 : ¬ (k : Int) < (s.size : Int) := by omega
      have HE : Hid (R = k) := by
        show _ = _
        have h1 := HK.out; have h2 := Hle.out; have h3 := Hlen.out; have h4 := HR.out
        omega
      go_wp2_with fail
      go_ret
      exact ⟨by rw [HE.out]; rfl, rfl⟩
end Go.Proofs.YtiffmiabhapfnaaGreatDoor
