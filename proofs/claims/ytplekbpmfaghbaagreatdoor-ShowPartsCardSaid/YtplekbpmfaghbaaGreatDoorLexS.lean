/- lex.skip, over strings.IndexByte and strings.Cut. -/
import Derived.Test.YtplekbpmfaghbaaGreatDoorLexG
namespace Go.Proofs.YtplekbpmfaghbaaGreatDoor
open Go.RowKit

theorem idx_byte (c : UInt8) : ∀ l : List UInt8, Lib.indexByte l c = if c ∈ l then ((l.takeWhile (· != c)).length : Int) else -1
  | [] => by simp [Lib.indexByte]
  | d :: l => by
    have ih := idx_byte c l
    unfold Lib.indexByte
    by_cases h : d = c
    · subst h; simp
    · have h1 : (d == c) = false := by simpa using h
      have h2 : (d != c) = true := by simpa using h
      rw [h1, ih, List.takeWhile_cons, h2]
      by_cases hm : c ∈ l
      · have h3 : ¬ (((l.takeWhile (· != c)).length : Int) == -1) = true := by simp
        simp [hm, h3]
      · have h4 : ¬ c ∈ d :: l := by simp [hm, Ne.symm h]
        simp [hm, h4]
theorem idx_blank (c : UInt8) : decide (0 ≤ Lib.indexByte [9, 10, 13, 32] c) = blankB c := by
  rw [idx_byte]
  unfold blankB
  by_cases h : c = 9 ∨ c = 10 ∨ c = 13 ∨ c = 32
  · rcases h with rfl | rfl | rfl | rfl <;> simp
  · simp only [not_or] at h
    simp [h]
theorem take_ne (l : List UInt8) (h : (10 : UInt8) ∉ l) : l.takeWhile (· != 10) = l := by
  induction l with
  | nil => rfl
  | cons d l ih =>
    simp only [List.mem_cons, not_or] at h
    rw [List.takeWhile_cons]
    have : (d != 10) = true := by simpa using Ne.symm h.1
    rw [this, if_pos rfl, ih h.2]
theorem take_lt (l : List UInt8) (h : (10 : UInt8) ∈ l) : (l.takeWhile (· != 10)).length + 1 ≤ l.length := by
  induction l with
  | nil => cases h
  | cons d l ih =>
    rw [List.takeWhile_cons]
    by_cases hd : d = 10
    · subst hd; simp
    · have : (d != 10) = true := by simpa using hd
      rw [this, if_pos rfl]
      have := ih (by simpa [Ne.symm hd] using h)
      simp only [List.length_cons]; omega

set_option maxRecDepth 100000 in
set_option maxHeartbeats 1000000 in
theorem idx10_any (s : ByteArray) (hne : (([10] : List UInt8) == s.toList) = false) (w : World) : Calls Tryz.prog 224 #[.string s, .string ⟨#[10]⟩] w (RetSame' (Lib.indexByte s.toList 10) w) := by
  have HI : Hid (∀ w, Calls Tryz.prog 206 #[.string s, .int .u8 10] w (RetSame' (Lib.indexByte s.toList 10) w)) := by
    intro w
    have h := Any.stringslite_IndexByte { Tryz.lays137 with } s 10 w
    rw [← ByteArray.toList_eq] at h
    exact h
  generalize Lib.indexByte s.toList 10 = R at HI ⊢
  go_enter Tryz.func224, Tryz.ntmps224
  go_wp2_with (go_at_call 206; refine (HI.out _).mono ?_; rintro e w1 ⟨rfl, rfl⟩)
  go_ret
  exact ⟨rfl, rfl⟩

def CutPost (s : ByteArray) (w : World) (e : Ending) (w' : World) : Prop := ∃ (a : ByteArray) (b c : Value), e = .returned (.tuple #[.string a, b, c]) ∧ a.size = (s.toList.takeWhile (· != 10)).length ∧ Below w.heap.size w w'
set_option maxRecDepth 100000 in
set_option maxHeartbeats 1000000 in
theorem cutL_any (s : ByteArray) (hs : s.size ≤ 140737488351232) (hne : (([10] : List UInt8) == s.toList) = false) (w : World) : Calls Tryz.prog 207 #[.string s, .string ⟨#[10]⟩] w (CutPost s w) := by
  have HI := Lib.hid (idx10_any s hne)
  have Hlen := Lib.hid (ba_len s)
  by_cases hm : (10 : UInt8) ∈ s.toList
  · have hlt := take_lt _ hm
    have e1 : Lib.indexByte s.toList 10 = ((s.toList.takeWhile (· != 10)).length : Int) := by rw [idx_byte, if_pos hm]
    rw [e1] at HI
    obtain ⟨k, hk⟩ : ∃ k, Hid (k = (s.toList.takeWhile (· != 10)).length) := ⟨_, rfl⟩
    have hks : k + 1 ≤ s.size := by have := hk.out; have := Hlen.out; omega
    rw [← hk.out] at HI
    have c1 : (0 : Int) ≤ (k : Int) := by omega
    have c2 : (k : Int) ≤ (s.size : Int) := by omega
    have c3 : (0 : Int) ≤ (k : Int) + 1 := by omega
    have c4 : (k : Int) + 1 ≤ (s.size : Int) := by omega
    have c5 : IntKind.i64.wrap ((k : Int) + 1) = (k : Int) + 1 := by simp [IntKind.wrap, IntKind.signed, IntKind.bits]; omega
    clear hm hlt e1 hne
    go_enter Tryz.func207, Tryz.ntmps207
    go_wp2_with (go_at_call 224; refine (HI.out _).mono ?_; rintro e w1 ⟨rfl, rfl⟩)
    go_quiet (fail)
    go_wp2_with fail
    go_ret3
    refine ⟨_, _, _, rfl, ?_, below_drewN _ _ _⟩
    show ByteArray.size (s.extract 0 k) = _
    rw [← hk.out]
    simp; omega
  · have e1 : Lib.indexByte s.toList 10 = -1 := by rw [idx_byte, if_neg hm]
    rw [e1] at HI
    have hl : Hid (s.size = (s.toList.takeWhile (· != 10)).length) := by show _ = _; rw [take_ne _ hm, Hlen.out]
    clear hm e1 hne
    go_enter Tryz.func207, Tryz.ntmps207
    go_wp2_with (go_at_call 224; refine (HI.out _).mono ?_; rintro e w1 ⟨rfl, rfl⟩)
    go_ret3
    exact ⟨_, _, _, rfl, hl.out, Below.refl _ _⟩
set_option maxRecDepth 100000 in
set_option maxHeartbeats 1000000 in
theorem cut_any (s : ByteArray) (hs : s.size ≤ 140737488351232) (hne : (([10] : List UInt8) == s.toList) = false) (w : World) : Calls Tryz.prog 198 #[.string s, .string ⟨#[10]⟩] w (CutPost s w) := by
  have HI := Lib.hid (cutL_any s hs hne)
  clear hne
  go_enter Tryz.func198, Tryz.ntmps198
  go_wp2_with fail
  refine (HI.out _).mono ?_
  rintro e w1 ⟨a, b, c, rfl, ha, hb⟩
  have Ha := Lib.hid ha
  clear ha
  go_wp2_with fail
  go_ret3
  exact ⟨_, _, _, rfl, Ha.out, hb⟩

set_option maxRecDepth 100000 in
set_option maxHeartbeats 2000000 in
theorem skip_any (s : ByteArray) (hs : s.size ≤ 140737488351232) (a : Nat) (ha : a ≤ s.size) (w : World) : Calls Tryz.prog 186 #[.string s, .int .i64 a] w (RetInt ((a + skipG false (s.toList.drop a) : Nat) : Int) w) := by
  have Hlen := Lib.hid (ba_len s)
  have HB : Hid (∀ (c : UInt8) w, Calls Tryz.prog 197 #[.string ⟨#[9, 10, 13, 32]⟩, .int .u8 c.toNat] w (fun e w' => ∃ n : Int, e = .returned (.int .i64 n) ∧ decide (0 ≤ n) = blankB c ∧ w' = w)) := by
    intro c w
    refine (Tryz.strings_IndexByte ⟨#[9, 10, 13, 32]⟩ c.toNat w).mono ?_
    rintro e w1 ⟨rfl, rfl⟩
    refine ⟨_, rfl, ?_, rfl⟩
    have h := idx_blank c
    simpa using h
  obtain ⟨R, HR⟩ : ∃ R : Nat, Hid (R = a + skipG false (s.toList.drop a)) := ⟨_, rfl⟩
  rw [← HR.out]
  go_enter Tryz.func186, Tryz.ntmps186
  go_wp2
  go_loopw [1, 5, 6, 7, 8, 17, 23] (fun i _ _ _ _ _ _ wr => ∃ k : Nat, k ≤ s.size ∧ i = .int .i64 k ∧ Hid (R = k + skipG false (s.toList.drop k)) ∧ Below w.heap.size w wr) (fun i _ _ _ _ _ _ _ => s.size - (intOf i).toNat)
  case atStart => exact ⟨a, ha, rfl, HR, Below.refl _ _⟩
  case round =>
    obtain ⟨k, hk, rfl, HK, hbr⟩ := hrel
    have i0 : (0 : Int) ≤ (k : Int) := by omega
    by_cases hlt : k < s.size
    · have i1 : (k : Int) < (s.size : Int) := by omega
      have i2 : (k : Int) ≤ (s.size : Int) := by omega
      have HD : Hid (s.toList.drop k = (s[k]'hlt) :: s.toList.drop (k + 1)) := by
        show _ = _
        have h1 := ba_get hlt
        obtain ⟨h2, h3⟩ := List.getElem?_eq_some_iff.1 h1
        rw [List.drop_eq_getElem_cons h2, h3]
      have HC := Lib.hid (HB.out (s[k]'hlt) wr)
      cases hbl : blankB (s[k]'hlt) with
      | true =>
        have HK2 : Hid (R = k + 1 + skipG false (s.toList.drop (k + 1))) := by
          show _ = _; rw [HK.out, HD.out, skip_one hbl]; omega
        clear HK HR ha
        go_wp2_with fail
        refine HC.out.mono ?_
        rintro e w1 ⟨n, rfl, hn, rfl⟩
        rw [hbl] at hn
        go_wp2_with fail
        go_roundw
        case rel => exact ⟨k + 1, by omega, by go_num, HK2, hbr⟩
        case measure => simp [intOf]; omega
      | false =>
        by_cases hp : (s[k]'hlt) = 37
        · have z0 : (((s[k]'hlt).toNat : Int) == 37) = true := by rw [hp]; decide
          obtain ⟨m, Hm⟩ : ∃ m, Hid (m = ((s.toList.drop k).takeWhile (· != 10)).length) := ⟨_, rfl⟩
          have hk1 : 1 ≤ m := by
            rw [Hm.out, HD.out, hp]
            simp
          have HT : Hid (m ≤ s.size - k) := by
            show _ ≤ _
            rw [Hm.out]
            have h1 : ((s.toList.drop k).takeWhile (· != 10)).length ≤ (s.toList.drop k).length := List.Sublist.length_le (List.takeWhile_sublist _)
            rw [List.length_drop, Hlen.out] at h1; exact h1
          have HK2 : Hid (R = k + m + skipG false (s.toList.drop (k + m))) := by
            show _ = _
            rw [HK.out, Hm.out]
            conv => lhs; rw [HD.out, hp, skip_per]
            rw [← hp, ← HD.out, List.drop_drop]; omega
          have hne : (([10] : List UInt8) == (s.extract k s.size).toList) = false := by
            rw [ba_drop, HD.out, hp]
            simp
          have HCut := Lib.hid (cut_any (s.extract k s.size) (by simp; omega) hne)
          rw [hbl] at HC
          have ht := HT.out
          clear HK HR ha hne hp
          go_wp2_with fail
          refine HC.out.mono ?_
          rintro e w1 ⟨n, rfl, hn, rfl⟩
          go_wp2_with fail
          refine (HCut.out _).mono ?_
          rintro e w2 ⟨x, b, c, rfl, hx, hbx⟩
          have Hx : Hid (x.size = m) := by show _ = _; rw [hx, Hm.out, ba_drop]
          have hxx := Hx.out
          clear hx
          go_wp2_with fail
          go_roundw
          case rel => exact ⟨k + m, by omega, by go_num, HK2, below_next hbr hbx⟩
          case measure => simp [intOf]; omega
        · have z0 : (((s[k]'hlt).toNat : Int) == 37) = false := by
            simp only [beq_eq_false_iff_ne, ne_eq]
            intro h; apply hp
            have h2 : (s[k]'hlt).toNat = 37 := by omega
            exact UInt8.toNat_inj.1 (by rw [h2]; rfl)
          have HK2 : Hid (R = k) := by show _ = _; rw [HK.out, HD.out, skip_zero hbl hp]; rfl
          rw [hbl] at HC
          clear HK HR ha hp
          go_wp2_with fail
          refine HC.out.mono ?_
          rintro e w1 ⟨n, rfl, hn, rfl⟩
          go_wp2_with fail
          go_ret
          exact ⟨by rw [HK2.out]; rfl, hbr⟩
    · have i1 : ¬ (k : Int) < (s.size : Int) := by omega
      have HK2 : Hid (R = k) := by
        show _ = _
        rw [HK.out, List.drop_eq_nil_of_le (by rw [Hlen.out]; omega)]; rfl
      clear HK HR ha
      go_wp2_with fail
      go_ret
      exact ⟨by rw [HK2.out]; rfl, hbr⟩
end Go.Proofs.YtplekbpmfaghbaaGreatDoor
