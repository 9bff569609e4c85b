/- My own texts VParse, LexG, LexS, Has, LexW, as far as this claim needs them. -/
import Derived.Test.YtplekbpmfaghbaaDoorZg1
import Derived.Test.YtplekbpmfaghbaaDoorZg3
import Derived.Laws.BitsAllLaws
import Derived.Laws.IdiomStrings
import Derived.Deep.DeepCutAuto
import Derived.Lib.CutLaws
set_option linter.unusedVariables false
set_option linter.unusedSimpArgs false
namespace Go.Proofs.YtplekbpmfaghbaaDoor
open Go.RowKit
def gv0 : GV := ⟨0, 0, ⟨#[]⟩⟩
theorem toList_mk (l : List UInt8) : (⟨l.toArray⟩ : ByteArray).toList = l := by rw [ByteArray.toList_eq]
theorem bytes_back (s : ByteArray) : (⟨s.toList.toArray⟩ : ByteArray) = s := by
  rw [ByteArray.toList_eq]
set_option maxRecDepth 100000 in
set_option maxHeartbeats 400000 in
theorem is_any (n k : Int) (w : World) : Calls Tryd.prog 9 #[errV 40 n, .int .i64 k] w (RetBool (n == k) w) := by
  have hn := Lib.hid (num_any n)
  go_enter Tryd.func9, Tryd.ntmps9
  go_wp2_with fail
  refine (hn.out _).mono ?_
  rintro e w1 ⟨rfl, hq1⟩
  go_wp2_with fail
  go_ret
  exact ⟨rfl, hq1⟩
theorem ba_get {s : ByteArray} {k : Nat} (h : k < s.size) : s.toList[k]? = some (s[k]'h) := by
  rw [ByteArray.toList_eq, List.getElem?_eq_getElem (h := show k < s.data.toList.length from by simpa using h)]
  rfl
theorem ba_len (s : ByteArray) : s.toList.length = s.size := by rw [ByteArray.toList_eq]; rfl
theorem ba_head {s : ByteArray} (h : 0 < s.size) : s.toList.head? = some (s[0]'h) := by
  rw [List.head?_eq_getElem?]; exact ba_get h
def ErrIs (W : World) (g : Nat) : Prop := ∃ tp p, W.cell? ⟨g, 0, none⟩ = some (.iface tp p)
def ErrW (W : World) : Prop := ErrIs W 4 ∧ ErrIs W 5
theorem ErrW.on {W W' : World} (h : ErrW W) (hb : Below W.heap.size W W') : ErrW W' := by
  obtain ⟨⟨t1, p1, h1⟩, ⟨t2, p2, h2⟩⟩ := h
  exact ⟨⟨t1, p1, below_cell hb h1⟩, ⟨t2, p2, below_cell hb h2⟩⟩
def AtoiPost (s : ByteArray) (w : World) (e : Ending) (w' : World) : Prop :=
  ∃ n : Int, ∃ ev : Value, fits n ∧ e = .returned (.tuple #[.int .i64 n, ev]) ∧ Below w.heap.size w w' ∧
    ((Lib.atoiAll s.toList = .ok n ∧ ev = .nilIface) ∨ ((∀ m, Lib.atoiAll s.toList ≠ .ok m) ∧ ∃ T p, ev = .iface T p))
theorem fits_of {n : Int} (h1 : -9223372036854775808 ≤ n) (h2 : n ≤ 9223372036854775807) : fits n := (fits_iff n).2 ⟨h1, h2⟩
theorem atoi_any (s : ByteArray) (hs : s.size ≤ 140737488351232) (w : World) (h : ErrW w) : Calls Tryd.prog 48 #[.string s] w (AtoiPost s w) := by
  obtain ⟨⟨t1, p1, h1⟩, ⟨t2, p2, h2⟩⟩ := h
  have el : s.data.toList = s.toList := (ByteArray.toList_eq s).symm
  cases ha : Lib.atoiAll s.toList
  · rename_i v
    refine (Tryd.strconv_Atoi_ok s (by omega) v (by rw [el]; exact ha) w).mono ?_
    rintro e w' ⟨rfl, hw⟩
    have hb := Lib.atoiAll_bounds ha
    refine ⟨v, .nilIface, fits_of hb.1 hb.2, rfl, ?_, .inl ⟨ha, rfl⟩⟩
    rcases hw with rfl | ⟨t, rfl⟩
    · exact Below.refl _ _
    · exact Lib.bytesWorld_below _ _ _
  · refine (Any.strconv_Atoi_syntax Tryd.laysC172 s (by omega) (by rw [el]; exact ha) _ w h1 (.inr ⟨_, _, rfl⟩)).mono ?_
    rintro e w' ⟨N, rfl, -, -, hb⟩
    exact ⟨0, _, by unfold fits; decide, rfl, hb, .inr ⟨(fun m e => by rw [ha] at e; cases e), _, _, rfl⟩⟩
  · refine (Any.strconv_Atoi_range Tryd.laysC172 s (by omega) (by rw [el]; exact ha) _ w h2 (.inr ⟨_, _, rfl⟩)).mono ?_
    rintro e w' ⟨N, rfl, -, -, hb⟩
    exact ⟨_, _, by unfold Lib.atoiSat; split <;> (unfold fits; decide), rfl, hb, .inr ⟨(fun m e => by rw [ha] at e; cases e), _, _, rfl⟩⟩
end Go.Proofs.YtplekbpmfaghbaaDoor

namespace Go.Proofs.YtplekbpmfaghbaaDoor
open Go.RowKit
theorem ba_ext (s : ByteArray) (a b : Nat) : (s.extract a b).toList = (s.toList.take b).drop a := by
  rw [ByteArray.toList_eq, ByteArray.toList_eq, ByteArray.data_extract, Array.toList_extract]
  show List.take (b - a) (s.data.toList.drop a) = _
  rw [List.drop_take]
theorem ba_drop (s : ByteArray) (a : Nat) : (s.extract a s.size).toList = s.toList.drop a := by
  rw [ba_ext, List.take_of_length_le (by rw [ba_len]; exact Nat.le_refl _)]
theorem ba_take (s : ByteArray) (b : Nat) : (s.extract 0 b).toList = s.toList.take b := by rw [ba_ext]; rfl
theorem ba_eq {s : ByteArray} {l : List UInt8} (h : s.toList = l) : s = ⟨l.toArray⟩ := by rw [← h]; exact (bytes_back s).symm
def greatB (n : Nat) : Bool := decide (65 ≤ n) && decide (n ≤ 90)
def figB (n : Nat) : Bool := decide (48 ≤ n) && decide (n ≤ 57)
theorem insB_eq (c : UInt8) : insB c = (lowB c.toNat || greatB c.toNat || figB c.toNat || decide (c.toNat = 95)) := rfl
set_option maxRecDepth 100000 in
theorem small_any (r : Nat) (w : World) : Calls Tryd.prog 62 #[.int .u8 r] w (RetSameB (lowB r) w) := by
  by_cases h1 : (97 : Int) ≤ r <;> by_cases h2 : (r : Int) ≤ 122 <;> (try (exfalso; omega))
  all_goals
    go_enter Tryd.func62, Tryd.ntmps62
    go_wp2
    go_ret
    exact ⟨by simp [lowB]; omega, rfl⟩
set_option maxRecDepth 100000 in
theorem great_any (r : Nat) (w : World) : Calls Tryd.prog 63 #[.int .u8 r] w (RetSameB (greatB r) w) := by
  by_cases h1 : (65 : Int) ≤ r <;> by_cases h2 : (r : Int) ≤ 90 <;> (try (exfalso; omega))
  all_goals
    go_enter Tryd.func63, Tryd.ntmps63
    go_wp2
    go_ret
    exact ⟨by simp [greatB]; omega, rfl⟩
set_option maxRecDepth 100000 in
theorem figure_any (r : Nat) (w : World) : Calls Tryd.prog 64 #[.int .u8 r] w (RetSameB (figB r) w) := by
  by_cases h1 : (48 : Int) ≤ r <;> by_cases h2 : (r : Int) ≤ 57 <;> (try (exfalso; omega))
  all_goals
    go_enter Tryd.func64, Tryd.ntmps64
    go_wp2
    go_ret
    exact ⟨by simp [figB]; omega, rfl⟩
theorem ins_run : ∀ (l : List UInt8) (k : Nat) (c : UInt8), k ≤ runL l → l[k]? = some c → insB c = true → k + 1 ≤ runL l
  | [], k, c, h, hc, hi => by simp at hc
  | d :: r, 0, c, h, hc, hi => by
    simp at hc; subst hc
    simp [runL, hi]
  | d :: r, k + 1, c, h, hc, hi => by
    unfold runL at h ⊢
    rw [List.takeWhile_cons] at h ⊢
    cases hd : insB d with
    | false => rw [hd] at h; simp at h
    | true =>
      rw [hd] at h
      simp only [if_true, List.length_cons] at h ⊢
      have := ins_run r k c (by unfold runL; omega) (by simpa using hc) hi
      unfold runL at this; omega
theorem run_out : ∀ (l : List UInt8) (k : Nat) (c : UInt8), k ≤ runL l → l[k]? = some c → insB c = false → runL l = k
  | [], k, c, h, hc, hi => by simp at hc
  | d :: r, 0, c, h, hc, hi => by
    simp at hc; subst hc
    simp [runL, hi]
  | d :: r, k + 1, c, h, hc, hi => by
    unfold runL at h ⊢
    rw [List.takeWhile_cons] at h ⊢
    cases hd : insB d with
    | false => rw [hd] at h; simp at h
    | true =>
      rw [hd] at h
      simp only [if_true, List.length_cons] at h ⊢
      have := run_out r k c (by unfold runL; omega) (by simpa using hc) hi
      unfold runL at this; omega
def RetSame' (n : Int) (w : World) (e : Ending) (w' : World) : Prop := e = .returned (.int .i64 n) ∧ w' = w
set_option maxRecDepth 100000 in
set_option maxHeartbeats 2000000 in
theorem run_any (s : ByteArray) (hs : s.size ≤ 140737488351232) (w : World) : Calls Tryd.prog 54 #[.string s] w (RetSame' (runL s.toList) w) := by
  have Hle := Lib.hid (runL_le s.toList)
  have Hlen := Lib.hid (ba_len s)
  obtain ⟨R, HR⟩ : ∃ R, Hid (R = runL s.toList) := ⟨_, rfl⟩
  rw [← HR.out]
  have Hs := Lib.hid (fun r => small_any r w)
  have Hg := Lib.hid (fun r => great_any r w)
  have Hf := Lib.hid (fun r => figure_any r w)
  go_enter Tryd.func54, Tryd.ntmps54
  go_wp2
  go_loop [3] (fun i => ∃ k : Nat, k ≤ s.size ∧ i = .int .i64 k ∧ Hid (k ≤ runL s.toList)) (fun i => s.size - (intOf i).toNat)
  case atStart => exact ⟨0, by omega, rfl, Nat.zero_le _⟩
  case round =>
    obtain ⟨k, hk, rfl, HK⟩ := hrel
    by_cases hlt : k < s.size
    · have i0 : (0 : Int) ≤ (k : Int) := by omega
      have i1 : (k : Int) < (s.size : Int) := by omega
      have Hc := Lib.hid (ba_get hlt)
      have HN : Hid (insB (s[k]'hlt) = true → k + 1 ≤ runL s.toList) := fun h => ins_run _ _ _ HK.out Hc.out h
      have HF : Hid (insB (s[k]'hlt) = false → R = k) := fun h => by rw [HR.out]; exact run_out _ _ _ HK.out Hc.out h
      have HE := Lib.hid (insB_eq (s[k]'hlt))
      cases h1 : lowB (s[k]'hlt).toNat with
      | true =>
        have HI : Hid (insB (s[k]'hlt) = true) := by show _ = _; rw [HE.out]; simp [h1]
        go_wp2_with (go_at_call 62; refine (Hs.out _).mono ?_; rintro e w1 ⟨rfl, rfl⟩)
        go_round
        case rel => exact ⟨k + 1, by omega, by go_num, HN.out HI.out⟩
        case measure => simp [intOf]; omega
      | false =>
      cases h2 : greatB (s[k]'hlt).toNat with
      | true =>
        have HI : Hid (insB (s[k]'hlt) = true) := by show _ = _; rw [HE.out]; simp [h2]
        go_wp2_with (first | (go_at_call 62; refine (Hs.out _).mono ?_; rintro e w1 ⟨rfl, rfl⟩) | (go_at_call 63; refine (Hg.out _).mono ?_; rintro e w1 ⟨rfl, rfl⟩))
        go_round
        case rel => exact ⟨k + 1, by omega, by go_num, HN.out HI.out⟩
        case measure => simp [intOf]; omega
      | false =>
      cases h3 : figB (s[k]'hlt).toNat with
      | true =>
        have HI : Hid (insB (s[k]'hlt) = true) := by show _ = _; rw [HE.out]; simp [h3]
        go_wp2_with (first | (go_at_call 62; refine (Hs.out _).mono ?_; rintro e w1 ⟨rfl, rfl⟩) | (go_at_call 63; refine (Hg.out _).mono ?_; rintro e w1 ⟨rfl, rfl⟩) | (go_at_call 64; refine (Hf.out _).mono ?_; rintro e w1 ⟨rfl, rfl⟩))
        go_round
        case rel => exact ⟨k + 1, by omega, by go_num, HN.out HI.out⟩
        case measure => simp [intOf]; omega
      | false =>
      by_cases h4 : (s[k]'hlt).toNat = 95
      · have HI : Hid (insB (s[k]'hlt) = true) := by show _ = _; rw [HE.out]; simp [h4]
        have z5 : (((s[k]'hlt).toNat : Int) == 95) = true := by simp; omega
        clear h4
        go_wp2_with (first | (go_at_call 62; refine (Hs.out _).mono ?_; rintro e w1 ⟨rfl, rfl⟩) | (go_at_call 63; refine (Hg.out _).mono ?_; rintro e w1 ⟨rfl, rfl⟩) | (go_at_call 64; refine (Hf.out _).mono ?_; rintro e w1 ⟨rfl, rfl⟩))
        go_round
        case rel => exact ⟨k + 1, by omega, by go_num, HN.out HI.out⟩
        case measure => simp [intOf]; omega
      · have HI : Hid (insB (s[k]'hlt) = false) := by show _ = _; rw [HE.out]; simp [h1, h2, h3, h4]
        have z5 : (((s[k]'hlt).toNat : Int) == 95) = false := by simp; omega
        clear h4
        go_wp2_with (first | (go_at_call 62; refine (Hs.out _).mono ?_; rintro e w1 ⟨rfl, rfl⟩) | (go_at_call 63; refine (Hg.out _).mono ?_; rintro e w1 ⟨rfl, rfl⟩) | (go_at_call 64; refine (Hf.out _).mono ?_; rintro e w1 ⟨rfl, rfl⟩))
        go_ret
        exact ⟨by rw [HF.out HI.out]; rfl, rfl⟩
    · have i1 : ¬ (k : Int) < (s.size : Int) := by omega
      have HE : Hid (R = k) := by
        show _ = _
        have h1 := HK.out; have h2 := Hle.out; have h3 := Hlen.out; have h4 := HR.out
        omega
      go_wp2_with fail
      go_ret
      exact ⟨by rw [HE.out]; rfl, rfl⟩
end Go.Proofs.YtplekbpmfaghbaaDoor

namespace Go.Proofs.YtplekbpmfaghbaaDoor
open Go.RowKit
theorem idx_byte (c : UInt8) : ∀ l : List UInt8, Lib.indexByte l c = if c ∈ l then ((l.takeWhile (· != c)).length : Int) else -1
  | [] => by simp [Lib.indexByte]
  | d :: l => by
    have ih := idx_byte c l
    unfold Lib.indexByte
    by_cases h : d = c
    · subst h; simp
    · have h1 : (d == c) = false := by simpa using h
      have h2 : (d != c) = true := by simpa using h
      rw [h1, ih, List.takeWhile_cons, h2]
      by_cases hm : c ∈ l
      · have h3 : ¬ (((l.takeWhile (· != c)).length : Int) == -1) = true := by simp
        simp [hm, h3]
      · have h4 : ¬ c ∈ d :: l := by simp [hm, Ne.symm h]
        simp [hm, h4]
theorem idx_blank (c : UInt8) : decide (0 ≤ Lib.indexByte [9, 10, 13, 32] c) = blankB c := by
  rw [idx_byte]
  unfold blankB
  by_cases h : c = 9 ∨ c = 10 ∨ c = 13 ∨ c = 32
  · rcases h with rfl | rfl | rfl | rfl <;> simp
  · simp only [not_or] at h
    simp [h]
theorem take_ne (l : List UInt8) (h : (10 : UInt8) ∉ l) : l.takeWhile (· != 10) = l := by
  induction l with
  | nil => rfl
  | cons d l ih =>
    simp only [List.mem_cons, not_or] at h
    rw [List.takeWhile_cons]
    have : (d != 10) = true := by simpa using Ne.symm h.1
    rw [this, if_pos rfl, ih h.2]
theorem take_lt (l : List UInt8) (h : (10 : UInt8) ∈ l) : (l.takeWhile (· != 10)).length + 1 ≤ l.length := by
  induction l with
  | nil => cases h
  | cons d l ih =>
    rw [List.takeWhile_cons]
    by_cases hd : d = 10
    · subst hd; simp
    · have : (d != 10) = true := by simpa using hd
      rw [this, if_pos rfl]
      have := ih (by simpa [Ne.symm hd] using h)
      simp only [List.length_cons]; omega
set_option maxRecDepth 100000 in
set_option maxHeartbeats 1000000 in
theorem idx10_any (s : ByteArray) (hne : (([10] : List UInt8) == s.toList) = false) (w : World) : Calls Tryd.prog 75 #[.string s, .string ⟨#[10]⟩] w (RetSame' (Lib.indexByte s.toList 10) w) := by
  have HI : Hid (∀ w, Calls Tryd.prog 60 #[.string s, .int .u8 10] w (RetSame' (Lib.indexByte s.toList 10) w)) := by
    intro w
    have h := Any.stringslite_IndexByte { Tryd.lays137 with } s 10 w
    rw [← ByteArray.toList_eq] at h
    exact h
  generalize Lib.indexByte s.toList 10 = R at HI ⊢
  go_enter Tryd.func75, Tryd.ntmps75
  go_wp2_with (go_at_call 60; refine (HI.out _).mono ?_; rintro e w1 ⟨rfl, rfl⟩)
  go_ret
  exact ⟨rfl, rfl⟩
def CutPost (s : ByteArray) (w : World) (e : Ending) (w' : World) : Prop := ∃ (a : ByteArray) (b c : Value), e = .returned (.tuple #[.string a, b, c]) ∧ a.size = (s.toList.takeWhile (· != 10)).length ∧ Below w.heap.size w w'
set_option maxRecDepth 100000 in
set_option maxHeartbeats 1000000 in
theorem cutL_any (s : ByteArray) (hs : s.size ≤ 140737488351232) (hne : (([10] : List UInt8) == s.toList) = false) (w : World) : Calls Tryd.prog 61 #[.string s, .string ⟨#[10]⟩] w (CutPost s w) := by
  have HI := Lib.hid (idx10_any s hne)
  have Hlen := Lib.hid (ba_len s)
  by_cases hm : (10 : UInt8) ∈ s.toList
  · have hlt := take_lt _ hm
    have e1 : Lib.indexByte s.toList 10 = ((s.toList.takeWhile (· != 10)).length : Int) := by rw [idx_byte, if_pos hm]
    rw [e1] at HI
    obtain ⟨k, hk⟩ : ∃ k, Hid (k = (s.toList.takeWhile (· != 10)).length) := ⟨_, rfl⟩
    have hks : k + 1 ≤ s.size := by have := hk.out; have := Hlen.out; omega
    rw [← hk.out] at HI
    have c1 : (0 : Int) ≤ (k : Int) := by omega
    have c2 : (k : Int) ≤ (s.size : Int) := by omega
    have c3 : (0 : Int) ≤ (k : Int) + 1 := by omega
    have c4 : (k : Int) + 1 ≤ (s.size : Int) := by omega
    have c5 : IntKind.i64.wrap ((k : Int) + 1) = (k : Int) + 1 := by simp [IntKind.wrap, IntKind.signed, IntKind.bits]; omega
    clear hm hlt e1 hne
    go_enter Tryd.func61, Tryd.ntmps61
    go_wp2_with (go_at_call 75; refine (HI.out _).mono ?_; rintro e w1 ⟨rfl, rfl⟩)
    go_quiet (fail)
    go_wp2_with fail
    go_ret3
    refine ⟨_, _, _, rfl, ?_, below_drewN _ _ _⟩
    show ByteArray.size (s.extract 0 k) = _
    rw [← hk.out]
    simp; omega
  · have e1 : Lib.indexByte s.toList 10 = -1 := by rw [idx_byte, if_neg hm]
    rw [e1] at HI
    have hl : Hid (s.size = (s.toList.takeWhile (· != 10)).length) := by show _ = _; rw [take_ne _ hm, Hlen.out]
    clear hm e1 hne
    go_enter Tryd.func61, Tryd.ntmps61
    go_wp2_with (go_at_call 75; refine (HI.out _).mono ?_; rintro e w1 ⟨rfl, rfl⟩)
    go_ret3
    exact ⟨_, _, _, rfl, hl.out, Below.refl _ _⟩
set_option maxRecDepth 100000 in
set_option maxHeartbeats 1000000 in
theorem cut_any (s : ByteArray) (hs : s.size ≤ 140737488351232) (hne : (([10] : List UInt8) == s.toList) = false) (w : World) : Calls Tryd.prog 53 #[.string s, .string ⟨#[10]⟩] w (CutPost s w) := by
  have HI := Lib.hid (cutL_any s hs hne)
  clear hne
  go_enter Tryd.func53, Tryd.ntmps53
  go_wp2_with fail
  refine (HI.out _).mono ?_
  rintro e w1 ⟨a, b, c, rfl, ha, hb⟩
  have Ha := Lib.hid ha
  clear ha
  go_wp2_with fail
  go_ret3
  exact ⟨_, _, _, rfl, Ha.out, hb⟩
set_option maxRecDepth 100000 in
set_option maxHeartbeats 2000000 in
theorem skip_any (s : ByteArray) (hs : s.size ≤ 140737488351232) (a : Nat) (ha : a ≤ s.size) (w : World) : Calls Tryd.prog 46 #[.string s, .int .i64 a] w (RetInt ((a + skipG false (s.toList.drop a) : Nat) : Int) w) := by
  have Hlen := Lib.hid (ba_len s)
  have HB : Hid (∀ (c : UInt8) w, Calls Tryd.prog 52 #[.string ⟨#[9, 10, 13, 32]⟩, .int .u8 c.toNat] w (fun e w' => ∃ n : Int, e = .returned (.int .i64 n) ∧ decide (0 ≤ n) = blankB c ∧ w' = w)) := by
    intro c w
    refine (Tryd.strings_IndexByte ⟨#[9, 10, 13, 32]⟩ c.toNat w).mono ?_
    rintro e w1 ⟨rfl, rfl⟩
    refine ⟨_, rfl, ?_, rfl⟩
    have h := idx_blank c
    simpa using h
  obtain ⟨R, HR⟩ : ∃ R : Nat, Hid (R = a + skipG false (s.toList.drop a)) := ⟨_, rfl⟩
  rw [← HR.out]
  go_enter Tryd.func46, Tryd.ntmps46
  go_wp2
  go_loopw [1, 5, 6, 7, 8, 17, 23] (fun i _ _ _ _ _ _ wr => ∃ k : Nat, k ≤ s.size ∧ i = .int .i64 k ∧ Hid (R = k + skipG false (s.toList.drop k)) ∧ Below w.heap.size w wr) (fun i _ _ _ _ _ _ _ => s.size - (intOf i).toNat)
  case atStart => exact ⟨a, ha, rfl, HR, Below.refl _ _⟩
  case round =>
    obtain ⟨k, hk, rfl, HK, hbr⟩ := hrel
    have i0 : (0 : Int) ≤ (k : Int) := by omega
    by_cases hlt : k < s.size
    · have i1 : (k : Int) < (s.size : Int) := by omega
      have i2 : (k : Int) ≤ (s.size : Int) := by omega
      have HD : Hid (s.toList.drop k = (s[k]'hlt) :: s.toList.drop (k + 1)) := by
        show _ = _
        have h1 := ba_get hlt
        obtain ⟨h2, h3⟩ := List.getElem?_eq_some_iff.1 h1
        rw [List.drop_eq_getElem_cons h2, h3]
      have HC := Lib.hid (HB.out (s[k]'hlt) wr)
      cases hbl : blankB (s[k]'hlt) with
      | true =>
        have HK2 : Hid (R = k + 1 + skipG false (s.toList.drop (k + 1))) := by
          show _ = _; rw [HK.out, HD.out, skip_one hbl]; omega
        clear HK HR ha
        go_wp2_with fail
        refine HC.out.mono ?_
        rintro e w1 ⟨n, rfl, hn, rfl⟩
        rw [hbl] at hn
        go_wp2_with fail
        go_roundw
        case rel => exact ⟨k + 1, by omega, by go_num, HK2, hbr⟩
        case measure => simp [intOf]; omega
      | false =>
        by_cases hp : (s[k]'hlt) = 37
        · have z0 : (((s[k]'hlt).toNat : Int) == 37) = true := by rw [hp]; decide
          obtain ⟨m, Hm⟩ : ∃ m, Hid (m = ((s.toList.drop k).takeWhile (· != 10)).length) := ⟨_, rfl⟩
          have hk1 : 1 ≤ m := by
            rw [Hm.out, HD.out, hp]
            simp
          have HT : Hid (m ≤ s.size - k) := by
            show _ ≤ _
            rw [Hm.out]
            have h1 : ((s.toList.drop k).takeWhile (· != 10)).length ≤ (s.toList.drop k).length := List.Sublist.length_le (List.takeWhile_sublist _)
            rw [List.length_drop, Hlen.out] at h1; exact h1
          have HK2 : Hid (R = k + m + skipG false (s.toList.drop (k + m))) := by
            show _ = _
            rw [HK.out, Hm.out]
            conv => lhs; rw [HD.out, hp, skip_per]
            rw [← hp, ← HD.out, List.drop_drop]; omega
          have hne : (([10] : List UInt8) == (s.extract k s.size).toList) = false := by
            rw [ba_drop, HD.out, hp]
            simp
          have HCut := Lib.hid (cut_any (s.extract k s.size) (by simp; omega) hne)
          rw [hbl] at HC
          have ht := HT.out
          clear HK HR ha hne hp
          go_wp2_with fail
          refine HC.out.mono ?_
          rintro e w1 ⟨n, rfl, hn, rfl⟩
          go_wp2_with fail
          refine (HCut.out _).mono ?_
          rintro e w2 ⟨x, b, c, rfl, hx, hbx⟩
          have Hx : Hid (x.size = m) := by show _ = _; rw [hx, Hm.out, ba_drop]
          have hxx := Hx.out
          clear hx
          go_wp2_with fail
          go_roundw
          case rel => exact ⟨k + m, by omega, by go_num, HK2, below_next hbr hbx⟩
          case measure => simp [intOf]; omega
        · have z0 : (((s[k]'hlt).toNat : Int) == 37) = false := by
            simp only [beq_eq_false_iff_ne, ne_eq]
            intro h; apply hp
            have h2 : (s[k]'hlt).toNat = 37 := by omega
            exact UInt8.toNat_inj.1 (by rw [h2]; rfl)
          have HK2 : Hid (R = k) := by show _ = _; rw [HK.out, HD.out, skip_zero hbl hp]; rfl
          rw [hbl] at HC
          clear HK HR ha hp
          go_wp2_with fail
          refine HC.out.mono ?_
          rintro e w1 ⟨n, rfl, hn, rfl⟩
          go_wp2_with fail
          go_ret
          exact ⟨by rw [HK2.out]; rfl, hbr⟩
    · have i1 : ¬ (k : Int) < (s.size : Int) := by omega
      have HK2 : Hid (R = k) := by
        show _ = _
        rw [HK.out, List.drop_eq_nil_of_le (by rw [Hlen.out]; omega)]; rfl
      clear HK HR ha
      go_wp2_with fail
      go_ret
      exact ⟨by rw [HK2.out]; rfl, hbr⟩
end Go.Proofs.YtplekbpmfaghbaaDoor

namespace Go.Proofs.YtplekbpmfaghbaaDoor
open Go.RowKit
theorem mem_take_succ {l : List ByteArray} {k : Nat} {s x : ByteArray} (hx : l[k]? = some x) : s ∈ l.take (k + 1) ↔ s ∈ l.take k ∨ x = s := by
  rw [List.take_add_one, hx]
  simp [eq_comm]
def IdxMem (b : Bool) (w : World) (e : Ending) (w' : World) : Prop := ∃ k : Int, e = .returned (.int .i64 k) ∧ decide (0 ≤ k) = b ∧ Below w.heap.size w w'
set_option maxRecDepth 100000 in
set_option maxHeartbeats 400000 in
theorem index_any (A : Option Addr) (n c : Nat) (l : List ByteArray) (s : ByteArray) (w : World) (hl : SliceIs Enc.str w w.heap.size A n c l) :
    Calls Tryd.prog 38 #[.slice A n c, .string s] w (IdxMem (decide (s ∈ l)) w) := by
  have hn := hl.bound
  have hlen := Lib.hid hl.1
  go_enter Tryd.func38, Tryd.ntmps38
  go_wp2
  go_loop [5, 8] (fun _ i => ∃ k : Nat, k ≤ n ∧ i = .int .i64 k ∧ Hid (s ∉ l.take k)) (fun _ i => n - (intOf i).toNat)
  case atStart => exact ⟨0, by omega, rfl, by simp [Hid]⟩
  case round =>
    obtain ⟨k, hk, rfl, hpre⟩ := hrel
    by_cases hlt : k < n
    · obtain ⟨b, o, x, rfl, _, hx, hc, hs⟩ := hl.str_at hlt
      have i0 : (0 : Int) ≤ (k : Int) := by omega
      have i1 : (k : Int) < (n : Int) := by omega
      have hb := World.block_lt_of_cell? w _ hc
      clear hl
      by_cases h1 : x = s
      · have h1' : (s.toList == x.toList) = true := by simp [h1]
        have HR : Hid (decide (s ∈ l) = true) := by show decide (s ∈ l) = true; rw [← h1]; simpa using List.mem_of_getElem? hx.out
        clear h1
        go_wp2
        go_ret
        exact ⟨_, rfl, by rw [HR.out]; simp, Below.refl _ _⟩
      · have h1' : (s.toList == x.toList) = false := by simp [toList_inj, Ne.symm h1]
        have HN : Hid (s ∉ l.take (k + 1)) := by
          show ¬ _
          rw [mem_take_succ hx.out]; intro h; rcases h with h | h
          · exact hpre.out h
          · exact h1 h
        clear h1
        go_wp2
        go_round
        case rel => exact ⟨k + 1, by omega, by go_num, HN⟩
        case measure => simp [intOf]; omega
    · have HR : Hid (decide (s ∈ l) = false) := by
        show decide (s ∈ l) = false
        have h := hpre.out
        rw [List.take_of_length_le (by have := hlen.out; omega)] at h
        simpa using h
      have i1 : ¬ (k : Int) < (n : Int) := by omega
      go_wp2
      go_ret
      exact ⟨_, rfl, by rw [HR.out]; rfl, Below.refl _ _⟩
set_option maxRecDepth 100000 in
theorem contains_any (A : Option Addr) (n c : Nat) (l : List ByteArray) (s : ByteArray) (w : World) (hl : SliceIs Enc.str w w.heap.size A n c l) :
    Calls Tryd.prog 65 #[.slice A n c, .string s] w (RetBool (decide (s ∈ l)) w) := by
  have hi := Lib.hid (index_any A n c l s w hl)
  clear hl
  go_enter Tryd.func65, Tryd.ntmps65
  go_wp2_with fail
  refine hi.out.mono ?_
  rintro e w1 ⟨k, rfl, hk, hb⟩
  have Hk := Lib.hid hk
  clear hk
  go_wp2_with fail
  go_ret
  exact ⟨by rw [← Hk.out]; rfl, hb⟩
end Go.Proofs.YtplekbpmfaghbaaDoor

namespace Go.Proofs.YtplekbpmfaghbaaDoor
open Go.RowKit
def keysL : List (List UInt8) := [[114, 101, 108], [105, 110, 116], [115, 121, 109], [110, 111, 116], [99, 111, 117, 110, 116], [115, 117, 109], [109, 105, 110], [109, 97, 120]]
def headN (l : List UInt8) : Nat := (l.headD 0).toNat
/-- what a word is -/
def wordK (l : List UInt8) : Int := if l ∈ keysL then 1 else if nameOk ⟨l.toArray⟩ then 2 else if greatB (headN l) && decide (l.length ≤ 32) then 3 else if (refNum l).isSome then 4 else 0
def bytes (l : List UInt8) : ByteArray := ⟨l.toArray⟩
theorem mem_bytes (s : ByteArray) (L : List (List UInt8)) : decide (s ∈ L.map bytes) = decide (s.toList ∈ L) := by
  rw [Bool.eq_iff_iff]
  simp only [decide_eq_true_eq, List.mem_map]
  constructor
  · rintro ⟨l, hl, rfl⟩; unfold bytes; rw [toList_mk]; exact hl
  · intro h; exact ⟨_, h, bytes_back s⟩
/-- an array of texts, laid -/
def StrsW (g : Nat) (L : List (List UInt8)) (W : World) : Prop := ∃ t fr, W.heap[g]? = some (.cells (L.map fun l => Value.string (bytes l)).toArray t fr)
theorem StrsW.on {g : Nat} {L : List (List UInt8)} {w W : World} (h : StrsW g L w) (hb : Below w.heap.size w W) : StrsW g L W := by
  obtain ⟨t, fr, h⟩ := h
  exact ⟨t, fr, (hb.block g (Array.getElem?_eq_some_iff.1 h).1).trans h⟩
theorem StrsW.is {g : Nat} {L : List (List UInt8)} {w : World} (h : StrsW g L w) (hl : L.length ≤ 1000) (hb : ∀ l ∈ L, l.length ≤ 1000) : SliceIs Enc.str w w.heap.size (some ⟨g, 0, none⟩) L.length L.length (L.map bytes) := by
  obtain ⟨t, fr, h⟩ := h
  refine ⟨by simp, Nat.le_refl _, by simp [maxLen]; omega, by simp [reachN]; omega, .inr ⟨g, 0, rfl, (Array.getElem?_eq_some_iff.1 h).1, ?_⟩⟩
  intro i x hx
  rw [List.getElem?_map] at hx
  obtain ⟨l, hl', rfl⟩ := Option.map_eq_some_iff.1 hx
  refine ⟨[.string (bytes l)], ⟨rfl, ?_⟩, ?_⟩
  · have := hb l (List.mem_of_getElem? hl')
    have e : (bytes l).size = l.length := by rw [← ba_len]; unfold bytes; rw [toList_mk]
    rw [e]; simp [reachN]; omega
  · intro j v hj
    match j, hj with
    | 0, hj =>
      simp at hj; subst hj
      rw [cell_of_row _ _ _ _ _ _ h]
      show _ = _
      simp [Enc.str, hl']
    | j + 1, hj => simp at hj
structure LexW (W : World) : Prop where
  tab : TabW W
  err : ErrW W
  keys : StrsW 3 keysL W
  signs : StrsW 2 signsL W
theorem LexW.on {w W : World} (h : LexW w) (hb : Below w.heap.size w W) : LexW W := ⟨h.tab.on hb, h.err.on hb, h.keys.on hb, h.signs.on hb⟩
/-- the program's way to tell a number -/
def numB (l : List UInt8) : Bool := match Lib.atoiAll l with
  | .ok n => decide (n ≤ 2147483647) && decide (Lib.itoa n = l)
  | _ => false
theorem numB_ref (l : List UInt8) (h : l.head? ≠ some 45) : numB l = (refNum l).isSome := by
  rw [← own_eq_ref]
  unfold numB ownNum
  cases Lib.atoiAll l with
  | ok n =>
    by_cases h1 : Lib.itoa n = l
    · have h0 : 0 ≤ n := by
        by_cases hn : 0 ≤ n
        · exact hn
        · exfalso
          apply h
          rw [← h1]
          unfold Lib.itoa
          rw [if_pos (by omega)]; rfl
      by_cases h2 : n ≤ 2147483647
      · have h3 : bnd31 n = true := by simp [bnd31]; omega
        simp [h1, h2, h3]
      · have h3 : bnd31 n = false := by simp [bnd31]; omega
        simp [h1, h2, h3]
    · simp [h1]
  | _ => rfl
set_option maxRecDepth 100000 in
set_option maxHeartbeats 2000000 in
theorem word_any (s : ByteArray) (hs : s.size ≤ 140737488351232) (h1 : 1 ≤ s.size) (hh : s.toList.head? ≠ some 45) (w : World) (hW : LexW w) : Calls Tryd.prog 55 #[.string s] w (RetInt (wordK s.toList) w) := by
  have HW := Lib.hid hW
  have HC := Lib.hid (contains_any _ _ _ _ s w (hW.keys.is (by decide) (by decide)))
  have Hn := Lib.hid (fun w => name_any s w)
  have Hg := Lib.hid (fun w => great_any (s[0]'h1).toNat w)
  have e0 : headN s.toList = (s[0]'h1).toNat := by
    have := ba_head h1
    cases hl : s.toList with
    | nil => rw [hl] at this; cases this
    | cons c r => rw [hl] at this; simp at this; simp [headN, this]
  have e1 : nameOk ⟨s.toList.toArray⟩ = nameOk s := by rw [bytes_back]
  have e2 : s.toList.length = s.size := ba_len s
  have HQ : Hid (wordK s.toList = if decide (s ∈ keysL.map bytes) then (1 : Int) else if nameOk s then (2 : Int) else if greatB (s[0]'h1).toNat && decide (s.size ≤ 32) then (3 : Int) else if numB s.toList then (4 : Int) else (0 : Int)) := by
    show _ = _
    unfold wordK
    rw [e0, e1, e2, mem_bytes, numB_ref _ hh]
    simp
  have HA := Lib.hid (fun (W : World) (hb : Below w.heap.size w W) => atoi_any s hs W (hW.err.on hb))
  have HI := Lib.hid (fun (n : Int) (hn : fits n) (W : World) (hb : Below w.heap.size w W) => itoa_any n hn W (hW.tab.on hb))
  have h1n : (0 : Int) < (s.size : Int) := by omega
  rw [HQ.out]
  clear hh hW e0 e1 e2 HQ
  cases hk : decide (s ∈ keysL.map bytes) with
  | true =>
    rw [hk] at HC
    simp only [if_true]
    go_enter Tryd.func55, Tryd.ntmps55
    go_wp2_with fail
    refine HC.out.mono ?_
    rintro e w1 ⟨rfl, hb⟩
    go_wp2_with fail
    go_ret
    exact ⟨rfl, hb⟩
  | false =>
  rw [hk] at HC
  clear hk
  simp only [Bool.false_eq_true, if_false]
  cases hN : nameOk s with
  | true =>
    rw [hN] at Hn
    simp only [if_true]
    go_enter Tryd.func55, Tryd.ntmps55
    go_wp2_with fail
    refine HC.out.mono ?_
    rintro e w1 ⟨rfl, hb⟩
    go_wp2_with fail
    refine (Hn.out _).mono ?_
    rintro e w2 ⟨rfl, hb2⟩
    go_wp2_with fail
    go_ret
    exact ⟨rfl, below_next hb hb2⟩
  | false =>
  rw [hN] at Hn
  clear hN
  simp only [Bool.false_eq_true, if_false]
  have HAll : Hid (∀ (W : World) (hb : Below w.heap.size w W), Calls Tryd.prog 48 #[.string s] W (AtoiPost s W)) := HA.out
  clear HA
  cases hG : greatB (s[0]'h1).toNat with
  | true =>
    rw [hG] at Hg
    by_cases h32 : s.size ≤ 32
    · have z0 : (s.size : Int) ≤ 32 := by omega
      simp only [h32, decide_true, Bool.and_self, if_true]
      clear h32 hG
      go_enter Tryd.func55, Tryd.ntmps55
      go_wp2_with fail
      refine HC.out.mono ?_
      rintro e w1 ⟨rfl, hb⟩
      go_wp2_with fail
      refine (Hn.out _).mono ?_
      rintro e w2 ⟨rfl, hb2⟩
      go_wp2_with fail
      refine (Hg.out _).mono ?_
      rintro e w3 ⟨rfl, rfl⟩
      go_wp2_with fail
      go_ret
      exact ⟨rfl, below_next hb hb2⟩
    · have z0 : ¬ (s.size : Int) ≤ 32 := by omega
      simp only [h32, decide_false, Bool.and_false, Bool.false_eq_true, if_false]
      clear h32 hG
      obtain ⟨R, HR⟩ : ∃ R : Int, Hid (R = if numB s.toList then 4 else 0) := ⟨_, rfl⟩
      rw [← HR.out]
      go_enter Tryd.func55, Tryd.ntmps55
      go_wp2_with fail
      refine HC.out.mono ?_
      rintro e w1 ⟨rfl, hb⟩
      go_wp2_with fail
      refine (Hn.out _).mono ?_
      rintro e w2 ⟨rfl, hb2⟩
      replace hb := below_next hb hb2
      go_wp2_with fail
      refine (Hg.out _).mono ?_
      rintro e w3 ⟨rfl, rfl⟩
      go_wp2_with fail
      refine (HAll.out _ hb).mono ?_
      rintro e w4 ⟨n, ev, hfn, rfl, hb4, hor⟩
      replace hb := below_next hb hb4
      rcases hor with ⟨ha, rfl⟩ | ⟨ha, T, q, rfl⟩
      rotate_left
      · have HR2 : Hid (R = 0) := by
          show _ = _
          rw [HR.out]; unfold numB
          cases h : Lib.atoiAll s.toList with
          | ok m => exact absurd h (ha m)
          | _ => rfl
        clear ha HR
        go_wp2_with fail
        go_ret
        exact ⟨by rw [HR2.out]; rfl, hb⟩
      by_cases hn : n ≤ 2147483647
      · have HT := Lib.hid (HI.out n hfn _ hb)
        by_cases hi : Lib.itoa n = s.toList
        · have HR2 : Hid (R = 4) := by show _ = _; rw [HR.out]; simp [numB, ha, hn, hi]
          have Hi := Lib.hid hi
          clear ha HR hi HI
          go_wp2_with fail
          refine HT.out.mono ?_
          rintro e w5 ⟨t, ht, -, rfl, hb5⟩
          have z1 : (t.toList == s.toList) = true := by rw [ht.out, toList_mk, Hi.out]; simp
          go_wp2_with fail
          go_ret
          exact ⟨by rw [HR2.out]; rfl, below_next hb hb5⟩
        · have HR2 : Hid (R = 0) := by show _ = _; rw [HR.out]; simp [numB, ha, hi]
          have Hi := Lib.hid hi
          clear ha HR hi HI
          go_wp2_with fail
          refine HT.out.mono ?_
          rintro e w5 ⟨t, ht, -, rfl, hb5⟩
          have z1 : (t.toList == s.toList) = false := by rw [ht.out, toList_mk]; simpa using Hi.out
          go_wp2_with fail
          go_ret
          exact ⟨by rw [HR2.out]; rfl, below_next hb hb5⟩
      · have HR2 : Hid (R = 0) := by show _ = _; rw [HR.out]; simp [numB, ha, hn]
        clear ha HR HI
        go_wp2_with fail
        go_ret
        exact ⟨by rw [HR2.out]; rfl, hb⟩
  | false =>
    rw [hG] at Hg
    simp only [Bool.false_and, Bool.false_eq_true, if_false]
    clear hG
    obtain ⟨R, HR⟩ : ∃ R : Int, Hid (R = if numB s.toList then 4 else 0) := ⟨_, rfl⟩
    rw [← HR.out]
    go_enter Tryd.func55, Tryd.ntmps55
    go_wp2_with fail
    refine HC.out.mono ?_
    rintro e w1 ⟨rfl, hb⟩
    go_wp2_with fail
    refine (Hn.out _).mono ?_
    rintro e w2 ⟨rfl, hb2⟩
    replace hb := below_next hb hb2
    go_wp2_with fail
    refine (Hg.out _).mono ?_
    rintro e w3 ⟨rfl, rfl⟩
    go_wp2_with fail
    refine (HAll.out _ hb).mono ?_
    rintro e w4 ⟨n, ev, hfn, rfl, hb4, hor⟩
    replace hb := below_next hb hb4
    rcases hor with ⟨ha, rfl⟩ | ⟨ha, T, q, rfl⟩
    rotate_left
    · have HR2 : Hid (R = 0) := by
        show _ = _
        rw [HR.out]; unfold numB
        cases h : Lib.atoiAll s.toList with
        | ok m => exact absurd h (ha m)
        | _ => rfl
      clear ha HR
      go_wp2_with fail
      go_ret
      exact ⟨by rw [HR2.out]; rfl, hb⟩
    by_cases hn : n ≤ 2147483647
    · have HT := Lib.hid (HI.out n hfn _ hb)
      by_cases hi : Lib.itoa n = s.toList
      · have HR2 : Hid (R = 4) := by show _ = _; rw [HR.out]; simp [numB, ha, hn, hi]
        have Hi := Lib.hid hi
        clear ha HR hi HI
        go_wp2_with fail
        refine HT.out.mono ?_
        rintro e w5 ⟨t, ht, -, rfl, hb5⟩
        have z1 : (t.toList == s.toList) = true := by rw [ht.out, toList_mk, Hi.out]; simp
        go_wp2_with fail
        go_ret
        exact ⟨by rw [HR2.out]; rfl, below_next hb hb5⟩
      · have HR2 : Hid (R = 0) := by show _ = _; rw [HR.out]; simp [numB, ha, hi]
        have Hi := Lib.hid hi
        clear ha HR hi HI
        go_wp2_with fail
        refine HT.out.mono ?_
        rintro e w5 ⟨t, ht, -, rfl, hb5⟩
        have z1 : (t.toList == s.toList) = false := by rw [ht.out, toList_mk]; simpa using Hi.out
        go_wp2_with fail
        go_ret
        exact ⟨by rw [HR2.out]; rfl, below_next hb hb5⟩
    · have HR2 : Hid (R = 0) := by show _ = _; rw [HR.out]; simp [numB, ha, hn]
      clear ha HR HI
      go_wp2_with fail
      go_ret
      exact ⟨by rw [HR2.out]; rfl, hb⟩
end Go.Proofs.YtplekbpmfaghbaaDoor
