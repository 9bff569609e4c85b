/- My own texts VFrame, StDigits, Keep0, Name, VParseLaw, VParse, VFrameE, as far as this claim needs them. -/
import Derived.Test.YtgabkmibfhmkmaaGreatDoorZs1
import Derived.Test.YtgabkmibfhmkmaaGreatDoorRows
import Derived.OpenShut
import Derived.ChangeOld
import Derived.ChangeSame
import Derived.ChangeVars
import Derived.JoinedOf
import Derived.LaidLaws
import Derived.LaidHandle
import Derived.Stop.LaidErr
import Derived.Lib.LaidTab
import Derived.Below
import Derived.Lib.TrimU
import Derived.Lib.OthersKept
import Derived.Deep.LoopGhost
import Derived.Lib.AtoiTie
import Derived.Lib.ItoaNum
import Derived.Lib.ItoaMem
import Derived.Laws.BitsAllLaws
import Derived.Laws.IdiomStrings
import Derived.Deep.DeepCutAuto
set_option linter.unusedVariables false
set_option linter.unusedSimpArgs false
namespace Go.Proofs.YtgabkmibfhmkmaaGreatDoor
open Go.ChangeShapes Go.WideShapes Go.ChangeAt Go.RowKit
set_option linter.unusedVariables false
theorem own : ownKnob Tryz.prog.godebug = none := by kernel_rfl
theorem laidOut : laidOutB Tryz.prog = true := by kernel_rfl
theorem u_bool : Tryz.prog.underlying 4 = some .bool := by kernel_rfl
def laid {H : Type} : List (String × DataW H) := [("math/bits.deBruijn32tab", Rows.laid_math_bits_deBruijn32tab), ("math/bits.deBruijn64tab", Rows.laid_math_bits_deBruijn64tab), ("internal/strconv.uint64pow10", Rows.laid_internal_strconv_uint64pow10)]
theorem gP : Tryz.prog.globalNamed "internal/strconv.uint64pow10" = some 10 := by kernel_rfl
theorem gPT : (Tryz.prog.globals[10]?).map (·.type) = some 454 := by kernel_rfl
theorem pow_eq : (Rows.laid_internal_strconv_uint64pow10 : DataW Unit) = Lib.tabData .u64 Lib.pow10Tab := by kernel_rfl
end Go.Proofs.YtgabkmibfhmkmaaGreatDoor

namespace Go.Proofs.YtgabkmibfhmkmaaGreatDoor
open Go.RowKit
def RetStr (l : List UInt8) (w : World) (e : Ending) (w' : World) : Prop := ∃ s : ByteArray, Hid (s = ⟨l.toArray⟩) ∧ s.size ≤ 21 ∧ e = .returned (.string s) ∧ w' = w
theorem fits_iff (n : Int) : fits n ↔ -9223372036854775808 ≤ n ∧ n ≤ 9223372036854775807 := by
  unfold fits; simp [Lit.wf, IntKind.min, IntKind.max, IntKind.signed, IntKind.bits]
set_option maxRecDepth 100000 in
set_option maxHeartbeats 1000000 in
theorem digits_any : ∀ (k : Nat) (n : Int), (if n < 0 then n.natAbs + 10 else n.natAbs) < k → -9223372036854775808 ≤ n → n ≤ 9223372036854775807 → ∀ w, Calls Tryz.prog 263 #[.int .i64 n] w (RetStr (Lib.itoa n) w) := by
  intro k
  induction k with
  | zero => intro n h; omega
  | succ k ih =>
    intro n hk h0 h1 w
    have HI := Lib.hid ih
    clear ih
    have Hlen := Lib.hid (Lib.itoa_length_le n h0 h1)
    by_cases hn : n < 0
    · rw [if_pos hn] at hk
      by_cases hn2 : -10 < n
      · have hw : wrap64 (-n) = -n := by unfold wrap64; omega
        have hi := HI.out (-n) (by rw [if_neg (by omega)]; omega) (by omega) (by omega)
        have HE := Lib.hid (show Lib.itoa n = 45 :: Lib.itoa (-n) by
          obtain ⟨u, rfl⟩ : ∃ u : Nat, n = -(u : Int) := ⟨n.natAbs, by omega⟩
          rw [Lib.itoa_neg u (by omega), Int.neg_neg, Lib.itoa_nonneg])
        clear hk h0 h1 HI
        go_enter Tryz.func263, Tryz.ntmps263
        go_wp2_with (
          (go_at_call 263
           refine (hi _).mono ?_
           rintro e1 w1 ⟨s, hs, hl, rfl, rfl⟩
           have hz1 : ¬ (9223372036854775807 < 1 + s.size) := by omega
           have hz2 : ¬ (9223372036854775807 < s.size + 1) := by omega
           have hz3 : ¬ (9223372036854775806 < s.size) := by omega))
        go_ret
        refine ⟨_, ?_, ?_, rfl, rfl⟩
        · show _ = _
          rw [HE.out]
          have e1 := hs.out
          subst e1
          rw [ByteArray.mk_append_mk]; rfl
        · have e1 := hs.out
          have h2 := Hlen.out
          rw [HE.out] at h2
          subst e1
          simpa [ByteArray.mk_append_mk, ByteArray.size] using h2
      · obtain ⟨u, rfl⟩ : ∃ u : Nat, n = -(u : Int) := ⟨n.natAbs, by omega⟩
        obtain ⟨q, hq⟩ : ∃ q, (-(u : Int)).tdiv 10 = q := ⟨_, rfl⟩
        obtain ⟨r, hr⟩ : ∃ r, (-(u : Int)).tmod 10 = r := ⟨_, rfl⟩
        have hq' : q = -((u / 10 : Nat) : Int) := by rw [← hq, Int.neg_tdiv]; rfl
        have hr' : r = -((u % 10 : Nat) : Int) := by rw [← hr, Int.neg_tmod]; rfl
        have hwq : wrap64 q = q := by unfold wrap64; omega
        have hwr : wrap64 (-r) = -r := by unfold wrap64; omega
        have hi := HI.out q (by rw [if_pos (by omega)]; omega) (by omega) (by omega)
        have hj := HI.out (-r) (by rw [if_neg (by omega)]; omega) (by omega) (by omega)
        have HE := Lib.hid (show Lib.itoa (-(u : Int)) = Lib.itoa q ++ Lib.itoa (-r) by
          rw [hq', hr', Int.neg_neg, Lib.itoa_neg u (by omega), Lib.itoa_neg (u / 10) (by omega), Lib.itoa_nonneg, Lib.decDigits_one (i := u % 10) (by omega)]
          conv => lhs; rw [Lib.decDigits, dif_neg (by omega)]
          rfl)
        have Hi := Lib.hid hi
        have Hj := Lib.hid hj
        generalize (-(u : Int)) = n at *
        clear hk h0 h1 HI hq' hr' hi hj
        go_enter Tryz.func263, Tryz.ntmps263
        go_wp2_with (first
          | (go_at_call 263
             refine (Hi.out _).mono ?_
             clear Hi
             rintro e1 w1 ⟨s, hs, hl, rfl, rfl⟩)
          | (go_at_call 263
             refine (Hj.out _).mono ?_
             rintro e1 w1 ⟨s2, hs2, hl2, rfl, rfl⟩
             have hz1 : ¬ (9223372036854775807 < s.size + s2.size) := by omega))
        go_ret
        refine ⟨_, ?_, ?_, rfl, rfl⟩
        · show _ = _
          rw [HE.out]
          have e1 := hs.out
          have e2 := hs2.out
          subst e1 e2
          rw [ByteArray.mk_append_mk]
        · have e1 := hs.out
          have e2 := hs2.out
          have h2 := Hlen.out
          rw [HE.out] at h2
          subst e1 e2
          simpa [ByteArray.mk_append_mk, ByteArray.size] using h2
    · rw [if_neg hn] at hk
      by_cases hn2 : n < 10
      · obtain ⟨u, rfl⟩ : ∃ u : Nat, n = (u : Int) := ⟨n.natAbs, by omega⟩
        have HE := Lib.hid (show Lib.itoa (u : Int) = [UInt8.ofNat (48 + u)] by rw [Lib.itoa_nonneg, Lib.decDigits_one (by omega)])
        have hu : u < 10 := by omega
        have hE := Lib.hid (show Utf8.encode (48 + (u : Int)) = ⟨[UInt8.ofNat (48 + u)].toArray⟩ by
          rcases (by omega : u = 0 ∨ u = 1 ∨ u = 2 ∨ u = 3 ∨ u = 4 ∨ u = 5 ∨ u = 6 ∨ u = 7 ∨ u = 8 ∨ u = 9) with rfl | rfl | rfl | rfl | rfl | rfl | rfl | rfl | rfl | rfl <;> rfl)
        clear hk h0 h1 HI
        go_enter Tryz.func263, Tryz.ntmps263
        go_wp2_with fail
        go_ret
        refine ⟨_, ?_, ?_, rfl, rfl⟩
        · show _ = _
          rw [HE.out]; exact hE.out
        · rw [hE.out]; simp [ByteArray.size]
      · obtain ⟨u, rfl⟩ : ∃ u : Nat, n = (u : Int) := ⟨n.natAbs, by omega⟩
        obtain ⟨q, hq⟩ : ∃ q, ((u : Int)).tdiv 10 = q := ⟨_, rfl⟩
        obtain ⟨r, hr⟩ : ∃ r, ((u : Int)).tmod 10 = r := ⟨_, rfl⟩
        have hq' : q = ((u / 10 : Nat) : Int) := by rw [← hq]; rfl
        have hr' : r = ((u % 10 : Nat) : Int) := by rw [← hr]; rfl
        have hwq : wrap64 q = q := by unfold wrap64; omega
        have hi := HI.out q (by rw [if_neg (by omega)]; omega) (by omega) (by omega)
        have hj := HI.out r (by rw [if_neg (by omega)]; omega) (by omega) (by omega)
        have HE := Lib.hid (show Lib.itoa (u : Int) = Lib.itoa q ++ Lib.itoa r by
          rw [hq', hr', Lib.itoa_nonneg, Lib.itoa_nonneg, Lib.itoa_nonneg, Lib.decDigits_one (i := u % 10) (by omega)]
          conv => lhs; rw [Lib.decDigits, dif_neg (by omega)])
        have Hi := Lib.hid hi
        have Hj := Lib.hid hj
        generalize ((u : Int)) = n at *
        clear hk h0 h1 HI hq' hr' hi hj
        go_enter Tryz.func263, Tryz.ntmps263
        go_wp2_with (first
          | (go_at_call 263
             refine (Hi.out _).mono ?_
             clear Hi
             rintro e1 w1 ⟨s, hs, hl, rfl, rfl⟩)
          | (go_at_call 263
             refine (Hj.out _).mono ?_
             rintro e1 w1 ⟨s2, hs2, hl2, rfl, rfl⟩
             have hz1 : ¬ (9223372036854775807 < s.size + s2.size) := by omega))
        go_ret
        refine ⟨_, ?_, ?_, rfl, rfl⟩
        · show _ = _
          rw [HE.out]
          have e1 := hs.out
          have e2 := hs2.out
          subst e1 e2
          rw [ByteArray.mk_append_mk]
        · have e1 := hs.out
          have e2 := hs2.out
          have h2 := Hlen.out
          rw [HE.out] at h2
          subst e1 e2
          simpa [ByteArray.mk_append_mk, ByteArray.size] using h2
end Go.Proofs.YtgabkmibfhmkmaaGreatDoor

namespace Go.Proofs.YtgabkmibfhmkmaaGreatDoor
open Go.RowKit
theorem SliceIs.keep {α : Type} {E : Enc α} {w w' : World} {A : Option Addr} {n c : Nat} {l : List α} (h : SliceIs E w w.heap.size A n c l) (hb : Below w.heap.size w w') : SliceIs E w' w'.heap.size A n c l :=
  (h.below hb).mono hb.size (fun _ _ => rfl)
theorem below_next {w W W' : World} (h : Below w.heap.size w W) (h' : Below W.heap.size W W') : Below w.heap.size w W' := h.trans (h'.mono h.size)
end Go.Proofs.YtgabkmibfhmkmaaGreatDoor

namespace Go.Proofs.YtgabkmibfhmkmaaGreatDoor
open Go.RowKit
def RetSameB (b : Bool) (w : World) (e : Ending) (w' : World) : Prop := e = .returned (.bool b) ∧ w' = w
/-- a name's byte -/
def nameB (n : Nat) : Bool := (decide (97 ≤ n) && decide (n ≤ 122)) || (decide (48 ≤ n) && decide (n ≤ 57)) || decide (n = 95)
set_option maxRecDepth 100000 in
theorem strange_any (r : Nat) (w : World) : Calls Tryz.prog 311 #[.int .i32 r] w (RetBool (!nameB r) w) := by
  by_cases h1 : 97 ≤ r <;> by_cases h2 : r ≤ 122 <;> by_cases h3 : 48 ≤ r <;> by_cases h4 : r ≤ 57 <;> by_cases h5 : r = 95 <;> (try (exfalso; omega))
  all_goals
    have z1 : (97 : Int) ≤ (r : Int) ↔ 97 ≤ r := by omega
    have z2 : (r : Int) ≤ 122 ↔ r ≤ 122 := by omega
    have z3 : (48 : Int) ≤ (r : Int) ↔ 48 ≤ r := by omega
    have z4 : (r : Int) ≤ 57 ↔ r ≤ 57 := by omega
    have z5 : ((r : Int) == 95) = decide (r = 95) := by rw [Bool.eq_iff_iff]; simp; omega
    go_enter Tryz.func311, Tryz.ntmps311
    go_wp2
    go_ret
    exact ⟨by simp [nameB, h1, h2, h3, h4, h5], Below.refl _ _⟩
def lowB (n : Nat) : Bool := decide (97 ≤ n) && decide (n ≤ 122)
set_option maxRecDepth 100000 in
theorem letter_any (r : Nat) (w : World) : Calls Tryz.prog 312 #[.int .u8 r] w (RetBool (lowB r) w) := by
  by_cases h1 : 97 ≤ r <;> by_cases h2 : r ≤ 122 <;> (try (exfalso; omega))
  all_goals
    have z1 : (97 : Int) ≤ (r : Int) ↔ 97 ≤ r := by omega
    have z2 : (r : Int) ≤ 122 ↔ r ≤ 122 := by omega
    go_enter Tryz.func312, Tryz.ntmps312
    go_wp2
    go_ret
    exact ⟨by simp [lowB, h1, h2], Below.refl _ _⟩
def byteAt (s : ByteArray) (i : Nat) : Nat := (s.get! i).toNat
theorem byteAt_eq {s : ByteArray} {i : Nat} (h : i < s.size) : (s[i]'h).toNat = byteAt s i := by
  obtain ⟨d⟩ := s
  show (d[i]'h).toNat = (d[i]!).toNat
  rw [getElem!_pos d i h]
def allN (s : ByteArray) : Bool := decide (∀ i, i < s.size → nameB (byteAt s i) = true)
theorem allN_false {s : ByteArray} {i : Nat} (hi : i < s.size) (h : nameB (byteAt s i) = false) : allN s = false := by
  simp only [allN, decide_eq_false_iff_not]
  intro h'; rw [h' i hi] at h; cases h
/-- what is decoded at a place: the byte, or a rune that is no name's -/
theorem decode_name (s : ByteArray) (i : Nat) : (nameB (Utf8.decode s i).1 = nameB (byteAt s i)) ∧ (nameB (byteAt s i) = true → (Utf8.decode s i).2 = 1) := by
  have hb : ∀ n, 128 ≤ n → nameB n = false := by
    intro n hn
    simp only [nameB, Bool.or_eq_false_iff, Bool.and_eq_false_iff, decide_eq_false_iff_not]
    omega
  by_cases h : byteAt s i < 128
  · have : Utf8.decode s i = (byteAt s i, 1) := by
      unfold Utf8.decode
      simp only [Nat.add_zero]
      exact if_pos h
    rw [this]; exact ⟨rfl, fun _ => rfl⟩
  · have h1 : 128 ≤ (Utf8.decode s i).1 := by
      unfold Utf8.decode
      simp only [Nat.add_zero]
      rw [if_neg (show ¬ (s.get! i).toNat < 128 from h)]
      repeat' split
      all_goals first | (simp only [ge_iff_le, Bool.and_eq_true, decide_eq_true_eq] at *; omega) | (simp [Utf8.runeError])
    rw [hb _ h1, hb _ (by omega)]
    exact ⟨rfl, fun h => by cases h⟩
def IdxPost (s : ByteArray) (w : World) (e : Ending) (w' : World) : Prop := ∃ k : Int, e = .returned (.int .i64 k) ∧ decide (0 ≤ k) = !allN s ∧ Below w.heap.size w w'
set_option maxRecDepth 100000 in
set_option maxHeartbeats 400000 in
theorem indexFunc_any (s : ByteArray) (w : World) : Calls Tryz.prog 359 #[.string s, .func (.func 311) #[] #[], .bool true] w (IdxPost s w) := by
  go_enter Tryz.func359, Tryz.ntmps359
  go_wp2
  go_loopg [] s.size (fun gf wx => ∃ pos : Nat, wx.heap[w.heap.size]? = some (.stringIter s pos) ∧ Below w.heap.size w wx ∧ Hid (∀ i, i < pos → nameB (byteAt s i) = true) ∧ pos + gf = s.size)
  case atStart => exact ⟨0, World.iter_heap w s 0, (Below.refl _ w).alloc (Nat.le_refl _) _, fun i h => by omega, by omega⟩
  case round =>
    obtain ⟨pos, hit, hbw, hpre, hfu⟩ := hrel
    by_cases hps : pos < s.size
    · have hnx : ∀ ty, (Instr.next (.pointer (some ⟨w.heap.size, 0, none⟩)) true ty).run Tryz.prog wr = _ := fun ty => Lib.run_next_any_at wr w.heap.size s pos ty hit hps
      obtain ⟨hd1, hd2⟩ := decode_name s pos
      have hit2 := Lib.iterAt_heap wr w.heap.size s pos (pos + (Utf8.decode s pos).2) hit
      have hbw2 := Lib.below_iterAt hbw (k := w.heap.size) (Nat.le_refl _) s (pos + (Utf8.decode s pos).2)
      have cS := strange_any (Utf8.decode s pos).1 (wr.iterAt w.heap.size s (pos + (Utf8.decode s pos).2))
      rw [hd1] at cS
      generalize (Utf8.decode s pos).1 = R at *
      cases hn : nameB (byteAt s pos) with
      | true =>
        rw [hd2 hn] at *
        rw [hn] at cS
        have Hn := Lib.hid hn
        have cS := Lib.hid cS
        have hit2 := Lib.hid hit2
        have hbw2 := Lib.hid hbw2
        clear hn hd1 hd2 hit
        go_wp2_with fail
        refine cS.out.mono ?_
        rintro e w1 ⟨rfl, hb⟩
        go_wp2_with fail
        go_roundg (gk - 1)
        case measure => omega
        case rel => exact ⟨pos + 1, (hb.block _ ((Array.getElem?_eq_some_iff.1 hit2.out).1)).trans hit2.out, below_next hbw2.out hb, fun i hi => by
            by_cases h : i < pos
            · exact hpre.out i h
            · rw [show i = pos by omega]; exact Hn.out, by omega⟩
      | false =>
        rw [hn] at cS
        have Hn := Lib.hid (allN_false hps hn)
        have cS := Lib.hid cS
        have hbw2 := Lib.hid hbw2
        clear hn hd1 hd2 hit hit2
        go_wp2_with fail
        refine cS.out.mono ?_
        rintro e w1 ⟨rfl, hb⟩
        go_wp2_with fail
        go_ret
        exact ⟨_, rfl, by rw [Hn.out]; simp, below_next hbw2.out hb⟩
    · have hnx : ∀ ty, (Instr.next (.pointer (some ⟨w.heap.size, 0, none⟩)) true ty).run Tryz.prog wr = _ := fun ty => Lib.run_next_end_at wr w.heap.size s pos ty hit hps
      go_wp2_with fail
      go_ret
      exact ⟨_, rfl, by
        have : allN s = true := by
          simp only [allN, decide_eq_true_eq]
          exact fun i hi => hpre.out i (by omega)
        rw [this]; rfl, hbw⟩
def ContPost (s : ByteArray) (w : World) (e : Ending) (w' : World) : Prop := e = .returned (.bool (!allN s)) ∧ Below w.heap.size w w'
set_option maxRecDepth 100000 in
theorem containsFunc_any (s : ByteArray) (w : World) : Calls Tryz.prog 313 #[.string s, .func (.func 311) #[] #[]] w (ContPost s w) := by
  have hi : Calls Tryz.prog 340 #[.string s, .func (.func 311) #[] #[]] w (IdxPost s w) := by
    go_enter Tryz.func340, Tryz.ntmps340
    go_wp2_with fail
    refine (indexFunc_any s w).mono ?_
    rintro e w1 ⟨k, rfl, hk, hb⟩
    go_wp2_with fail
    go_ret
    exact ⟨k, rfl, hk, hb⟩
  go_enter Tryz.func313, Tryz.ntmps313
  go_wp2_with fail
  refine hi.mono ?_
  rintro e w1 ⟨k, rfl, hk, hb⟩
  have Hk := Lib.hid hk
  clear hk
  go_wp2_with fail
  go_ret
  exact ⟨by rw [← Hk.out]; rfl, hb⟩
/-- is a text a name -/
def nameOk (s : ByteArray) : Bool := decide (1 ≤ s.size) && decide (s.size ≤ 32) && lowB (byteAt s 0) && allN s
set_option maxRecDepth 100000 in
set_option maxHeartbeats 400000 in
theorem name_any (s : ByteArray) (w : World) : Calls Tryz.prog 256 #[.string s] w (RetBool (nameOk s) w) := by
  by_cases h0 : s.size = 0
  · have hl0 : s.toList = [] := by
      rw [ByteArray.toList_eq]
      exact List.eq_nil_of_length_eq_zero h0
    have he : s.toList.isEmpty = true := by rw [hl0]; rfl
    have HR : Hid (nameOk s = false) := by show nameOk s = false; simp [nameOk, h0]
    go_enter Tryz.func256, Tryz.ntmps256
    go_wp2_with fail
    go_ret
    exact ⟨by rw [HR.out]; rfl, Below.refl _ _⟩
  · have hl0 : s.toList ≠ [] := by
      rw [ByteArray.toList_eq]
      intro h
      exact h0 (congrArg List.length h)
    have he : s.toList.isEmpty = false := by simpa using hl0
    by_cases h32 : s.size ≤ 32
    · have z1 : (s.size : Int) ≤ 32 ↔ s.size ≤ 32 := by omega
      have hlt : 0 < s.size := by omega
      cases hlow : lowB (byteAt s 0) with
      | true =>
        have HR : Hid (nameOk s = allN s) := by show nameOk s = allN s; simp [nameOk, h32, hlow]; omega
        have cl := letter_any (byteAt s 0) w
        rw [hlow, ← byteAt_eq hlt] at cl
        have cl := Lib.hid cl
        clear hlow
        go_enter Tryz.func256, Tryz.ntmps256
        go_wp2_with fail
        refine cl.out.mono ?_
        rintro e w1 ⟨rfl, hb⟩
        go_wp2_with fail
        refine (containsFunc_any s w1).mono ?_
        rintro e w2 ⟨rfl, hb2⟩
        go_wp2_with fail
        go_ret
        exact ⟨by rw [HR.out, ← Bool.not_not (allN s)]; rfl, below_next hb hb2⟩
      | false =>
        have HR : Hid (nameOk s = false) := by show nameOk s = false; simp [nameOk, hlow]
        have cl := letter_any (byteAt s 0) w
        rw [hlow, ← byteAt_eq hlt] at cl
        have cl := Lib.hid cl
        clear hlow
        go_enter Tryz.func256, Tryz.ntmps256
        go_wp2_with fail
        refine cl.out.mono ?_
        rintro e w1 ⟨rfl, hb⟩
        go_wp2_with fail
        go_ret
        exact ⟨by rw [HR.out]; rfl, hb⟩
    · have z1 : ¬ (s.size : Int) ≤ 32 := by omega
      have HR : Hid (nameOk s = false) := by show nameOk s = false; simp [nameOk, h32]
      go_enter Tryz.func256, Tryz.ntmps256
      go_wp2_with fail
      go_ret
      exact ⟨by rw [HR.out]; rfl, Below.refl _ _⟩
/-- is a value right -/
def rightB (v : GV) : Bool := if v.k = 1 then decide (v.s.size = 0) && decide (-2147483647 ≤ v.n) && decide (v.n ≤ 2147483647) else if v.k = 2 then decide (v.n = 0) && nameOk v.s else false
set_option maxRecDepth 100000 in
theorem bounded_any (n : Int) (w : World) : Calls Tryz.prog 255 #[.int .i64 n] w (RetBool (decide (-2147483647 ≤ n) && decide (n ≤ 2147483647)) w) := by
  by_cases h1 : -2147483647 ≤ n <;> by_cases h2 : n ≤ 2147483647 <;> (try (exfalso; omega))
  all_goals
    go_enter Tryz.func255, Tryz.ntmps255
    go_wp2
    go_ret
    exact ⟨by simp [h1, h2], Below.refl _ _⟩
set_option maxRecDepth 100000 in
set_option maxHeartbeats 400000 in
theorem right_any (v : GV) (w : World) : Calls Tryz.prog 182 #[v.v] w (RetBool (rightB v) w) := by
  by_cases h1 : v.k = 1
  · have z1 : (v.k == 1) = true := by simp [h1]
    have hb := Lib.hid (bounded_any v.n)
    have Hk := Lib.hid h1
    clear h1
    have ze : v.s.toList.isEmpty = decide (v.s.size = 0) := by
      rw [ByteArray.toList_eq, Bool.eq_iff_iff]
      simp only [List.isEmpty_iff, decide_eq_true_eq]
      exact ⟨fun h => congrArg List.length h, fun h => List.eq_nil_of_length_eq_zero h⟩
    by_cases hs : v.s.size = 0
    · have HR : Hid (rightB v = (decide (-2147483647 ≤ v.n) && decide (v.n ≤ 2147483647))) := by
        show rightB v = _
        simp [rightB, Hk.out, hs]
      go_enter Tryz.func182, Tryz.ntmps182
      go_wp2_with fail
      refine (hb.out _).mono ?_
      rintro e w1 ⟨rfl, hb⟩
      go_wp2_with fail
      go_ret
      exact ⟨by rw [HR.out]; rfl, below_next (belowA (Below.refl _ _) _) hb⟩
    · have HR : Hid (rightB v = false) := by show rightB v = false; simp [rightB, Hk.out, hs]
      go_enter Tryz.func182, Tryz.ntmps182
      go_wp2_with fail
      go_ret
      exact ⟨by rw [HR.out]; rfl, belowA (Below.refl _ _) _⟩
  · have z1 : (v.k == 1) = false := by simp [h1]
    have Hk := Lib.hid h1
    clear h1
    by_cases h2 : v.k = 2
    · have z2 : (v.k == 2) = true := by simp [h2]
      have Hk2 := Lib.hid h2
      clear h2
      by_cases h3 : v.n = 0
      · have z3 : (v.n == 0) = true := by simp [h3]
        have HR : Hid (rightB v = nameOk v.s) := by show rightB v = _; simp [rightB, Hk2.out, h3]
        clear h3
        go_enter Tryz.func182, Tryz.ntmps182
        go_wp2_with fail
        refine (name_any v.s _).mono ?_
        rintro e w1 ⟨rfl, hb⟩
        go_wp2_with fail
        go_ret
        exact ⟨by rw [HR.out]; rfl, below_next (belowA (Below.refl _ _) _) hb⟩
      · have z3 : (v.n == 0) = false := by simp [h3]
        have HR : Hid (rightB v = false) := by show rightB v = _; simp [rightB, Hk2.out, h3]
        clear h3
        go_enter Tryz.func182, Tryz.ntmps182
        go_wp2_with fail
        go_ret
        exact ⟨by rw [HR.out]; rfl, belowA (Below.refl _ _) _⟩
    · have z2 : (v.k == 2) = false := by simp [h2]
      have HR : Hid (rightB v = false) := by show rightB v = false; simp [rightB, Hk.out, h2]
      clear h2
      go_enter Tryz.func182, Tryz.ntmps182
      go_wp2_with fail
      go_ret
      exact ⟨by rw [HR.out]; rfl, belowA (Below.refl _ _) _⟩
theorem nameOk_all {s : ByteArray} {i : Nat} (hi : i < s.size) (h : nameB (byteAt s i) = false) : nameOk s = false := by simp [nameOk, allN_false hi h]
/-- what the document asks of one byte -/
def refB (i b : Nat) : Bool := lowB b || (!decide (i = 0) && nameB b)
theorem refB_false {s : ByteArray} {i : Nat} (hi : i < s.size) (h : refB i (byteAt s i) = false) : nameOk s = false := by
  simp only [refB, Bool.or_eq_false_iff, Bool.and_eq_false_iff, Bool.not_eq_false', decide_eq_true_eq] at h
  rcases h.2 with h0 | h0
  · rw [h0] at h; simp [nameOk, h.1]
  · exact nameOk_all hi h0
theorem lowB_name {b : Nat} (h : lowB b = true) : nameB b = true := by
  simp only [lowB] at h; simp [nameB, h]
theorem refB_true {s : ByteArray} (h : ∀ j, j < s.size → refB j (byteAt s j) = true) : nameOk s = (decide (1 ≤ s.size) && decide (s.size ≤ 32)) := by
  have ha : allN s = true := by
    simp only [allN, decide_eq_true_eq]
    intro j hj
    have := h j hj
    simp only [refB, Bool.or_eq_true, Bool.and_eq_true] at this
    rcases this with h1 | h1
    · exact lowB_name h1
    · exact h1.2
  by_cases h0 : 1 ≤ s.size
  · have := h 0 (by omega)
    simp [refB] at this
    simp [nameOk, ha, this]
  · simp [nameOk, h0]
theorem refB_int (k b : Nat) : refB k b = ((decide (97 ≤ (b : Int)) && decide ((b : Int) ≤ 122)) || (!decide (k = 0) && ((decide (48 ≤ (b : Int)) && decide ((b : Int) ≤ 57)) || decide ((b : Int) = 95)))) := by
  rw [Bool.eq_iff_iff]; simp [refB, lowB, nameB]; omega
set_option linter.unusedSimpArgs false in
set_option maxRecDepth 100000 in
set_option maxHeartbeats 2000000 in
theorem refNameQ_any (s : ByteArray) (hsz : s.size ≤ 140737488351232) (w : World) : Calls Tryz.prog 257 #[.string s] w (RetSameB (nameOk s) w) := by
  go_enter Tryz.func257, Tryz.ntmps257
  go_wp2
  go_loop [3, 4, 5] (fun i _ _ => ∃ k : Nat, k ≤ s.size ∧ i = .int .i64 k ∧ Hid (∀ j, j < k → refB j (byteAt s j) = true)) (fun i _ _ => s.size - (intOf i).toNat)
  case atStart => exact ⟨0, by omega, rfl, fun j h => by omega⟩
  case round =>
    obtain ⟨k, hk, rfl, hpre⟩ := hrel
    by_cases hlt : k < s.size
    · have i0 : (0 : Int) ≤ (k : Int) := by omega
      have i1 : (k : Int) < (s.size : Int) := by omega
      have Hb := Lib.hid (byteAt_eq hlt).symm
      have HN : Hid (refB k (s[k]'hlt).toNat = true → ∀ j, j < k + 1 → refB j (byteAt s j) = true) := by
        intro h j hj
        by_cases hjk : j < k
        · exact hpre.out j hjk
        · have e : j = k := by omega
          subst e
          rw [Hb.out]; exact h
      have HF : Hid (refB k (s[k]'hlt).toNat = false → nameOk s = false) := by
        intro h; exact refB_false hlt (by rw [Hb.out]; exact h)
      have HE := Lib.hid (refB_int k (s[k]'hlt).toNat)
      clear hpre
      have z0 : ((k : Int) == 0) = decide (k = 0) := by rw [Bool.eq_iff_iff]; simp
      by_cases h1 : (97 : Int) ≤ ((s[k]'hlt).toNat : Int) <;> by_cases h2 : ((s[k]'hlt).toNat : Int) ≤ 122 <;> by_cases h3 : (48 : Int) ≤ ((s[k]'hlt).toNat : Int) <;> by_cases h4 : ((s[k]'hlt).toNat : Int) ≤ 57 <;> by_cases h5 : ((s[k]'hlt).toNat : Int) = 95 <;> cases hk0 : decide (k = 0) <;> (try (exfalso; omega))
      all_goals
        have z5 : (((s[k]'hlt).toNat : Int) != 95) = !decide (((s[k]'hlt).toNat : Int) = 95) := by rw [Bool.eq_iff_iff]; simp
        have h0 := HE.out
        rw [hk0] at z0 h0
        clear HE hk0
        simp only [h1, h2, h3, h4, h5, decide_true, decide_false, Bool.and_true, Bool.true_and, Bool.and_false, Bool.false_and, Bool.or_true, Bool.true_or, Bool.or_false, Bool.false_or, Bool.not_true, Bool.not_false] at z5 h0
        have HR := Lib.hid h0
        clear h0
        go_wp2_with fail
      all_goals first
        | (go_ret; exact ⟨by rw [HF.out HR.out]; rfl, rfl⟩)
        | exact ⟨⟨k + 1, by omega, by go_num, HN.out HR.out⟩, by simp [intOf]; omega⟩
    · have HR : Hid (nameOk s = (decide (1 ≤ s.size) && decide (s.size ≤ 32))) := refB_true (fun j hj => hpre.out j (by omega))
      have i1 : ¬ (k : Int) < (s.size : Int) := by omega
      by_cases h1 : (1 : Int) ≤ (s.size : Int) <;> by_cases h2 : (s.size : Int) ≤ 32 <;> (try (exfalso; omega))
      all_goals
        go_wp2_with fail
        go_ret
        exact ⟨by rw [HR.out]; simp; omega, rfl⟩
theorem refName_any (s : ByteArray) (hsz : s.size ≤ 140737488351232) (w : World) : Calls Tryz.prog 257 #[.string s] w (RetBool (nameOk s) w) :=
  (refNameQ_any s hsz w).mono fun _ _ ⟨he, hw⟩ => ⟨he, by rw [hw]; exact Below.refl _ _⟩
set_option linter.unusedSimpArgs false in
set_option maxRecDepth 100000 in
set_option maxHeartbeats 1000000 in
theorem refRight_any (v : GV) (hv : v.ok) (w : World) : Calls Tryz.prog 184 #[v.v] w (RetBool (rightB v) w) := by
  have hsz : v.s.size ≤ 140737488351232 := hv.2.2
  by_cases h1 : v.k = 1
  · have z1 : (v.k == 1) = true := by simp [h1]
    have Hk := Lib.hid h1
    clear h1
    have HE : Hid (rightB v = (((v.s.size : Int) == 0) && decide (-2147483647 ≤ v.n) && decide (v.n ≤ 2147483647))) := by
      show rightB v = _
      rw [Bool.eq_iff_iff]; simp [rightB, Hk.out]
    cases zs : ((v.s.size : Int) == 0) <;> by_cases h3 : -2147483647 ≤ v.n <;> by_cases h4 : v.n ≤ 2147483647 <;> (try (exfalso; omega))
    all_goals
      have h0 := HE.out
      clear HE
      simp only [zs, h3, h4, decide_true, decide_false, Bool.and_true, Bool.and_false, Bool.false_and] at h0
      have HR := Lib.hid h0
      clear h0
      go_enter Tryz.func184, Tryz.ntmps184
      go_wp2_with fail
      go_ret
      exact ⟨by rw [HR.out]; rfl, belowA (Below.refl _ _) _⟩
  · have z1 : (v.k == 1) = false := by simp [h1]
    have Hk := Lib.hid h1
    clear h1
    by_cases h2 : v.k = 2
    · have z2 : (v.k == 2) = true := by simp [h2]
      have Hk2 := Lib.hid h2
      clear h2
      by_cases h3 : v.n = 0
      · have z3 : (v.n == 0) = true := by simp [h3]
        have HR : Hid (rightB v = nameOk v.s) := by show rightB v = _; simp [rightB, Hk2.out, h3]
        clear h3
        go_enter Tryz.func184, Tryz.ntmps184
        go_wp2_with fail
        refine (refName_any v.s hsz _).mono ?_
        rintro e w1 ⟨rfl, hb⟩
        go_wp2_with fail
        go_ret
        exact ⟨by rw [HR.out]; rfl, below_next (belowA (Below.refl _ _) _) hb⟩
      · have z3 : (v.n == 0) = false := by simp [h3]
        have HR : Hid (rightB v = false) := by show rightB v = _; simp [rightB, Hk2.out, h3]
        clear h3
        go_enter Tryz.func184, Tryz.ntmps184
        go_wp2_with fail
        go_ret
        exact ⟨by rw [HR.out]; rfl, belowA (Below.refl _ _) _⟩
    · have z2 : (v.k == 2) = false := by simp [h2]
      have HR : Hid (rightB v = false) := by show rightB v = false; simp [rightB, Hk.out, h2]
      clear h2
      go_enter Tryz.func184, Tryz.ntmps184
      go_wp2_with fail
      go_ret
      exact ⟨by rw [HR.out]; rfl, belowA (Below.refl _ _) _⟩
end Go.Proofs.YtgabkmibfhmkmaaGreatDoor

namespace Go.Proofs.YtgabkmibfhmkmaaGreatDoor
open Go.Lib
theorem decFrom_append : ∀ (l m : List UInt8) (a : Nat), decFrom a (l ++ m) = (decFrom a l).bind (fun n => decFrom n m)
  | [], m, a => by simp [decFrom]
  | b :: l, m, a => by
    simp only [List.cons_append, decFrom]
    cases digitVal b with
    | none => rfl
    | some d => exact decFrom_append l m _
theorem digit_u8 {d : Nat} (h : d < 10) : digitVal (UInt8.ofNat (48 + d)) = some d := by
  have : (UInt8.ofNat (48 + d)).toNat = 48 + d := by simp; omega
  unfold digitVal
  rw [if_pos (by omega)]
  congr 1; omega
theorem dec_digits : ∀ n : Nat, decFrom 0 (decDigits n) = some n := by
  intro n
  induction n using Nat.strongRecOn with
  | _ n ih =>
    rw [decDigits]
    split
    · rename_i h
      simp only [decFrom, digit_u8 h]; simp
    · rename_i h
      rw [decFrom_append, ih (n / 10) (by omega)]
      simp only [Option.bind_some, decFrom, digit_u8 (Nat.mod_lt n (by omega))]
      congr 1; omega
theorem digits_ne (n : Nat) : decDigits n ≠ [] := by
  rw [decDigits]; split <;> simp
theorem digits_first : ∀ n : Nat, 1 ≤ n → ∃ c r, decDigits n = c :: r ∧ 49 ≤ c.toNat ∧ c.toNat ≤ 57 := by
  intro n
  induction n using Nat.strongRecOn with
  | _ n ih =>
    intro h1
    rw [decDigits]
    split
    · rename_i h
      have : (UInt8.ofNat (48 + n)).toNat = 48 + n := by simp; omega
      exact ⟨_, [], rfl, by omega, by omega⟩
    · rename_i h
      obtain ⟨c, r, e, h2, h3⟩ := ih (n / 10) (by omega) (by omega)
      exact ⟨c, _, by rw [e]; rfl, h2, h3⟩
theorem digits_zero : decDigits 0 = [48] := by rw [decDigits]; rfl
theorem digits_len : ∀ (k n : Nat), n < 10 ^ (k + 1) → (decDigits n).length ≤ k + 1 := by
  intro k
  induction k with
  | zero => intro n h; rw [decDigits, dif_pos (by simpa using h)]; simp
  | succ k ih =>
    intro n h
    rw [decDigits]
    split
    · simp
    · have := ih (n / 10) (by rw [Nat.pow_succ] at h; omega)
      simp; omega
theorem digitVal_some {c : UInt8} {d : Nat} (h : digitVal c = some d) : d < 10 ∧ c = UInt8.ofNat (48 + d) := by
  unfold digitVal at h
  split at h
  · rename_i hc
    injection h with h
    refine ⟨by omega, ?_⟩
    apply UInt8.toNat_inj.1
    have : (UInt8.ofNat (48 + d)).toNat = 48 + d := by simp; omega
    rw [this]; omega
  · cases h
/-- digits without a nought ahead are the numeral of their number -/
theorem digits_back : ∀ (k : Nat) (t : List UInt8) (n : Nat), t.length = k → t ≠ [] → (∀ c r, t = c :: r → c = 48 → r = []) → decFrom 0 t = some n → decDigits n = t := by
  intro k
  induction k with
  | zero => intro t n hl hn; exact absurd (List.eq_nil_of_length_eq_zero hl) hn
  | succ k ih =>
    intro t n hl hn h0 hd
    obtain ⟨t', c, rfl⟩ : ∃ t' c, t = t' ++ [c] := by
      rcases List.eq_nil_or_concat t with h | ⟨l, b, h⟩
      · exact absurd h hn
      · exact ⟨l, b, by simpa using h⟩
    rw [decFrom_append] at hd
    cases hn' : decFrom 0 t' with
    | none => rw [hn'] at hd; cases hd
    | some m =>
      rw [hn'] at hd
      simp only [Option.bind_some, decFrom] at hd
      cases hc : digitVal c with
      | none => rw [hc] at hd; cases hd
      | some d =>
        rw [hc] at hd
        injection hd with hd
        obtain ⟨hd10, rfl⟩ := digitVal_some hc
        cases ht : t' with
        | nil =>
          subst ht
          simp only [decFrom] at hn'
          injection hn' with hn'
          subst hn'
          rw [decDigits, dif_pos (by omega)]
          rw [← hd]; simp
        | cons a r =>
          have h0' : ∀ c r, t' = c :: r → c = 48 → r = [] := by
            intro c' r' e e48
            have := h0 c' (r' ++ [UInt8.ofNat (48 + d)]) (by rw [e]; rfl) e48
            simp at this
          have hm := ih t' m (by simpa using hl) (by rw [ht]; simp) h0' hn'
          have hm1 : 1 ≤ m := by
            rcases Nat.eq_zero_or_pos m with h | h
            · subst h
              rw [digits_zero] at hm
              have := h0 48 [UInt8.ofNat (48 + d)] (by rw [← hm]; rfl) rfl
              simp at this
            · exact h
          rw [← ht, ← hm]
          rw [decDigits, dif_neg (by omega)]
          rw [show n / 10 = m by omega, show n % 10 = d by omega]
def magOf (t : List UInt8) : Option Nat := match decFrom 0 t with
    | some n => if 2147483647 < n then none else some n
    | none => none
/-- the document's reading of digits behind the sign -/
def refMag (t : List UInt8) (neg : Bool) : Option Nat :=
  if t.length = 0 ∨ 10 < t.length ∨ (t.head? = some 48 ∧ (1 < t.length ∨ neg = true)) then none
  else magOf t
def refNum (l : List UInt8) : Option Int :=
  if l.head? = some 45 then (refMag l.tail true).map fun (n : Nat) => -(n : Int) else (refMag l false).map fun (n : Nat) => (n : Int)
def bnd31 (n : Int) : Bool := decide (-2147483647 ≤ n) && decide (n ≤ 2147483647)
/-- the program's reading -/
def ownNum (l : List UInt8) : Option Int :=
  match atoiAll l with
  | .ok n => if itoa n = l ∧ bnd31 n = true then some n else none
  | _ => none
theorem refMag_some {t : List UInt8} {neg : Bool} {n : Nat} (h : refMag t neg = some n) : decDigits n = t ∧ n ≤ 2147483647 ∧ (neg = true → 1 ≤ n) := by
  unfold refMag at h
  split at h
  · cases h
  · rename_i hc
    simp only [not_or] at hc
    obtain ⟨h1, h2, h3⟩ := hc
    unfold magOf at h
    cases hd : decFrom 0 t with
    | none => rw [hd] at h; cases h
    | some m =>
      rw [hd] at h
      simp only at h
      split at h
      · cases h
      · injection h with h
        subst h
        have hb := digits_back t.length t m rfl (by intro e; subst e; simp at h1) (by
          intro c r e e48
          subst e; subst e48
          by_cases hr : r = []
          · exact hr
          · exact absurd ⟨rfl, .inl (by cases r with | nil => exact absurd rfl hr | cons => simp)⟩ h3) hd
        refine ⟨hb, by omega, fun hn => ?_⟩
        rcases Nat.eq_zero_or_pos m with h | h
        · subst h
          rw [digits_zero] at hb
          exact absurd ⟨by rw [← hb]; rfl, .inr hn⟩ h3
        · exact h
theorem refMag_digits {n : Nat} {neg : Bool} (h : n ≤ 2147483647) (h1 : neg = true → 1 ≤ n) : refMag (decDigits n) neg = some n := by
  unfold refMag
  have hl := digits_len 9 n (by omega)
  have hn : (decDigits n).length ≠ 0 := fun e => digits_ne n (List.eq_nil_of_length_eq_zero e)
  rw [if_neg]
  · unfold magOf
    rw [dec_digits]
    simp only
    rw [if_neg (by omega)]
  · simp only [not_or, not_and]
    refine ⟨hn, by omega, fun h48 => ?_⟩
    rcases Nat.eq_zero_or_pos n with e | e
    · subst e
      rw [digits_zero]
      simp
      cases neg
      · rfl
      · exact absurd (h1 rfl) (by omega)
    · obtain ⟨c, r, e', h2, h3⟩ := digits_first n e
      rw [e'] at h48
      simp at h48
      subst h48
      simp at h2
theorem itoa_pos (n : Nat) : itoa (n : Int) = decDigits n := itoa_nonneg n
theorem atoi_digits (n : Nat) (h : n ≤ 2147483647) : atoiAll (decDigits n) = .ok (n : Int) := by
  rw [atoiAll_short _ (by have := digits_len 9 n (by omega); omega)]
  have hd := dec_digits n
  have hne := digits_ne n
  have hne' : (decDigits n).isEmpty = false := by
    cases h : decDigits n with
    | nil => exact absurd h hne
    | cons => rfl
  have hN : decNat (decDigits n) = some n := by unfold decNat; rw [hne']; exact hd
  have hA : atoi (decDigits n) = some (n : Int) := by
    have hc : ∃ c r, decDigits n = c :: r ∧ 48 ≤ c.toNat := by
      rcases Nat.eq_zero_or_pos n with e | e
      · subst e; exact ⟨48, [], digits_zero, by decide⟩
      · obtain ⟨c, r, e', h2, h3⟩ := digits_first n e
        exact ⟨c, r, e', by omega⟩
    obtain ⟨c, r, e, hc⟩ := hc
    rw [e] at hN ⊢
    unfold atoi
    have e1 : (c == 45) = false := by
      rw [Bool.eq_false_iff]; intro h; rw [beq_iff_eq] at h; subst h; simp at hc
    have e2 : (c == 43) = false := by
      rw [Bool.eq_false_iff]; intro h; rw [beq_iff_eq] at h; subst h; simp at hc
    simp only [e1, e2, Bool.false_eq_true, if_false, hN, Option.map_some]
  rw [hA]; rfl
theorem atoi_neg (n : Nat) (h : n ≤ 2147483647) : atoiAll (45 :: decDigits n) = .ok (-(n : Int)) := by
  rw [atoiAll_short _ (by have := digits_len 9 n (by omega); simp; omega)]
  have hd := dec_digits n
  have hne := digits_ne n
  have hne' : (decDigits n).isEmpty = false := by
    cases h : decDigits n with
    | nil => exact absurd h hne
    | cons => rfl
  have hN : decNat (decDigits n) = some n := by unfold decNat; rw [hne']; exact hd
  unfold atoi
  simp [hN, NumEnd.ofOption]
theorem refNum_itoa {n : Int} (h1 : -2147483647 ≤ n) (h2 : n ≤ 2147483647) : refNum (itoa n) = some n ∧ atoiAll (itoa n) = .ok n := by
  by_cases hn : n < 0
  · obtain ⟨m, rfl⟩ : ∃ m : Nat, n = -(m : Int) := ⟨n.natAbs, by omega⟩
    rw [itoa_neg m (by omega)]
    refine ⟨?_, atoi_neg m (by omega)⟩
    unfold refNum
    simp only [List.head?_cons, if_true, List.tail_cons, refMag_digits (n := m) (neg := true) (by omega) (fun _ => by omega), Option.map_some]
  · obtain ⟨m, rfl⟩ : ∃ m : Nat, n = (m : Int) := ⟨n.toNat, by omega⟩
    rw [itoa_pos]
    refine ⟨?_, atoi_digits m (by omega)⟩
    unfold refNum
    have hh : (decDigits m).head? ≠ some 45 := by
      rcases Nat.eq_zero_or_pos m with e | e
      · subst e; rw [digits_zero]; decide
      · obtain ⟨c, r, e', h3, h4⟩ := digits_first m e
        rw [e']; simp; intro e; subst e; simp at h3
    rw [if_neg hh, refMag_digits (n := m) (neg := false) (by omega) (fun h => by cases h)]
    rfl
theorem refNum_some {l : List UInt8} {n : Int} (h : refNum l = some n) : l = itoa n ∧ -2147483647 ≤ n ∧ n ≤ 2147483647 := by
  unfold refNum at h
  split at h
  · rename_i h45
    obtain ⟨m, hm, rfl⟩ := Option.map_eq_some_iff.1 h
    obtain ⟨e, hle, h1⟩ := refMag_some hm
    have h1 := h1 rfl
    rw [itoa_neg m h1, e]
    refine ⟨?_, by omega, by omega⟩
    cases l with
    | nil => cases h45
    | cons c r => simp at h45; subst h45; rfl
  · obtain ⟨m, hm, rfl⟩ := Option.map_eq_some_iff.1 h
    obtain ⟨e, hle, h1⟩ := refMag_some hm
    rw [itoa_pos, e]
    exact ⟨rfl, by omega, by omega⟩
theorem own_eq_ref (l : List UInt8) : ownNum l = refNum l := by
  cases hr : refNum l with
  | some n =>
    obtain ⟨e, h1, h2⟩ := refNum_some hr
    have ha := (refNum_itoa h1 h2).2
    rw [← e] at ha
    unfold ownNum
    rw [ha]
    simp only
    rw [if_pos ⟨e.symm, by simp [bnd31, h1, h2]⟩]
  | none =>
    unfold ownNum
    cases ha : atoiAll l
    · rename_i n
      simp only
      rw [if_neg]
      rintro ⟨e, hb⟩
      simp [bnd31] at hb
      have := (refNum_itoa hb.1 hb.2).1
      rw [e, hr] at this
      cases this
    · rfl
    · rfl
end Go.Proofs.YtgabkmibfhmkmaaGreatDoor

namespace Go.Proofs.YtgabkmibfhmkmaaGreatDoor
open Go.RowKit
def gv0 : GV := ⟨0, 0, ⟨#[]⟩⟩
theorem toList_mk (l : List UInt8) : (⟨l.toArray⟩ : ByteArray).toList = l := by rw [ByteArray.toList_eq]
theorem bytes_back (s : ByteArray) : (⟨s.toList.toArray⟩ : ByteArray) = s := by
  rw [ByteArray.toList_eq]
/-- the value of a text -/
def parseO (s : ByteArray) : Option GV := if nameOk s then some ⟨2, 0, s⟩ else (refNum s.toList).map fun n => ⟨1, n, ⟨#[]⟩⟩
def parseG (s : ByteArray) : GV := (parseO s).getD gv0
theorem parse_name {s : ByteArray} (h : nameOk s = true) : parseO s = some ⟨2, 0, s⟩ := by simp [parseO, h]
theorem parse_num {s : ByteArray} (h : nameOk s = false) : parseO s = (refNum s.toList).map fun n => ⟨1, n, ⟨#[]⟩⟩ := by simp [parseO, h]
theorem parse_none {s : ByteArray} (h : nameOk s = false) (h2 : refNum s.toList = none) : parseO s = none := by rw [parse_num h, h2]; rfl
theorem parse_some {s : ByteArray} {n : Int} (h : nameOk s = false) (h2 : refNum s.toList = some n) : parseO s = some ⟨1, n, ⟨#[]⟩⟩ := by rw [parse_num h, h2]; rfl
theorem ba_get {s : ByteArray} {k : Nat} (h : k < s.size) : s.toList[k]? = some (s[k]'h) := by
  rw [ByteArray.toList_eq, List.getElem?_eq_getElem (h := show k < s.data.toList.length from by simpa using h)]
  rfl
theorem ba_len (s : ByteArray) : s.toList.length = s.size := by rw [ByteArray.toList_eq]; rfl
theorem ba_head {s : ByteArray} (h : 0 < s.size) : s.toList.head? = some (s[0]'h) := by
  rw [List.head?_eq_getElem?]; exact ba_get h
theorem ba_tail (s : ByteArray) : (s.extract 1 s.size).toList = s.toList.tail := by
  rw [ByteArray.toList_eq, ByteArray.toList_eq, ByteArray.data_extract, Array.toList_extract]
  show List.take (s.size - 1) (s.data.toList.drop 1) = _
  rw [List.drop_one, List.take_of_length_le]
  rw [List.length_tail]; exact Nat.le_refl _
/-- the piece of the document's Parse behind the sign: the loop over the digits -/
theorem digit_none {t : ByteArray} {k : Nat} (hk : k < t.size) (h : ¬ (48 ≤ (t[k]'hk).toNat ∧ (t[k]'hk).toNat ≤ 57)) : Lib.decFrom 0 t.toList = none := by
  cases hd : Lib.decFrom 0 t.toList with
  | none => rfl
  | some n =>
    obtain ⟨d, hd'⟩ := Lib.digit_of_decFrom _ _ _ hd k _ (ba_get hk)
    unfold Lib.digitVal at hd'
    rw [if_neg h] at hd'
    cases hd'
def sgn (neg : Bool) : Int := if neg then -1 else 1
theorem refNum_mag (l : List UInt8) : refNum l = (refMag (if l.head? = some 45 then l.tail else l) (decide (l.head? = some 45))).map fun (n : Nat) => sgn (decide (l.head? = some 45)) * (n : Int) := by
  unfold refNum
  by_cases h : l.head? = some 45
  · simp only [h, if_true, decide_true, sgn]
    congr 1; funext n; omega
  · simp only [h, if_false, decide_false, sgn]
    congr 1; funext n; simp
set_option maxRecDepth 100000 in
set_option maxHeartbeats 2000000 in
theorem refParse_any (s : ByteArray) (hs : s.size ≤ 140737488351232) (w : World) : Calls Tryz.prog 367 #[.string s] w (RetV (.tuple #[(parseG s).v, .bool (parseO s).isSome]) w) := by
  have hn := fun w => refNameQ_any s hs w
  cases hN : nameOk s with
  | true =>
    rw [hN] at hn
    have hn := Lib.hid hn
    rw [show parseG s = ⟨2, 0, s⟩ by simp [parseG, parse_name hN], show (parseO s).isSome = true by simp [parse_name hN]]
    clear hN
    go_enter Tryz.func367, Tryz.ntmps367
    go_wp2_with fail
    refine (hn.out _).mono ?_
    rintro e w1 ⟨rfl, rfl⟩
    go_wp2_with fail
    exact bodyPost_ret (v := .tuple #[(⟨2, 0, s⟩ : GV).v, .bool true]) (by simp [results, Tryz.results367, go_sem]) rfl ⟨rfl, belowA (Below.refl _ _) _⟩
  | false =>
    rw [hN] at hn
    have hn := Lib.hid hn
    obtain ⟨sg, t, neg, hsg, ht, htl, hr, hneg⟩ : ∃ (sg : Int) (t : ByteArray) (neg : Bool), Hid (sg = sgn neg) ∧ t.size ≤ 140737488351232 ∧ Hid (t = (if neg then s.extract 1 s.size else s)) ∧ Hid (refNum s.toList = (refMag t.toList neg).map fun (n : Nat) => sg * (n : Int)) ∧ Hid (neg = decide (s.toList.head? = some 45)) := by
      refine ⟨_, _, decide (s.toList.head? = some 45), rfl, ?_, rfl, ?_, rfl⟩
      · split
        · have : (s.extract 1 s.size).size ≤ s.size := by rw [ByteArray.size_extract]; omega
          omega
        · exact hs
      · show _ = _
        rw [refNum_mag]
        by_cases h : s.toList.head? = some 45
        · simp only [h, if_true, decide_true, ba_tail]
        · simp only [h, if_false, decide_false, Bool.false_eq_true]
    have hno : refMag t.toList neg = none → parseG s = gv0 ∧ (parseO s).isSome = false := by
      intro h
      have := parse_none hN (by rw [hr.out, h]; rfl)
      simp [parseG, this]
    have hyes : ∀ n : Nat, refMag t.toList neg = some n → parseG s = ⟨1, sg * n, ⟨#[]⟩⟩ ∧ (parseO s).isSome = true := by
      intro n h
      have := parse_some hN (n := sg * n) (by rw [hr.out, h]; rfl)
      simp [parseG, this]
    have Hno := Lib.hid hno
    have Hyes := Lib.hid hyes
    generalize parseG s = pg at Hno Hyes ⊢
    generalize (parseO s).isSome = po at Hno Hyes ⊢
    clear hs hno hyes hN hr
    go_enter Tryz.func367, Tryz.ntmps367
    go_wp2_with fail
    refine (hn.out _).mono ?_
    rintro e w1 ⟨rfl, rfl⟩
    go_upto_region 4 with fail
    go_cut [20] (fun x W => x = .bool neg ∧ W = w.alloc (.cells #[.int .i64 0, .int .i64 0, .string ⟨#[]⟩] 28))
    case first =>
      by_cases h0 : 0 < s.size
      · have i0 : (0 : Int) < (s.size : Int) := by omega
        have hb : (((s[0]'h0).toNat : Int) == 45) = neg := by
          rw [hneg.out, ba_head h0, Bool.eq_iff_iff]
          simp [← UInt8.toNat_inj]; omega
        go_wp2_with fail
        go_meet
        exact ⟨by simp, rfl⟩
      · have hb : neg = false := by
          rw [hneg.out]
          have : s.toList = [] := List.eq_nil_of_length_eq_zero (by rw [ba_len]; omega)
          rw [this]; rfl
        subst hb
        have i0 : ¬ (0 : Int) < (s.size : Int) := by omega
        go_wp2_with fail
        go_meet
        exact ⟨by simp, rfl⟩
    case rest =>
    obtain ⟨rfl, rfl⟩ := hcut
    go_upto_if 20 with fail
    go_cut [4, 5] (fun x y W => x = .string t ∧ y = .int .i64 sg ∧ W = w.alloc (.cells #[.int .i64 0, .int .i64 0, .string ⟨#[]⟩] 28))
    case first =>
      cases neg with
      | true =>
        have h0 : 1 ≤ s.size := by
          rcases Nat.eq_zero_or_pos s.size with h | h
          · have : s.toList = [] := List.eq_nil_of_length_eq_zero (by rw [ba_len]; exact h)
            have := hneg.out
            simp [*] at this
          · exact h
        have e1 : t = s.extract 1 s.size := by have := htl.out; simpa using this
        have e2 : sg = -1 := by have := hsg.out; simpa [sgn] using this
        subst e1 e2
        go_wp2_with fail
        go_meet
        exact ⟨by simp, rfl, rfl⟩
      | false =>
        have e1 : t = s := by have := htl.out; simpa using this
        have e2 : sg = 1 := by have := hsg.out; simpa [sgn] using this
        subst e1 e2
        go_wp2_with fail
        go_meet
        exact ⟨by simp, rfl, rfl⟩
    case rest =>
    obtain ⟨rfl, rfl, rfl⟩ := hcut
    clear htl hneg hn
    obtain ⟨bad, hbad⟩ : ∃ bad, Hid (bad = decide (t.toList.length = 0 ∨ 10 < t.toList.length ∨ (t.toList.head? = some 48 ∧ (1 < t.toList.length ∨ neg = true)))) := ⟨_, rfl⟩
    go_upto_region 6 with fail
    go_cut [44] (fun x W => x = .bool bad ∧ W = w.alloc (.cells #[.int .i64 0, .int .i64 0, .string ⟨#[]⟩] 28))
    case first =>
      have hB := hbad.out
      rw [ba_len] at hB
      by_cases h0 : t.size = 0
      · have hb : bad = true := by rw [hB]; simp [h0]
        have z0 : ((t.size : Int) == 0) = true := by simp [h0]
        subst hb
        clear hB h0
        go_wp2_with fail
        go_meet
        exact ⟨by simp, rfl⟩
      · have z0 : ((t.size : Int) == 0) = false := by simp [h0]
        by_cases h1 : 10 < t.size
        · have hb : bad = true := by rw [hB]; simp [h1]
          have i0 : (10 : Int) < (t.size : Int) := by omega
          subst hb
          clear hB h0 h1
          go_wp2_with fail
          go_meet
          exact ⟨by simp, rfl⟩
        · have i0 : ¬ (10 : Int) < (t.size : Int) := by omega
          have hp : 0 < t.size := by omega
          have hhd := ba_head hp
          by_cases h2 : t[0]'hp = 48
          · have z1 : (((t[0]'hp).toNat : Int) == 48) = true := by rw [h2]; rfl
            rw [hhd, h2] at hB
            by_cases h3 : 1 < t.size
            · have hb : bad = true := by rw [hB]; simp [h3]
              have i1 : (1 : Int) < (t.size : Int) := by omega
              subst hb
              clear hB h0 h1 h2 hhd h3
              go_wp2_with fail
              go_meet
              exact ⟨by simp, rfl⟩
            · have i1 : ¬ (1 : Int) < (t.size : Int) := by omega
              have hb : bad = neg := by rw [hB]; simp [h0, h1, h3]
              have e2 := hsg.out
              clear hB h0 h1 h2 hhd h3
              cases neg with
              | true =>
                have e2 : sg = -1 := by simpa [sgn] using e2
                subst hb e2
                go_wp2_with fail
                go_meet
                exact ⟨by simp [sgn] <;> omega, rfl⟩
              | false =>
                have e2 : sg = 1 := by simpa [sgn] using e2
                subst hb e2
                go_wp2_with fail
                go_meet
                exact ⟨by simp [sgn] <;> omega, rfl⟩
          · have z1 : (((t[0]'hp).toNat : Int) == 48) = false := by
              rw [Bool.eq_false_iff]; intro h; rw [beq_iff_eq] at h
              exact h2 (UInt8.toNat_inj.1 (by have : (48 : UInt8).toNat = 48 := rfl; omega))
            have hb : bad = false := by rw [hB, hhd]; simp [h0, h1, h2]
            subst hb
            clear hB h0 h1 h2 hhd
            go_wp2_with fail
            go_meet
            exact ⟨by simp, rfl⟩
    case rest =>
    obtain ⟨rfl, rfl⟩ := hcut
    have hmag : Hid (refMag t.toList neg = if bad = true then none else magOf t.toList) := by
      rw [hbad.out]; show refMag _ _ = _; unfold refMag; simp only [decide_eq_true_eq]
    have hle : bad = false → t.size ≤ 10 := by
      intro h
      have := hbad.out
      rw [h, ba_len] at this
      have := (decide_eq_false_iff_not.1 this.symm)
      omega
    have HsE := Lib.hid (show sg = 1 ∨ sg = -1 by rw [hsg.out]; unfold sgn; split <;> simp)
    clear hbad hsg
    cases bad with
    | true =>
      obtain ⟨rfl, rfl⟩ := Hno.out (by rw [hmag.out]; rfl)
      clear hmag Hno Hyes hle
      go_wp2_with fail
      exact bodyPost_ret (v := .tuple #[gv0.v, .bool false]) (by simp [results, Tryz.results367, go_sem, gv0]) rfl ⟨rfl, belowA (Below.refl _ _) _⟩
    | false =>
    have hle := hle rfl
    have hmag : Hid (refMag t.toList neg = magOf t.toList) := hmag.out
    generalize refMag t.toList neg = rm at hmag Hno Hyes
    go_wp2_with fail
    go_loop [6, 7] (fun x i => ∃ k a : Nat, k ≤ t.size ∧ a < 10000000000 ∧ x = .int .i64 a ∧ i = .int .i64 k ∧ Hid (Lib.decFrom 0 (t.toList.take k) = some a)) (fun _ i => t.size - (intOf i).toNat)
    case atStart => exact ⟨0, 0, by omega, by omega, rfl, rfl, rfl⟩
    case round =>
      obtain ⟨k, a, hk, ha, rfl, rfl, hm⟩ := hrel
      by_cases hlt : k < t.size
      · have i0 : (0 : Int) ≤ (k : Int) := by omega
        have i1 : (k : Int) < (t.size : Int) := by omega
        have ha9 : a < 1000000000 := by
          have h1 := Lib.decFrom_lt _ _ _ hm.out
          rw [List.length_take, ba_len, Nat.min_eq_left (by omega)] at h1
          have h2 : 10 ^ k ≤ 10 ^ 9 := Nat.pow_le_pow_right (by omega) (by omega)
          have h3 : (10 : Nat) ^ 9 = 1000000000 := by decide
          omega
        clear ha
        by_cases h1 : 48 ≤ (t[k]'hlt).toNat
        · by_cases h2 : (t[k]'hlt).toNat ≤ 57
          · have hst := Lib.hid (Lib.decFrom_take t.toList k 0 a (t[k]'hlt) ((t[k]'hlt).toNat - 48) hm.out (ba_get hlt) (by unfold Lib.digitVal; rw [if_pos ⟨h1, h2⟩]))
            clear hm
            go_wp2_with fail
            refine ⟨⟨k + 1, 10 * a + ((t[k]'hlt).toNat - 48), by omega, by omega, ?_, by go_num, ?_⟩, by simp [intOf]; omega⟩
            · congr 1; omega
            · show _ = _
              rw [hst.out]; congr 1; omega
          · obtain ⟨rfl, rfl⟩ := Hno.out (by rw [hmag.out]; unfold magOf; rw [digit_none hlt (fun h => h2 h.2)])
            have i2 : (57 : Int) < ((t[k]'hlt).toNat : Int) := by omega
            clear hmag Hno Hyes hm hle
            go_wp2_with fail
            exact bodyPost_ret (v := .tuple #[gv0.v, .bool false]) (by simp [results, Tryz.results367, go_sem, gv0]) rfl ⟨rfl, belowA (Below.refl _ _) _⟩
        · obtain ⟨rfl, rfl⟩ := Hno.out (by rw [hmag.out]; unfold magOf; rw [digit_none hlt (fun h => h1 h.1)])
          have i2 : ((t[k]'hlt).toNat : Int) < 48 := by omega
          clear hmag Hno Hyes hm hle
          go_wp2_with fail
          exact bodyPost_ret (v := .tuple #[gv0.v, .bool false]) (by simp [results, Tryz.results367, go_sem, gv0]) rfl ⟨rfl, belowA (Below.refl _ _) _⟩
      · have i1 : ¬ (k : Int) < (t.size : Int) := by omega
        have hd : Lib.decFrom 0 t.toList = some a := by
          rw [← hm.out, List.take_of_length_le (by rw [ba_len]; omega)]
        have hmg : rm = if 2147483647 < a then none else some a := by rw [hmag.out]; unfold magOf; rw [hd]
        clear hm hmag hd
        by_cases h1 : 2147483647 < a
        · rw [if_pos h1] at hmg
          obtain ⟨rfl, rfl⟩ := Hno.out hmg
          have i2 : (2147483647 : Int) < (a : Int) := by omega
          clear Hno Hyes hmg hle
          go_wp2_with fail
          exact bodyPost_ret (v := .tuple #[gv0.v, .bool false]) (by simp [results, Tryz.results367, go_sem, gv0]) rfl ⟨rfl, belowA (Below.refl _ _) _⟩
        · rw [if_neg h1] at hmg
          obtain ⟨rfl, rfl⟩ := Hyes.out a hmg
          have i2 : ¬ (2147483647 : Int) < (a : Int) := by omega
          clear Hno Hyes hmg hle
          rcases HsE.out with rfl | rfl
          · go_wp2_with fail
            exact bodyPost_ret (v := .tuple #[(⟨1, (a : Int), ⟨#[]⟩⟩ : GV).v, .bool true]) (by simp [results, Tryz.results367, go_sem]) rfl ⟨rfl, belowA (Below.refl _ _) _⟩
          · go_wp2_with fail
            exact bodyPost_ret (v := .tuple #[(⟨1, -(a : Int), ⟨#[]⟩⟩ : GV).v, .bool true]) (by simp [results, Tryz.results367, go_sem]) rfl ⟨rfl, belowA (Below.refl _ _) _⟩
def ErrIs (W : World) (g : Nat) : Prop := ∃ tp p, W.cell? ⟨g, 0, none⟩ = some (.iface tp p)
def ErrW (W : World) : Prop := ErrIs W 8 ∧ ErrIs W 9
theorem ErrW.on {W W' : World} (h : ErrW W) (hb : Below W.heap.size W W') : ErrW W' := by
  obtain ⟨⟨t1, p1, h1⟩, ⟨t2, p2, h2⟩⟩ := h
  exact ⟨⟨t1, p1, below_cell hb h1⟩, ⟨t2, p2, below_cell hb h2⟩⟩
def AtoiPost (s : ByteArray) (w : World) (e : Ending) (w' : World) : Prop :=
  ∃ n : Int, ∃ ev : Value, fits n ∧ e = .returned (.tuple #[.int .i64 n, ev]) ∧ Below w.heap.size w w' ∧
    ((Lib.atoiAll s.toList = .ok n ∧ ev = .nilIface) ∨ ((∀ m, Lib.atoiAll s.toList ≠ .ok m) ∧ ∃ T p, ev = .iface T p))
theorem fits_of {n : Int} (h1 : -9223372036854775808 ≤ n) (h2 : n ≤ 9223372036854775807) : fits n := (fits_iff n).2 ⟨h1, h2⟩
theorem atoi_any (s : ByteArray) (hs : s.size ≤ 140737488351232) (w : World) (h : ErrW w) : Calls Tryz.prog 337 #[.string s] w (AtoiPost s w) := by
  obtain ⟨⟨t1, p1, h1⟩, ⟨t2, p2, h2⟩⟩ := h
  have el : s.data.toList = s.toList := (ByteArray.toList_eq s).symm
  cases ha : Lib.atoiAll s.toList
  · rename_i v
    refine (Tryz.strconv_Atoi_ok s (by omega) v (by rw [el]; exact ha) w).mono ?_
    rintro e w' ⟨rfl, hw⟩
    have hb := Lib.atoiAll_bounds ha
    refine ⟨v, .nilIface, fits_of hb.1 hb.2, rfl, ?_, .inl ⟨ha, rfl⟩⟩
    rcases hw with rfl | ⟨t, rfl⟩
    · exact Below.refl _ _
    · exact Lib.bytesWorld_below _ _ _
  · refine (Any.strconv_Atoi_syntax Tryz.laysC172 s (by omega) (by rw [el]; exact ha) _ w h1 (.inr ⟨_, _, rfl⟩)).mono ?_
    rintro e w' ⟨N, rfl, -, -, hb⟩
    exact ⟨0, _, by unfold fits; decide, rfl, hb, .inr ⟨(fun m e => by rw [ha] at e; cases e), _, _, rfl⟩⟩
  · refine (Any.strconv_Atoi_range Tryz.laysC172 s (by omega) (by rw [el]; exact ha) _ w h2 (.inr ⟨_, _, rfl⟩)).mono ?_
    rintro e w' ⟨N, rfl, -, -, hb⟩
    exact ⟨_, _, by unfold Lib.atoiSat; split <;> (unfold fits; decide), rfl, hb, .inr ⟨(fun m e => by rw [ha] at e; cases e), _, _, rfl⟩⟩
end Go.Proofs.YtgabkmibfhmkmaaGreatDoor

namespace Go.Proofs.YtgabkmibfhmkmaaGreatDoor
open Go.ChangeShapes Go.WideShapes Go.ChangeAt Go.RowKit
set_option linter.unusedVariables false
theorem gER : Tryz.prog.globalNamed "strconv.ErrRange" = some 9 := by kernel_rfl
theorem gERT : (Tryz.prog.globals[9]?).map (·.type) = some 57 := by kernel_rfl
theorem gES : Tryz.prog.globalNamed "strconv.ErrSyntax" = some 8 := by kernel_rfl
theorem gEST : (Tryz.prog.globals[8]?).map (·.type) = some 57 := by kernel_rfl
theorem cellsES : Tryz.prog.cellsOf 459 = 1 := by kernel_rfl
theorem cellsStr : Tryz.prog.cellsOf 9 = 1 := by kernel_rfl
theorem starES : "*" ++ "errors.errorString" = "*errors.errorString" := by decide
theorem rowES (u : TypeId) (h : Tryz.prog.typeName? 3 u = some "*errors.errorString") : u = 457 :=
  typeName_ptr_named (nm := "errors.errorString") (by rw [starES]; kernel_rfl) (by kernel_rfl) (by decide) u (by rw [starES]; exact h)
abbrev synS : ByteArray := { data := #[105, 110, 118, 97, 108, 105, 100, 32, 115, 121, 110, 116, 97, 120] }
abbrev rngS : ByteArray := { data := #[118, 97, 108, 117, 101, 32, 111, 117, 116, 32, 111, 102, 32, 114, 97, 110, 103, 101] }
noncomputable def low : Nat := (World.holding Tryz.prog default ⟨#[], #[], []⟩).heap.size
end Go.Proofs.YtgabkmibfhmkmaaGreatDoor
