/- My own texts Name, VParseLaw, as far as this claim needs them. -/
import Derived.Test.YtgabkmibfhmkmaaGreatDoorZe2
import Derived.Lib.TrimU
import Derived.Lib.OthersKept
import Derived.Deep.LoopGhost
import Derived.Lib.AtoiTie
import Derived.Lib.ItoaNum
import Derived.Lib.ItoaMem
set_option linter.unusedVariables false
set_option linter.unusedSimpArgs false
namespace Go.Proofs.YtgabkmibfhmkmaaGreatDoor
open Go.RowKit
def RetSameB (b : Bool) (w : World) (e : Ending) (w' : World) : Prop := e = .returned (.bool b) ∧ w' = w
/-- a name's byte -/
def nameB (n : Nat) : Bool := (decide (97 ≤ n) && decide (n ≤ 122)) || (decide (48 ≤ n) && decide (n ≤ 57)) || decide (n = 95)
set_option maxRecDepth 100000 in
theorem strange_any (r : Nat) (w : World) : Calls Tryz.prog 311 #[.int .i32 r] w (RetBool (!nameB r) w) := by
  by_cases h1 : 97 ≤ r <;> by_cases h2 : r ≤ 122 <;> by_cases h3 : 48 ≤ r <;> by_cases h4 : r ≤ 57 <;> by_cases h5 : r = 95 <;> (try (exfalso; omega))
  all_goals
    have z1 : (97 : Int) ≤ (r : Int) ↔ 97 ≤ r := by omega
    have z2 : (r : Int) ≤ 122 ↔ r ≤ 122 := by omega
    have z3 : (48 : Int) ≤ (r : Int) ↔ 48 ≤ r := by omega
    have z4 : (r : Int) ≤ 57 ↔ r ≤ 57 := by omega
    have z5 : ((r : Int) == 95) = decide (r = 95) := by rw [Bool.eq_iff_iff]; simp; omega
    go_enter Tryz.func311, Tryz.ntmps311
    go_wp2
    go_ret
    exact ⟨by simp [nameB, h1, h2, h3, h4, h5], Below.refl _ _⟩
def lowB (n : Nat) : Bool := decide (97 ≤ n) && decide (n ≤ 122)
set_option maxRecDepth 100000 in
theorem letter_any (r : Nat) (w : World) : Calls Tryz.prog 312 #[.int .u8 r] w (RetBool (lowB r) w) := by
  by_cases h1 : 97 ≤ r <;> by_cases h2 : r ≤ 122 <;> (try (exfalso; omega))
  all_goals
    have z1 : (97 : Int) ≤ (r : Int) ↔ 97 ≤ r := by omega
    have z2 : (r : Int) ≤ 122 ↔ r ≤ 122 := by omega
    go_enter Tryz.func312, Tryz.ntmps312
    go_wp2
    go_ret
    exact ⟨by simp [lowB, h1, h2], Below.refl _ _⟩
def byteAt (s : ByteArray) (i : Nat) : Nat := (s.get! i).toNat
theorem byteAt_eq {s : ByteArray} {i : Nat} (h : i < s.size) : (s[i]'h).toNat = byteAt s i := by
  obtain ⟨d⟩ := s
  show (d[i]'h).toNat = (d[i]!).toNat
  rw [getElem!_pos d i h]
def allN (s : ByteArray) : Bool := decide (∀ i, i < s.size → nameB (byteAt s i) = true)
theorem allN_false {s : ByteArray} {i : Nat} (hi : i < s.size) (h : nameB (byteAt s i) = false) : allN s = false := by
  simp only [allN, decide_eq_false_iff_not]
  intro h'; rw [h' i hi] at h; cases h
/-- what is decoded at a place: the byte, or a rune that is no name's -/
theorem decode_name (s : ByteArray) (i : Nat) : (nameB (Utf8.decode s i).1 = nameB (byteAt s i)) ∧ (nameB (byteAt s i) = true → (Utf8.decode s i).2 = 1) := by
  have hb : ∀ n, 128 ≤ n → nameB n = false := by
    intro n hn
    simp only [nameB, Bool.or_eq_false_iff, Bool.and_eq_false_iff, decide_eq_false_iff_not]
    omega
  by_cases h : byteAt s i < 128
  · have : Utf8.decode s i = (byteAt s i, 1) := by
      unfold Utf8.decode
      simp only [Nat.add_zero]
      exact if_pos h
    rw [this]; exact ⟨rfl, fun _ => rfl⟩
  · have h1 : 128 ≤ (Utf8.decode s i).1 := by
      unfold Utf8.decode
      simp only [Nat.add_zero]
      rw [if_neg (show ¬ (s.get! i).toNat < 128 from h)]
      repeat' split
      all_goals first | (simp only [ge_iff_le, Bool.and_eq_true, decide_eq_true_eq] at *; omega) | (simp [Utf8.runeError])
    rw [hb _ h1, hb _ (by omega)]
    exact ⟨rfl, fun h => by cases h⟩
def IdxPost (s : ByteArray) (w : World) (e : Ending) (w' : World) : Prop := ∃ k : Int, e = .returned (.int .i64 k) ∧ decide (0 ≤ k) = !allN s ∧ Below w.heap.size w w'
set_option maxRecDepth 100000 in
set_option maxHeartbeats 400000 in
theorem indexFunc_any (s : ByteArray) (w : World) : Calls Tryz.prog 359 #[.string s, .func (.func 311) #[] #[], .bool true] w (IdxPost s w) := by
  go_enter Tryz.func359, Tryz.ntmps359
  go_wp2
  go_loopg [] s.size (fun gf wx => ∃ pos : Nat, wx.heap[w.heap.size]? = some (.stringIter s pos) ∧ Below w.heap.size w wx ∧ Hid (∀ i, i < pos → nameB (byteAt s i) = true) ∧ pos + gf = s.size)
  case atStart => exact ⟨0, World.iter_heap w s 0, (Below.refl _ w).alloc (Nat.le_refl _) _, fun i h => by omega, by omega⟩
  case round =>
    obtain ⟨pos, hit, hbw, hpre, hfu⟩ := hrel
    by_cases hps : pos < s.size
    · have hnx : ∀ ty, (Instr.next (.pointer (some ⟨w.heap.size, 0, none⟩)) true ty).run Tryz.prog wr = _ := fun ty => Lib.run_next_any_at wr w.heap.size s pos ty hit hps
      obtain ⟨hd1, hd2⟩ := decode_name s pos
      have hit2 := Lib.iterAt_heap wr w.heap.size s pos (pos + (Utf8.decode s pos).2) hit
      have hbw2 := Lib.below_iterAt hbw (k := w.heap.size) (Nat.le_refl _) s (pos + (Utf8.decode s pos).2)
      have cS := strange_any (Utf8.decode s pos).1 (wr.iterAt w.heap.size s (pos + (Utf8.decode s pos).2))
      rw [hd1] at cS
      generalize (Utf8.decode s pos).1 = R at *
      cases hn : nameB (byteAt s pos) with
      | true =>
        rw [hd2 hn] at *
        rw [hn] at cS
        have Hn := Lib.hid hn
        have cS := Lib.hid cS
        have hit2 := Lib.hid hit2
        have hbw2 := Lib.hid hbw2
        clear hn hd1 hd2 hit
        go_wp2_with fail
        refine cS.out.mono ?_
        rintro e w1 ⟨rfl, hb⟩
        go_wp2_with fail
        go_roundg (gk - 1)
        case measure => omega
        case rel => exact ⟨pos + 1, (hb.block _ ((Array.getElem?_eq_some_iff.1 hit2.out).1)).trans hit2.out, below_next hbw2.out hb, fun i hi => by
            by_cases h : i < pos
            · exact hpre.out i h
            · rw [show i = pos by omega]; exact Hn.out, by omega⟩
      | false =>
        rw [hn] at cS
        have Hn := Lib.hid (allN_false hps hn)
        have cS := Lib.hid cS
        have hbw2 := Lib.hid hbw2
        clear hn hd1 hd2 hit hit2
        go_wp2_with fail
        refine cS.out.mono ?_
        rintro e w1 ⟨rfl, hb⟩
        go_wp2_with fail
        go_ret
        exact ⟨_, rfl, by rw [Hn.out]; simp, below_next hbw2.out hb⟩
    · have hnx : ∀ ty, (Instr.next (.pointer (some ⟨w.heap.size, 0, none⟩)) true ty).run Tryz.prog wr = _ := fun ty => Lib.run_next_end_at wr w.heap.size s pos ty hit hps
      go_wp2_with fail
      go_ret
      exact ⟨_, rfl, by
        have : allN s = true := by
          simp only [allN, decide_eq_true_eq]
          exact fun i hi => hpre.out i (by omega)
        rw [this]; rfl, hbw⟩
def ContPost (s : ByteArray) (w : World) (e : Ending) (w' : World) : Prop := e = .returned (.bool (!allN s)) ∧ Below w.heap.size w w'
set_option maxRecDepth 100000 in
theorem containsFunc_any (s : ByteArray) (w : World) : Calls Tryz.prog 313 #[.string s, .func (.func 311) #[] #[]] w (ContPost s w) := by
  have hi : Calls Tryz.prog 340 #[.string s, .func (.func 311) #[] #[]] w (IdxPost s w) := by
    go_enter Tryz.func340, Tryz.ntmps340
    go_wp2_with fail
    refine (indexFunc_any s w).mono ?_
    rintro e w1 ⟨k, rfl, hk, hb⟩
    go_wp2_with fail
    go_ret
    exact ⟨k, rfl, hk, hb⟩
  go_enter Tryz.func313, Tryz.ntmps313
  go_wp2_with fail
  refine hi.mono ?_
  rintro e w1 ⟨k, rfl, hk, hb⟩
  have Hk := Lib.hid hk
  clear hk
  go_wp2_with fail
  go_ret
  exact ⟨by rw [← Hk.out]; rfl, hb⟩
/-- is a text a name -/
def nameOk (s : ByteArray) : Bool := decide (1 ≤ s.size) && decide (s.size ≤ 32) && lowB (byteAt s 0) && allN s
set_option maxRecDepth 100000 in
set_option maxHeartbeats 400000 in
theorem name_any (s : ByteArray) (w : World) : Calls Tryz.prog 256 #[.string s] w (RetBool (nameOk s) w) := by
  by_cases h0 : s.size = 0
  · have hl0 : s.toList = [] := by
      rw [ByteArray.toList_eq]
      exact List.eq_nil_of_length_eq_zero h0
    have he : s.toList.isEmpty = true := by rw [hl0]; rfl
    have HR : Hid (nameOk s = false) := by show nameOk s = false; simp [nameOk, h0]
    go_enter Tryz.func256, Tryz.ntmps256
    go_wp2_with fail
    go_ret
    exact ⟨by rw [HR.out]; rfl, Below.refl _ _⟩
  · have hl0 : s.toList ≠ [] := by
      rw [ByteArray.toList_eq]
      intro h
      exact h0 (congrArg List.length h)
    have he : s.toList.isEmpty = false := by simpa using hl0
    by_cases h32 : s.size ≤ 32
    · have z1 : (s.size : Int) ≤ 32 ↔ s.size ≤ 32 := by omega
      have hlt : 0 < s.size := by omega
      cases hlow : lowB (byteAt s 0) with
      | true =>
        have HR : Hid (nameOk s = allN s) := by show nameOk s = allN s; simp [nameOk, h32, hlow]; omega
        have cl := letter_any (byteAt s 0) w
        rw [hlow, ← byteAt_eq hlt] at cl
        have cl := Lib.hid cl
        clear hlow
        go_enter Tryz.func256, Tryz.ntmps256
        go_wp2_with fail
        refine cl.out.mono ?_
        rintro e w1 ⟨rfl, hb⟩
        go_wp2_with fail
        refine (containsFunc_any s w1).mono ?_
        rintro e w2 ⟨rfl, hb2⟩
        go_wp2_with fail
        go_ret
        exact ⟨by rw [HR.out, ← Bool.not_not (allN s)]; rfl, below_next hb hb2⟩
      | false =>
        have HR : Hid (nameOk s = false) := by show nameOk s = false; simp [nameOk, hlow]
        have cl := letter_any (byteAt s 0) w
        rw [hlow, ← byteAt_eq hlt] at cl
        have cl := Lib.hid cl
        clear hlow
        go_enter Tryz.func256, Tryz.ntmps256
        go_wp2_with fail
        refine cl.out.mono ?_
        rintro e w1 ⟨rfl, hb⟩
        go_wp2_with fail
        go_ret
        exact ⟨by rw [HR.out]; rfl, hb⟩
    · have z1 : ¬ (s.size : Int) ≤ 32 := by omega
      have HR : Hid (nameOk s = false) := by show nameOk s = false; simp [nameOk, h32]
      go_enter Tryz.func256, Tryz.ntmps256
      go_wp2_with fail
      go_ret
      exact ⟨by rw [HR.out]; rfl, Below.refl _ _⟩
/-- is a value right -/
def rightB (v : GV) : Bool := if v.k = 1 then decide (v.s.size = 0) && decide (-2147483647 ≤ v.n) && decide (v.n ≤ 2147483647) else if v.k = 2 then decide (v.n = 0) && nameOk v.s else false
set_option maxRecDepth 100000 in
theorem bounded_any (n : Int) (w : World) : Calls Tryz.prog 255 #[.int .i64 n] w (RetBool (decide (-2147483647 ≤ n) && decide (n ≤ 2147483647)) w) := by
  by_cases h1 : -2147483647 ≤ n <;> by_cases h2 : n ≤ 2147483647 <;> (try (exfalso; omega))
  all_goals
    go_enter Tryz.func255, Tryz.ntmps255
    go_wp2
    go_ret
    exact ⟨by simp [h1, h2], Below.refl _ _⟩
set_option maxRecDepth 100000 in
set_option maxHeartbeats 400000 in
theorem right_any (v : GV) (w : World) : Calls Tryz.prog 182 #[v.v] w (RetBool (rightB v) w) := by
  by_cases h1 : v.k = 1
  · have z1 : (v.k == 1) = true := by simp [h1]
    have hb := Lib.hid (bounded_any v.n)
    have Hk := Lib.hid h1
    clear h1
    have ze : v.s.toList.isEmpty = decide (v.s.size = 0) := by
      rw [ByteArray.toList_eq, Bool.eq_iff_iff]
      simp only [List.isEmpty_iff, decide_eq_true_eq]
      exact ⟨fun h => congrArg List.length h, fun h => List.eq_nil_of_length_eq_zero h⟩
    by_cases hs : v.s.size = 0
    · have HR : Hid (rightB v = (decide (-2147483647 ≤ v.n) && decide (v.n ≤ 2147483647))) := by
        show rightB v = _
        simp [rightB, Hk.out, hs]
      go_enter Tryz.func182, Tryz.ntmps182
      go_wp2_with fail
      refine (hb.out _).mono ?_
      rintro e w1 ⟨rfl, hb⟩
      go_wp2_with fail
      go_ret
      exact ⟨by rw [HR.out]; rfl, below_next (belowA (Below.refl _ _) _) hb⟩
    · have HR : Hid (rightB v = false) := by show rightB v = false; simp [rightB, Hk.out, hs]
      go_enter Tryz.func182, Tryz.ntmps182
      go_wp2_with fail
      go_ret
      exact ⟨by rw [HR.out]; rfl, belowA (Below.refl _ _) _⟩
  · have z1 : (v.k == 1) = false := by simp [h1]
    have Hk := Lib.hid h1
    clear h1
    by_cases h2 : v.k = 2
    · have z2 : (v.k == 2) = true := by simp [h2]
      have Hk2 := Lib.hid h2
      clear h2
      by_cases h3 : v.n = 0
      · have z3 : (v.n == 0) = true := by simp [h3]
        have HR : Hid (rightB v = nameOk v.s) := by show rightB v = _; simp [rightB, Hk2.out, h3]
        clear h3
        go_enter Tryz.func182, Tryz.ntmps182
        go_wp2_with fail
        refine (name_any v.s _).mono ?_
        rintro e w1 ⟨rfl, hb⟩
        go_wp2_with fail
        go_ret
        exact ⟨by rw [HR.out]; rfl, below_next (belowA (Below.refl _ _) _) hb⟩
      · have z3 : (v.n == 0) = false := by simp [h3]
        have HR : Hid (rightB v = false) := by show rightB v = _; simp [rightB, Hk2.out, h3]
        clear h3
        go_enter Tryz.func182, Tryz.ntmps182
        go_wp2_with fail
        go_ret
        exact ⟨by rw [HR.out]; rfl, belowA (Below.refl _ _) _⟩
    · have z2 : (v.k == 2) = false := by simp [h2]
      have HR : Hid (rightB v = false) := by show rightB v = false; simp [rightB, Hk.out, h2]
      clear h2
      go_enter Tryz.func182, Tryz.ntmps182
      go_wp2_with fail
      go_ret
      exact ⟨by rw [HR.out]; rfl, belowA (Below.refl _ _) _⟩
theorem nameOk_all {s : ByteArray} {i : Nat} (hi : i < s.size) (h : nameB (byteAt s i) = false) : nameOk s = false := by simp [nameOk, allN_false hi h]
/-- what the document asks of one byte -/
def refB (i b : Nat) : Bool := lowB b || (!decide (i = 0) && nameB b)
theorem refB_false {s : ByteArray} {i : Nat} (hi : i < s.size) (h : refB i (byteAt s i) = false) : nameOk s = false := by
  simp only [refB, Bool.or_eq_false_iff, Bool.and_eq_false_iff, Bool.not_eq_false', decide_eq_true_eq] at h
  rcases h.2 with h0 | h0
  · rw [h0] at h; simp [nameOk, h.1]
  · exact nameOk_all hi h0
theorem lowB_name {b : Nat} (h : lowB b = true) : nameB b = true := by
  simp only [lowB] at h; simp [nameB, h]
theorem refB_true {s : ByteArray} (h : ∀ j, j < s.size → refB j (byteAt s j) = true) : nameOk s = (decide (1 ≤ s.size) && decide (s.size ≤ 32)) := by
  have ha : allN s = true := by
    simp only [allN, decide_eq_true_eq]
    intro j hj
    have := h j hj
    simp only [refB, Bool.or_eq_true, Bool.and_eq_true] at this
    rcases this with h1 | h1
    · exact lowB_name h1
    · exact h1.2
  by_cases h0 : 1 ≤ s.size
  · have := h 0 (by omega)
    simp [refB] at this
    simp [nameOk, ha, this]
  · simp [nameOk, h0]
theorem refB_int (k b : Nat) : refB k b = ((decide (97 ≤ (b : Int)) && decide ((b : Int) ≤ 122)) || (!decide (k = 0) && ((decide (48 ≤ (b : Int)) && decide ((b : Int) ≤ 57)) || decide ((b : Int) = 95)))) := by
  rw [Bool.eq_iff_iff]; simp [refB, lowB, nameB]; omega
set_option linter.unusedSimpArgs false in
set_option maxRecDepth 100000 in
set_option maxHeartbeats 2000000 in
theorem refNameQ_any (s : ByteArray) (hsz : s.size ≤ 140737488351232) (w : World) : Calls Tryz.prog 257 #[.string s] w (RetSameB (nameOk s) w) := by
  go_enter Tryz.func257, Tryz.ntmps257
  go_wp2
  go_loop [3, 4, 5] (fun i _ _ => ∃ k : Nat, k ≤ s.size ∧ i = .int .i64 k ∧ Hid (∀ j, j < k → refB j (byteAt s j) = true)) (fun i _ _ => s.size - (intOf i).toNat)
  case atStart => exact ⟨0, by omega, rfl, fun j h => by omega⟩
  case round =>
    obtain ⟨k, hk, rfl, hpre⟩ := hrel
    by_cases hlt : k < s.size
    · have i0 : (0 : Int) ≤ (k : Int) := by omega
      have i1 : (k : Int) < (s.size : Int) := by omega
      have Hb := Lib.hid (byteAt_eq hlt).symm
      have HN : Hid (refB k (s[k]'hlt).toNat = true → ∀ j, j < k + 1 → refB j (byteAt s j) = true) := by
        intro h j hj
        by_cases hjk : j < k
        · exact hpre.out j hjk
        · have e : j = k := by omega
          subst e
          rw [Hb.out]; exact h
      have HF : Hid (refB k (s[k]'hlt).toNat = false → nameOk s = false) := by
        intro h; exact refB_false hlt (by rw [Hb.out]; exact h)
      have HE := Lib.hid (refB_int k (s[k]'hlt).toNat)
      clear hpre
      have z0 : ((k : Int) == 0) = decide (k = 0) := by rw [Bool.eq_iff_iff]; simp
      by_cases h1 : (97 : Int) ≤ ((s[k]'hlt).toNat : Int) <;> by_cases h2 : ((s[k]'hlt).toNat : Int) ≤ 122 <;> by_cases h3 : (48 : Int) ≤ ((s[k]'hlt).toNat : Int) <;> by_cases h4 : ((s[k]'hlt).toNat : Int) ≤ 57 <;> by_cases h5 : ((s[k]'hlt).toNat : Int) = 95 <;> cases hk0 : decide (k = 0) <;> (try (exfalso; omega))
      all_goals
        have z5 : (((s[k]'hlt).toNat : Int) != 95) = !decide (((s[k]'hlt).toNat : Int) = 95) := by rw [Bool.eq_iff_iff]; simp
        have h0 := HE.out
        rw [hk0] at z0 h0
        clear HE hk0
        simp only [h1, h2, h3, h4, h5, decide_true, decide_false, Bool.and_true, Bool.true_and, Bool.and_false, Bool.false_and, Bool.or_true, Bool.true_or, Bool.or_false, Bool.false_or, Bool.not_true, Bool.not_false] at z5 h0
        have HR := Lib.hid h0
        clear h0
        go_wp2_with fail
      all_goals first
        | (go_ret; exact ⟨by rw [HF.out HR.out]; rfl, rfl⟩)
        | exact ⟨⟨k + 1, by omega, by go_num, HN.out HR.out⟩, by simp [intOf]; omega⟩
    · have HR : Hid (nameOk s = (decide (1 ≤ s.size) && decide (s.size ≤ 32))) := refB_true (fun j hj => hpre.out j (by omega))
      have i1 : ¬ (k : Int) < (s.size : Int) := by omega
      by_cases h1 : (1 : Int) ≤ (s.size : Int) <;> by_cases h2 : (s.size : Int) ≤ 32 <;> (try (exfalso; omega))
      all_goals
        go_wp2_with fail
        go_ret
        exact ⟨by rw [HR.out]; simp; omega, rfl⟩
theorem refName_any (s : ByteArray) (hsz : s.size ≤ 140737488351232) (w : World) : Calls Tryz.prog 257 #[.string s] w (RetBool (nameOk s) w) :=
  (refNameQ_any s hsz w).mono fun _ _ ⟨he, hw⟩ => ⟨he, by rw [hw]; exact Below.refl _ _⟩
set_option linter.unusedSimpArgs false in
set_option maxRecDepth 100000 in
set_option maxHeartbeats 1000000 in
theorem refRight_any (v : GV) (hv : v.ok) (w : World) : Calls Tryz.prog 184 #[v.v] w (RetBool (rightB v) w) := by
  have hsz : v.s.size ≤ 140737488351232 := hv.2.2
  by_cases h1 : v.k = 1
  · have z1 : (v.k == 1) = true := by simp [h1]
    have Hk := Lib.hid h1
    clear h1
    have HE : Hid (rightB v = (((v.s.size : Int) == 0) && decide (-2147483647 ≤ v.n) && decide (v.n ≤ 2147483647))) := by
      show rightB v = _
      rw [Bool.eq_iff_iff]; simp [rightB, Hk.out]
    cases zs : ((v.s.size : Int) == 0) <;> by_cases h3 : -2147483647 ≤ v.n <;> by_cases h4 : v.n ≤ 2147483647 <;> (try (exfalso; omega))
    all_goals
      have h0 := HE.out
      clear HE
      simp only [zs, h3, h4, decide_true, decide_false, Bool.and_true, Bool.and_false, Bool.false_and] at h0
      have HR := Lib.hid h0
      clear h0
      go_enter Tryz.func184, Tryz.ntmps184
      go_wp2_with fail
      go_ret
      exact ⟨by rw [HR.out]; rfl, belowA (Below.refl _ _) _⟩
  · have z1 : (v.k == 1) = false := by simp [h1]
    have Hk := Lib.hid h1
    clear h1
    by_cases h2 : v.k = 2
    · have z2 : (v.k == 2) = true := by simp [h2]
      have Hk2 := Lib.hid h2
      clear h2
      by_cases h3 : v.n = 0
      · have z3 : (v.n == 0) = true := by simp [h3]
        have HR : Hid (rightB v = nameOk v.s) := by show rightB v = _; simp [rightB, Hk2.out, h3]
        clear h3
        go_enter Tryz.func184, Tryz.ntmps184
        go_wp2_with fail
        refine (refName_any v.s hsz _).mono ?_
        rintro e w1 ⟨rfl, hb⟩
        go_wp2_with fail
        go_ret
        exact ⟨by rw [HR.out]; rfl, below_next (belowA (Below.refl _ _) _) hb⟩
      · have z3 : (v.n == 0) = false := by simp [h3]
        have HR : Hid (rightB v = false) := by show rightB v = _; simp [rightB, Hk2.out, h3]
        clear h3
        go_enter Tryz.func184, Tryz.ntmps184
        go_wp2_with fail
        go_ret
        exact ⟨by rw [HR.out]; rfl, belowA (Below.refl _ _) _⟩
    · have z2 : (v.k == 2) = false := by simp [h2]
      have HR : Hid (rightB v = false) := by show rightB v = false; simp [rightB, Hk.out, h2]
      clear h2
      go_enter Tryz.func184, Tryz.ntmps184
      go_wp2_with fail
      go_ret
      exact ⟨by rw [HR.out]; rfl, belowA (Below.refl _ _) _⟩
end Go.Proofs.YtgabkmibfhmkmaaGreatDoor

namespace Go.Proofs.YtgabkmibfhmkmaaGreatDoor
open Go.Lib
theorem decFrom_append : ∀ (l m : List UInt8) (a : Nat), decFrom a (l ++ m) = (decFrom a l).bind (fun n => decFrom n m)
  | [], m, a => by simp [decFrom]
  | b :: l, m, a => by
    simp only [List.cons_append, decFrom]
    cases digitVal b with
    | none => rfl
    | some d => exact decFrom_append l m _
theorem digit_u8 {d : Nat} (h : d < 10) : digitVal (UInt8.ofNat (48 + d)) = some d := by
  have : (UInt8.ofNat (48 + d)).toNat = 48 + d := by simp; omega
  unfold digitVal
  rw [if_pos (by omega)]
  congr 1; omega
theorem dec_digits : ∀ n : Nat, decFrom 0 (decDigits n) = some n := by
  intro n
  induction n using Nat.strongRecOn with
  | _ n ih =>
    rw [decDigits]
    split
    · rename_i h
      simp only [decFrom, digit_u8 h]; simp
    · rename_i h
      rw [decFrom_append, ih (n / 10) (by omega)]
      simp only [Option.bind_some, decFrom, digit_u8 (Nat.mod_lt n (by omega))]
      congr 1; omega
theorem digits_ne (n : Nat) : decDigits n ≠ [] := by
  rw [decDigits]; split <;> simp
theorem digits_first : ∀ n : Nat, 1 ≤ n → ∃ c r, decDigits n = c :: r ∧ 49 ≤ c.toNat ∧ c.toNat ≤ 57 := by
  intro n
  induction n using Nat.strongRecOn with
  | _ n ih =>
    intro h1
    rw [decDigits]
    split
    · rename_i h
      have : (UInt8.ofNat (48 + n)).toNat = 48 + n := by simp; omega
      exact ⟨_, [], rfl, by omega, by omega⟩
    · rename_i h
      obtain ⟨c, r, e, h2, h3⟩ := ih (n / 10) (by omega) (by omega)
      exact ⟨c, _, by rw [e]; rfl, h2, h3⟩
theorem digits_zero : decDigits 0 = [48] := by rw [decDigits]; rfl
theorem digits_len : ∀ (k n : Nat), n < 10 ^ (k + 1) → (decDigits n).length ≤ k + 1 := by
  intro k
  induction k with
  | zero => intro n h; rw [decDigits, dif_pos (by simpa using h)]; simp
  | succ k ih =>
    intro n h
    rw [decDigits]
    split
    · simp
    · have := ih (n / 10) (by rw [Nat.pow_succ] at h; omega)
      simp; omega
theorem digitVal_some {c : UInt8} {d : Nat} (h : digitVal c = some d) : d < 10 ∧ c = UInt8.ofNat (48 + d) := by
  unfold digitVal at h
  split at h
  · rename_i hc
    injection h with h
    refine ⟨by omega, ?_⟩
    apply UInt8.toNat_inj.1
    have : (UInt8.ofNat (48 + d)).toNat = 48 + d := by simp; omega
    rw [this]; omega
  · cases h
/-- digits without a nought ahead are the numeral of their number -/
theorem digits_back : ∀ (k : Nat) (t : List UInt8) (n : Nat), t.length = k → t ≠ [] → (∀ c r, t = c :: r → c = 48 → r = []) → decFrom 0 t = some n → decDigits n = t := by
  intro k
  induction k with
  | zero => intro t n hl hn; exact absurd (List.eq_nil_of_length_eq_zero hl) hn
  | succ k ih =>
    intro t n hl hn h0 hd
    obtain ⟨t', c, rfl⟩ : ∃ t' c, t = t' ++ [c] := by
      rcases List.eq_nil_or_concat t with h | ⟨l, b, h⟩
      · exact absurd h hn
      · exact ⟨l, b, by simpa using h⟩
    rw [decFrom_append] at hd
    cases hn' : decFrom 0 t' with
    | none => rw [hn'] at hd; cases hd
    | some m =>
      rw [hn'] at hd
      simp only [Option.bind_some, decFrom] at hd
      cases hc : digitVal c with
      | none => rw [hc] at hd; cases hd
      | some d =>
        rw [hc] at hd
        injection hd with hd
        obtain ⟨hd10, rfl⟩ := digitVal_some hc
        cases ht : t' with
        | nil =>
          subst ht
          simp only [decFrom] at hn'
          injection hn' with hn'
          subst hn'
          rw [decDigits, dif_pos (by omega)]
          rw [← hd]; simp
        | cons a r =>
          have h0' : ∀ c r, t' = c :: r → c = 48 → r = [] := by
            intro c' r' e e48
            have := h0 c' (r' ++ [UInt8.ofNat (48 + d)]) (by rw [e]; rfl) e48
            simp at this
          have hm := ih t' m (by simpa using hl) (by rw [ht]; simp) h0' hn'
          have hm1 : 1 ≤ m := by
            rcases Nat.eq_zero_or_pos m with h | h
            · subst h
              rw [digits_zero] at hm
              have := h0 48 [UInt8.ofNat (48 + d)] (by rw [← hm]; rfl) rfl
              simp at this
            · exact h
          rw [← ht, ← hm]
          rw [decDigits, dif_neg (by omega)]
          rw [show n / 10 = m by omega, show n % 10 = d by omega]
def magOf (t : List UInt8) : Option Nat := match decFrom 0 t with
    | some n => if 2147483647 < n then none else some n
    | none => none
/-- the document's reading of digits behind the sign -/
def refMag (t : List UInt8) (neg : Bool) : Option Nat :=
  if t.length = 0 ∨ 10 < t.length ∨ (t.head? = some 48 ∧ (1 < t.length ∨ neg = true)) then none
  else magOf t
def refNum (l : List UInt8) : Option Int :=
  if l.head? = some 45 then (refMag l.tail true).map fun (n : Nat) => -(n : Int) else (refMag l false).map fun (n : Nat) => (n : Int)
def bnd31 (n : Int) : Bool := decide (-2147483647 ≤ n) && decide (n ≤ 2147483647)
/-- the program's reading -/
def ownNum (l : List UInt8) : Option Int :=
  match atoiAll l with
  | .ok n => if itoa n = l ∧ bnd31 n = true then some n else none
  | _ => none
theorem refMag_some {t : List UInt8} {neg : Bool} {n : Nat} (h : refMag t neg = some n) : decDigits n = t ∧ n ≤ 2147483647 ∧ (neg = true → 1 ≤ n) := by
  unfold refMag at h
  split at h
  · cases h
  · rename_i hc
    simp only [not_or] at hc
    obtain ⟨h1, h2, h3⟩ := hc
    unfold magOf at h
    cases hd : decFrom 0 t with
    | none => rw [hd] at h; cases h
    | some m =>
      rw [hd] at h
      simp only at h
      split at h
      · cases h
      · injection h with h
        subst h
        have hb := digits_back t.length t m rfl (by intro e; subst e; simp at h1) (by
          intro c r e e48
          subst e; subst e48
          by_cases hr : r = []
          · exact hr
          · exact absurd ⟨rfl, .inl (by cases r with | nil => exact absurd rfl hr | cons => simp)⟩ h3) hd
        refine ⟨hb, by omega, fun hn => ?_⟩
        rcases Nat.eq_zero_or_pos m with h | h
        · subst h
          rw [digits_zero] at hb
          exact absurd ⟨by rw [← hb]; rfl, .inr hn⟩ h3
        · exact h
theorem refMag_digits {n : Nat} {neg : Bool} (h : n ≤ 2147483647) (h1 : neg = true → 1 ≤ n) : refMag (decDigits n) neg = some n := by
  unfold refMag
  have hl := digits_len 9 n (by omega)
  have hn : (decDigits n).length ≠ 0 := fun e => digits_ne n (List.eq_nil_of_length_eq_zero e)
  rw [if_neg]
  · unfold magOf
    rw [dec_digits]
    simp only
    rw [if_neg (by omega)]
  · simp only [not_or, not_and]
    refine ⟨hn, by omega, fun h48 => ?_⟩
    rcases Nat.eq_zero_or_pos n with e | e
    · subst e
      rw [digits_zero]
      simp
      cases neg
      · rfl
      · exact absurd (h1 rfl) (by omega)
    · obtain ⟨c, r, e', h2, h3⟩ := digits_first n e
      rw [e'] at h48
      simp at h48
      subst h48
      simp at h2
theorem itoa_pos (n : Nat) : itoa (n : Int) = decDigits n := itoa_nonneg n
theorem atoi_digits (n : Nat) (h : n ≤ 2147483647) : atoiAll (decDigits n) = .ok (n : Int) := by
  rw [atoiAll_short _ (by have := digits_len 9 n (by omega); omega)]
  have hd := dec_digits n
  have hne := digits_ne n
  have hne' : (decDigits n).isEmpty = false := by
    cases h : decDigits n with
    | nil => exact absurd h hne
    | cons => rfl
  have hN : decNat (decDigits n) = some n := by unfold decNat; rw [hne']; exact hd
  have hA : atoi (decDigits n) = some (n : Int) := by
    have hc : ∃ c r, decDigits n = c :: r ∧ 48 ≤ c.toNat := by
      rcases Nat.eq_zero_or_pos n with e | e
      · subst e; exact ⟨48, [], digits_zero, by decide⟩
      · obtain ⟨c, r, e', h2, h3⟩ := digits_first n e
        exact ⟨c, r, e', by omega⟩
    obtain ⟨c, r, e, hc⟩ := hc
    rw [e] at hN ⊢
    unfold atoi
    have e1 : (c == 45) = false := by
      rw [Bool.eq_false_iff]; intro h; rw [beq_iff_eq] at h; subst h; simp at hc
    have e2 : (c == 43) = false := by
      rw [Bool.eq_false_iff]; intro h; rw [beq_iff_eq] at h; subst h; simp at hc
    simp only [e1, e2, Bool.false_eq_true, if_false, hN, Option.map_some]
  rw [hA]; rfl
theorem atoi_neg (n : Nat) (h : n ≤ 2147483647) : atoiAll (45 :: decDigits n) = .ok (-(n : Int)) := by
  rw [atoiAll_short _ (by have := digits_len 9 n (by omega); simp; omega)]
  have hd := dec_digits n
  have hne := digits_ne n
  have hne' : (decDigits n).isEmpty = false := by
    cases h : decDigits n with
    | nil => exact absurd h hne
    | cons => rfl
  have hN : decNat (decDigits n) = some n := by unfold decNat; rw [hne']; exact hd
  unfold atoi
  simp [hN, NumEnd.ofOption]
theorem refNum_itoa {n : Int} (h1 : -2147483647 ≤ n) (h2 : n ≤ 2147483647) : refNum (itoa n) = some n ∧ atoiAll (itoa n) = .ok n := by
  by_cases hn : n < 0
  · obtain ⟨m, rfl⟩ : ∃ m : Nat, n = -(m : Int) := ⟨n.natAbs, by omega⟩
    rw [itoa_neg m (by omega)]
    refine ⟨?_, atoi_neg m (by omega)⟩
    unfold refNum
    simp only [List.head?_cons, if_true, List.tail_cons, refMag_digits (n := m) (neg := true) (by omega) (fun _ => by omega), Option.map_some]
  · obtain ⟨m, rfl⟩ : ∃ m : Nat, n = (m : Int) := ⟨n.toNat, by omega⟩
    rw [itoa_pos]
    refine ⟨?_, atoi_digits m (by omega)⟩
    unfold refNum
    have hh : (decDigits m).head? ≠ some 45 := by
      rcases Nat.eq_zero_or_pos m with e | e
      · subst e; rw [digits_zero]; decide
      · obtain ⟨c, r, e', h3, h4⟩ := digits_first m e
        rw [e']; simp; intro e; subst e; simp at h3
    rw [if_neg hh, refMag_digits (n := m) (neg := false) (by omega) (fun h => by cases h)]
    rfl
theorem refNum_some {l : List UInt8} {n : Int} (h : refNum l = some n) : l = itoa n ∧ -2147483647 ≤ n ∧ n ≤ 2147483647 := by
  unfold refNum at h
  split at h
  · rename_i h45
    obtain ⟨m, hm, rfl⟩ := Option.map_eq_some_iff.1 h
    obtain ⟨e, hle, h1⟩ := refMag_some hm
    have h1 := h1 rfl
    rw [itoa_neg m h1, e]
    refine ⟨?_, by omega, by omega⟩
    cases l with
    | nil => cases h45
    | cons c r => simp at h45; subst h45; rfl
  · obtain ⟨m, hm, rfl⟩ := Option.map_eq_some_iff.1 h
    obtain ⟨e, hle, h1⟩ := refMag_some hm
    rw [itoa_pos, e]
    exact ⟨rfl, by omega, by omega⟩
theorem own_eq_ref (l : List UInt8) : ownNum l = refNum l := by
  cases hr : refNum l with
  | some n =>
    obtain ⟨e, h1, h2⟩ := refNum_some hr
    have ha := (refNum_itoa h1 h2).2
    rw [← e] at ha
    unfold ownNum
    rw [ha]
    simp only
    rw [if_pos ⟨e.symm, by simp [bnd31, h1, h2]⟩]
  | none =>
    unfold ownNum
    cases ha : atoiAll l
    · rename_i n
      simp only
      rw [if_neg]
      rintro ⟨e, hb⟩
      simp [bnd31] at hb
      have := (refNum_itoa hb.1 hb.2).1
      rw [e, hr] at this
      cases this
    · rfl
    · rfl
end Go.Proofs.YtgabkmibfhmkmaaGreatDoor
