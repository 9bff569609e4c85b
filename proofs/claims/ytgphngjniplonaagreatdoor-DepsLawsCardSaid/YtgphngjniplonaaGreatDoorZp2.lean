/- My own texts Tab, VFrame, StDigits, Keep0, Name, VParseLaw, VParse, VFrameE, as far as this claim needs them. -/
import Derived.Test.YtgphngjniplonaaGreatDoorZp1
import Derived.Lib.AppendIntMem
import Derived.Lib.ItoaLen
import Derived.Test.YtgphngjniplonaaGreatDoorRows
import Derived.OpenShut
import Derived.ChangeOld
import Derived.ChangeSame
import Derived.ChangeVars
import Derived.JoinedOf
import Derived.LaidLaws
import Derived.LaidHandle
import Derived.Stop.LaidErr
import Derived.Lib.LaidTab
import Derived.Below
import Derived.Lib.TrimU
import Derived.Lib.OthersKept
import Derived.Deep.LoopGhost
import Derived.Lib.AtoiTie
import Derived.Lib.ItoaNum
import Derived.Lib.ItoaMem
import Derived.Laws.BitsAllLaws
import Derived.Laws.IdiomStrings
import Derived.Deep.DeepCutAuto
set_option linter.unusedVariables false
set_option linter.unusedSimpArgs false
set_option maxRecDepth 1000000
set_option maxHeartbeats 16000000
namespace Go.Proofs.YtgphngjniplonaaGreatDoor
open Go.RowKit
def RetV (v : Value) (w : World) (e : Ending) (w' : World) : Prop := e = .returned v ∧ Below w.heap.size w w'
def TabW (w : World) : Prop := ∀ W, Below w.heap.size w W → Lib.TabIs Tryz.prog W "internal/strconv.uint64pow10" .u64 Lib.pow10Tab
theorem TabW.of {w : World} (h : Lib.TabIs Tryz.prog w "internal/strconv.uint64pow10" .u64 Lib.pow10Tab) : TabW w := Lib.tabBelow_of_tabIs h
theorem TabW.on {w W : World} (h : TabW w) (hb : Below w.heap.size w W) : TabW W := fun _ hb' => h _ (hb.trans (hb'.mono hb.size))
theorem itoa_any (n : Int) (hn : fits n) (w : World) (h : TabW w) : Calls Tryz.prog 189 #[.int .i64 n] w (fun e w' => ∃ s : ByteArray, Hid (s = ⟨(Lib.itoa n).toArray⟩) ∧ s.size ≤ 21 ∧ e = .returned (.string s) ∧ Below w.heap.size w w') := by
  have hn' : -9223372036854775808 ≤ n ∧ n ≤ 9223372036854775807 := by
    unfold fits at hn; simp [Lit.wf, IntKind.min, IntKind.max, IntKind.signed, IntKind.bits] at hn; omega
  refine (Tryz.strconv_Itoa n hn'.1 hn'.2 w (h w (Below.refl _ _))).mono ?_
  rintro e w' ⟨rfl, k, os, rfl⟩
  exact ⟨_, rfl, by have := Lib.itoa_length_le n hn'.1 hn'.2; simpa [ByteArray.size] using this, rfl, Lib.below_grow _ _ (Nat.le_refl _) _ _⟩
end Go.Proofs.YtgphngjniplonaaGreatDoor

namespace Go.Proofs.YtgphngjniplonaaGreatDoor
open Go.ChangeShapes Go.WideShapes Go.ChangeAt Go.RowKit
set_option linter.unusedVariables false
theorem own : ownKnob Tryz.prog.godebug = none := by kernel_rfl
theorem laidOut : laidOutB Tryz.prog = true := by kernel_rfl
theorem u_bool : Tryz.prog.underlying 4 = some .bool := by kernel_rfl
theorem gP : Tryz.prog.globalNamed "internal/strconv.uint64pow10" = some 7 := by kernel_rfl
theorem gPT : (Tryz.prog.globals[7]?).map (·.type) = some 296 := by kernel_rfl
theorem pow_eq : (Rows.laid_internal_strconv_uint64pow10 : DataW Unit) = Lib.tabData .u64 Lib.pow10Tab := by kernel_rfl
end Go.Proofs.YtgphngjniplonaaGreatDoor

namespace Go.Proofs.YtgphngjniplonaaGreatDoor
open Go.RowKit
theorem fits_iff (n : Int) : fits n ↔ -9223372036854775808 ≤ n ∧ n ≤ 9223372036854775807 := by
  unfold fits; simp [Lit.wf, IntKind.min, IntKind.max, IntKind.signed, IntKind.bits]
end Go.Proofs.YtgphngjniplonaaGreatDoor

namespace Go.Proofs.YtgphngjniplonaaGreatDoor
open Go.RowKit
theorem SliceIs.keep {α : Type} {E : Enc α} {w w' : World} {A : Option Addr} {n c : Nat} {l : List α} (h : SliceIs E w w.heap.size A n c l) (hb : Below w.heap.size w w') : SliceIs E w' w'.heap.size A n c l :=
  (h.below hb).mono hb.size (fun _ _ => rfl)
theorem below_next {w W W' : World} (h : Below w.heap.size w W) (h' : Below W.heap.size W W') : Below w.heap.size w W' := h.trans (h'.mono h.size)
end Go.Proofs.YtgphngjniplonaaGreatDoor

namespace Go.Proofs.YtgphngjniplonaaGreatDoor
open Go.RowKit
def RetSameB (b : Bool) (w : World) (e : Ending) (w' : World) : Prop := e = .returned (.bool b) ∧ w' = w
def nameB (n : Nat) : Bool := (decide (97 ≤ n) && decide (n ≤ 122)) || (decide (48 ≤ n) && decide (n ≤ 57)) || decide (n = 95)
theorem strange_any (r : Nat) (w : World) : Calls Tryz.prog 194 #[.int .i32 r] w (RetBool (!nameB r) w) := by
  by_cases h1 : 97 ≤ r <;> by_cases h2 : r ≤ 122 <;> by_cases h3 : 48 ≤ r <;> by_cases h4 : r ≤ 57 <;> by_cases h5 : r = 95 <;> (try (exfalso; omega))
  all_goals
    have z1 : (97 : Int) ≤ (r : Int) ↔ 97 ≤ r := by omega
    have z2 : (r : Int) ≤ 122 ↔ r ≤ 122 := by omega
    have z3 : (48 : Int) ≤ (r : Int) ↔ 48 ≤ r := by omega
    have z4 : (r : Int) ≤ 57 ↔ r ≤ 57 := by omega
    have z5 : ((r : Int) == 95) = decide (r = 95) := by rw [Bool.eq_iff_iff]; simp; omega
    go_enter Tryz.func194, Tryz.ntmps194
    go_wp2
    go_ret
    exact ⟨by simp [nameB, h1, h2, h3, h4, h5], Below.refl _ _⟩
def lowB (n : Nat) : Bool := decide (97 ≤ n) && decide (n ≤ 122)
theorem letter_any (r : Nat) (w : World) : Calls Tryz.prog 195 #[.int .u8 r] w (RetBool (lowB r) w) := by
  by_cases h1 : 97 ≤ r <;> by_cases h2 : r ≤ 122 <;> (try (exfalso; omega))
  all_goals
    have z1 : (97 : Int) ≤ (r : Int) ↔ 97 ≤ r := by omega
    have z2 : (r : Int) ≤ 122 ↔ r ≤ 122 := by omega
    go_enter Tryz.func195, Tryz.ntmps195
    go_wp2
    go_ret
    exact ⟨by simp [lowB, h1, h2], Below.refl _ _⟩
def byteAt (s : ByteArray) (i : Nat) : Nat := (s.get! i).toNat
theorem byteAt_eq {s : ByteArray} {i : Nat} (h : i < s.size) : (s[i]'h).toNat = byteAt s i := by
  obtain ⟨d⟩ := s
  show (d[i]'h).toNat = (d[i]!).toNat
  rw [getElem!_pos d i h]
def allN (s : ByteArray) : Bool := decide (∀ i, i < s.size → nameB (byteAt s i) = true)
theorem allN_false {s : ByteArray} {i : Nat} (hi : i < s.size) (h : nameB (byteAt s i) = false) : allN s = false := by
  simp only [allN, decide_eq_false_iff_not]
  intro h'; rw [h' i hi] at h; cases h
theorem decode_name (s : ByteArray) (i : Nat) : (nameB (Utf8.decode s i).1 = nameB (byteAt s i)) ∧ (nameB (byteAt s i) = true → (Utf8.decode s i).2 = 1) := by
  have hb : ∀ n, 128 ≤ n → nameB n = false := by
    intro n hn
    simp only [nameB, Bool.or_eq_false_iff, Bool.and_eq_false_iff, decide_eq_false_iff_not]
    omega
  by_cases h : byteAt s i < 128
  · have : Utf8.decode s i = (byteAt s i, 1) := by
      unfold Utf8.decode
      simp only [Nat.add_zero]
      exact if_pos h
    rw [this]; exact ⟨rfl, fun _ => rfl⟩
  · have h1 : 128 ≤ (Utf8.decode s i).1 := by
      unfold Utf8.decode
      simp only [Nat.add_zero]
      rw [if_neg (show ¬ (s.get! i).toNat < 128 from h)]
      repeat' split
      all_goals first | (simp only [ge_iff_le, Bool.and_eq_true, decide_eq_true_eq] at *; omega) | (simp [Utf8.runeError])
    rw [hb _ h1, hb _ (by omega)]
    exact ⟨rfl, fun h => by cases h⟩
def IdxPost (s : ByteArray) (w : World) (e : Ending) (w' : World) : Prop := ∃ k : Int, e = .returned (.int .i64 k) ∧ decide (0 ≤ k) = !allN s ∧ Below w.heap.size w w'
theorem indexFunc_any (s : ByteArray) (w : World) : Calls Tryz.prog 215 #[.string s, .func (.func 194) #[] #[], .bool true] w (IdxPost s w) := by
  go_enter Tryz.func215, Tryz.ntmps215
  go_wp2
  go_loopg [] s.size (fun gf wx => ∃ pos : Nat, wx.heap[w.heap.size]? = some (.stringIter s pos) ∧ Below w.heap.size w wx ∧ Hid (∀ i, i < pos → nameB (byteAt s i) = true) ∧ pos + gf = s.size)
  case atStart => exact ⟨0, World.iter_heap w s 0, (Below.refl _ w).alloc (Nat.le_refl _) _, fun i h => by omega, by omega⟩
  case round =>
    obtain ⟨pos, hit, hbw, hpre, hfu⟩ := hrel
    by_cases hps : pos < s.size
    · have hnx : ∀ ty, (Instr.next (.pointer (some ⟨w.heap.size, 0, none⟩)) true ty).run Tryz.prog wr = _ := fun ty => Lib.run_next_any_at wr w.heap.size s pos ty hit hps
      obtain ⟨hd1, hd2⟩ := decode_name s pos
      have hit2 := Lib.iterAt_heap wr w.heap.size s pos (pos + (Utf8.decode s pos).2) hit
      have hbw2 := Lib.below_iterAt hbw (k := w.heap.size) (Nat.le_refl _) s (pos + (Utf8.decode s pos).2)
      have cS := strange_any (Utf8.decode s pos).1 (wr.iterAt w.heap.size s (pos + (Utf8.decode s pos).2))
      rw [hd1] at cS
      generalize (Utf8.decode s pos).1 = R at *
      cases hn : nameB (byteAt s pos) with
      | true =>
        rw [hd2 hn] at *
        rw [hn] at cS
        have Hn := Lib.hid hn
        have cS := Lib.hid cS
        have hit2 := Lib.hid hit2
        have hbw2 := Lib.hid hbw2
        clear hn hd1 hd2 hit
        go_wp2_with fail
        refine cS.out.mono ?_
        rintro e w1 ⟨rfl, hb⟩
        go_wp2_with fail
        go_roundg (gk - 1)
        case measure => omega
        case rel => exact ⟨pos + 1, (hb.block _ ((Array.getElem?_eq_some_iff.1 hit2.out).1)).trans hit2.out, below_next hbw2.out hb, fun i hi => by
            by_cases h : i < pos
            · exact hpre.out i h
            · rw [show i = pos by omega]; exact Hn.out, by omega⟩
      | false =>
        rw [hn] at cS
        have Hn := Lib.hid (allN_false hps hn)
        have cS := Lib.hid cS
        have hbw2 := Lib.hid hbw2
        clear hn hd1 hd2 hit hit2
        go_wp2_with fail
        refine cS.out.mono ?_
        rintro e w1 ⟨rfl, hb⟩
        go_wp2_with fail
        go_ret
        exact ⟨_, rfl, by rw [Hn.out]; simp, below_next hbw2.out hb⟩
    · have hnx : ∀ ty, (Instr.next (.pointer (some ⟨w.heap.size, 0, none⟩)) true ty).run Tryz.prog wr = _ := fun ty => Lib.run_next_end_at wr w.heap.size s pos ty hit hps
      go_wp2_with fail
      go_ret
      exact ⟨_, rfl, by
        have : allN s = true := by
          simp only [allN, decide_eq_true_eq]
          exact fun i hi => hpre.out i (by omega)
        rw [this]; rfl, hbw⟩
def ContPost (s : ByteArray) (w : World) (e : Ending) (w' : World) : Prop := e = .returned (.bool (!allN s)) ∧ Below w.heap.size w w'
theorem containsFunc_any (s : ByteArray) (w : World) : Calls Tryz.prog 196 #[.string s, .func (.func 194) #[] #[]] w (ContPost s w) := by
  have hi : Calls Tryz.prog 207 #[.string s, .func (.func 194) #[] #[]] w (IdxPost s w) := by
    go_enter Tryz.func207, Tryz.ntmps207
    go_wp2_with fail
    refine (indexFunc_any s w).mono ?_
    rintro e w1 ⟨k, rfl, hk, hb⟩
    go_wp2_with fail
    go_ret
    exact ⟨k, rfl, hk, hb⟩
  go_enter Tryz.func196, Tryz.ntmps196
  go_wp2_with fail
  refine hi.mono ?_
  rintro e w1 ⟨k, rfl, hk, hb⟩
  have Hk := Lib.hid hk
  clear hk
  go_wp2_with fail
  go_ret
  exact ⟨by rw [← Hk.out]; rfl, hb⟩
def nameOk (s : ByteArray) : Bool := decide (1 ≤ s.size) && decide (s.size ≤ 32) && lowB (byteAt s 0) && allN s
theorem name_any (s : ByteArray) (w : World) : Calls Tryz.prog 177 #[.string s] w (RetBool (nameOk s) w) := by
  by_cases h0 : s.size = 0
  · have hl0 : s.toList = [] := by
      rw [ByteArray.toList_eq]
      exact List.eq_nil_of_length_eq_zero h0
    have he : s.toList.isEmpty = true := by rw [hl0]; rfl
    have HR : Hid (nameOk s = false) := by show nameOk s = false; simp [nameOk, h0]
    go_enter Tryz.func177, Tryz.ntmps177
    go_wp2_with fail
    go_ret
    exact ⟨by rw [HR.out]; rfl, Below.refl _ _⟩
  · have hl0 : s.toList ≠ [] := by
      rw [ByteArray.toList_eq]
      intro h
      exact h0 (congrArg List.length h)
    have he : s.toList.isEmpty = false := by simpa using hl0
    by_cases h32 : s.size ≤ 32
    · have z1 : (s.size : Int) ≤ 32 ↔ s.size ≤ 32 := by omega
      have hlt : 0 < s.size := by omega
      cases hlow : lowB (byteAt s 0) with
      | true =>
        have HR : Hid (nameOk s = allN s) := by show nameOk s = allN s; simp [nameOk, h32, hlow]; omega
        have cl := letter_any (byteAt s 0) w
        rw [hlow, ← byteAt_eq hlt] at cl
        have cl := Lib.hid cl
        clear hlow
        go_enter Tryz.func177, Tryz.ntmps177
        go_wp2_with fail
        refine cl.out.mono ?_
        rintro e w1 ⟨rfl, hb⟩
        go_wp2_with fail
        refine (containsFunc_any s w1).mono ?_
        rintro e w2 ⟨rfl, hb2⟩
        go_wp2_with fail
        go_ret
        exact ⟨by rw [HR.out, ← Bool.not_not (allN s)]; rfl, below_next hb hb2⟩
      | false =>
        have HR : Hid (nameOk s = false) := by show nameOk s = false; simp [nameOk, hlow]
        have cl := letter_any (byteAt s 0) w
        rw [hlow, ← byteAt_eq hlt] at cl
        have cl := Lib.hid cl
        clear hlow
        go_enter Tryz.func177, Tryz.ntmps177
        go_wp2_with fail
        refine cl.out.mono ?_
        rintro e w1 ⟨rfl, hb⟩
        go_wp2_with fail
        go_ret
        exact ⟨by rw [HR.out]; rfl, hb⟩
    · have z1 : ¬ (s.size : Int) ≤ 32 := by omega
      have HR : Hid (nameOk s = false) := by show nameOk s = false; simp [nameOk, h32]
      go_enter Tryz.func177, Tryz.ntmps177
      go_wp2_with fail
      go_ret
      exact ⟨by rw [HR.out]; rfl, Below.refl _ _⟩
def rightB (v : GV) : Bool := if v.k = 1 then decide (v.s.size = 0) && decide (-2147483647 ≤ v.n) && decide (v.n ≤ 2147483647) else if v.k = 2 then decide (v.n = 0) && nameOk v.s else false
theorem bounded_any (n : Int) (w : World) : Calls Tryz.prog 176 #[.int .i64 n] w (RetBool (decide (-2147483647 ≤ n) && decide (n ≤ 2147483647)) w) := by
  by_cases h1 : -2147483647 ≤ n <;> by_cases h2 : n ≤ 2147483647 <;> (try (exfalso; omega))
  all_goals
    go_enter Tryz.func176, Tryz.ntmps176
    go_wp2
    go_ret
    exact ⟨by simp [h1, h2], Below.refl _ _⟩
theorem right_any (v : GV) (w : World) : Calls Tryz.prog 155 #[v.v] w (RetBool (rightB v) w) := by
  by_cases h1 : v.k = 1
  · have z1 : (v.k == 1) = true := by simp [h1]
    have hb := Lib.hid (bounded_any v.n)
    have Hk := Lib.hid h1
    clear h1
    have ze : v.s.toList.isEmpty = decide (v.s.size = 0) := by
      rw [ByteArray.toList_eq, Bool.eq_iff_iff]
      simp only [List.isEmpty_iff, decide_eq_true_eq]
      exact ⟨fun h => congrArg List.length h, fun h => List.eq_nil_of_length_eq_zero h⟩
    by_cases hs : v.s.size = 0
    · have HR : Hid (rightB v = (decide (-2147483647 ≤ v.n) && decide (v.n ≤ 2147483647))) := by
        show rightB v = _
        simp [rightB, Hk.out, hs]
      go_enter Tryz.func155, Tryz.ntmps155
      go_wp2_with fail
      refine (hb.out _).mono ?_
      rintro e w1 ⟨rfl, hb⟩
      go_wp2_with fail
      go_ret
      exact ⟨by rw [HR.out]; rfl, below_next (belowA (Below.refl _ _) _) hb⟩
    · have HR : Hid (rightB v = false) := by show rightB v = false; simp [rightB, Hk.out, hs]
      go_enter Tryz.func155, Tryz.ntmps155
      go_wp2_with fail
      go_ret
      exact ⟨by rw [HR.out]; rfl, belowA (Below.refl _ _) _⟩
  · have z1 : (v.k == 1) = false := by simp [h1]
    have Hk := Lib.hid h1
    clear h1
    by_cases h2 : v.k = 2
    · have z2 : (v.k == 2) = true := by simp [h2]
      have Hk2 := Lib.hid h2
      clear h2
      by_cases h3 : v.n = 0
      · have z3 : (v.n == 0) = true := by simp [h3]
        have HR : Hid (rightB v = nameOk v.s) := by show rightB v = _; simp [rightB, Hk2.out, h3]
        clear h3
        go_enter Tryz.func155, Tryz.ntmps155
        go_wp2_with fail
        refine (name_any v.s _).mono ?_
        rintro e w1 ⟨rfl, hb⟩
        go_wp2_with fail
        go_ret
        exact ⟨by rw [HR.out]; rfl, below_next (belowA (Below.refl _ _) _) hb⟩
      · have z3 : (v.n == 0) = false := by simp [h3]
        have HR : Hid (rightB v = false) := by show rightB v = _; simp [rightB, Hk2.out, h3]
        clear h3
        go_enter Tryz.func155, Tryz.ntmps155
        go_wp2_with fail
        go_ret
        exact ⟨by rw [HR.out]; rfl, belowA (Below.refl _ _) _⟩
    · have z2 : (v.k == 2) = false := by simp [h2]
      have HR : Hid (rightB v = false) := by show rightB v = false; simp [rightB, Hk.out, h2]
      clear h2
      go_enter Tryz.func155, Tryz.ntmps155
      go_wp2_with fail
      go_ret
      exact ⟨by rw [HR.out]; rfl, belowA (Below.refl _ _) _⟩
end Go.Proofs.YtgphngjniplonaaGreatDoor

namespace Go.Proofs.YtgphngjniplonaaGreatDoor
open Go.Lib
theorem decFrom_append : ∀ (l m : List UInt8) (a : Nat), decFrom a (l ++ m) = (decFrom a l).bind (fun n => decFrom n m)
  | [], m, a => by simp [decFrom]
  | b :: l, m, a => by
    simp only [List.cons_append, decFrom]
    cases digitVal b with
    | none => rfl
    | some d => exact decFrom_append l m _
theorem digit_u8 {d : Nat} (h : d < 10) : digitVal (UInt8.ofNat (48 + d)) = some d := by
  have : (UInt8.ofNat (48 + d)).toNat = 48 + d := by simp; omega
  unfold digitVal
  rw [if_pos (by omega)]
  congr 1; omega
theorem dec_digits : ∀ n : Nat, decFrom 0 (decDigits n) = some n := by
  intro n
  induction n using Nat.strongRecOn with
  | _ n ih =>
    rw [decDigits]
    split
    · rename_i h
      simp only [decFrom, digit_u8 h]; simp
    · rename_i h
      rw [decFrom_append, ih (n / 10) (by omega)]
      simp only [Option.bind_some, decFrom, digit_u8 (Nat.mod_lt n (by omega))]
      congr 1; omega
theorem digits_ne (n : Nat) : decDigits n ≠ [] := by
  rw [decDigits]; split <;> simp
theorem digits_first : ∀ n : Nat, 1 ≤ n → ∃ c r, decDigits n = c :: r ∧ 49 ≤ c.toNat ∧ c.toNat ≤ 57 := by
  intro n
  induction n using Nat.strongRecOn with
  | _ n ih =>
    intro h1
    rw [decDigits]
    split
    · rename_i h
      have : (UInt8.ofNat (48 + n)).toNat = 48 + n := by simp; omega
      exact ⟨_, [], rfl, by omega, by omega⟩
    · rename_i h
      obtain ⟨c, r, e, h2, h3⟩ := ih (n / 10) (by omega) (by omega)
      exact ⟨c, _, by rw [e]; rfl, h2, h3⟩
theorem digits_zero : decDigits 0 = [48] := by rw [decDigits]; rfl
theorem digits_len : ∀ (k n : Nat), n < 10 ^ (k + 1) → (decDigits n).length ≤ k + 1 := by
  intro k
  induction k with
  | zero => intro n h; rw [decDigits, dif_pos (by simpa using h)]; simp
  | succ k ih =>
    intro n h
    rw [decDigits]
    split
    · simp
    · have := ih (n / 10) (by rw [Nat.pow_succ] at h; omega)
      simp; omega
theorem digitVal_some {c : UInt8} {d : Nat} (h : digitVal c = some d) : d < 10 ∧ c = UInt8.ofNat (48 + d) := by
  unfold digitVal at h
  split at h
  · rename_i hc
    injection h with h
    refine ⟨by omega, ?_⟩
    apply UInt8.toNat_inj.1
    have : (UInt8.ofNat (48 + d)).toNat = 48 + d := by simp; omega
    rw [this]; omega
  · cases h
theorem digits_back : ∀ (k : Nat) (t : List UInt8) (n : Nat), t.length = k → t ≠ [] → (∀ c r, t = c :: r → c = 48 → r = []) → decFrom 0 t = some n → decDigits n = t := by
  intro k
  induction k with
  | zero => intro t n hl hn; exact absurd (List.eq_nil_of_length_eq_zero hl) hn
  | succ k ih =>
    intro t n hl hn h0 hd
    obtain ⟨t', c, rfl⟩ : ∃ t' c, t = t' ++ [c] := by
      rcases List.eq_nil_or_concat t with h | ⟨l, b, h⟩
      · exact absurd h hn
      · exact ⟨l, b, by simpa using h⟩
    rw [decFrom_append] at hd
    cases hn' : decFrom 0 t' with
    | none => rw [hn'] at hd; cases hd
    | some m =>
      rw [hn'] at hd
      simp only [Option.bind_some, decFrom] at hd
      cases hc : digitVal c with
      | none => rw [hc] at hd; cases hd
      | some d =>
        rw [hc] at hd
        injection hd with hd
        obtain ⟨hd10, rfl⟩ := digitVal_some hc
        cases ht : t' with
        | nil =>
          subst ht
          simp only [decFrom] at hn'
          injection hn' with hn'
          subst hn'
          rw [decDigits, dif_pos (by omega)]
          rw [← hd]; simp
        | cons a r =>
          have h0' : ∀ c r, t' = c :: r → c = 48 → r = [] := by
            intro c' r' e e48
            have := h0 c' (r' ++ [UInt8.ofNat (48 + d)]) (by rw [e]; rfl) e48
            simp at this
          have hm := ih t' m (by simpa using hl) (by rw [ht]; simp) h0' hn'
          have hm1 : 1 ≤ m := by
            rcases Nat.eq_zero_or_pos m with h | h
            · subst h
              rw [digits_zero] at hm
              have := h0 48 [UInt8.ofNat (48 + d)] (by rw [← hm]; rfl) rfl
              simp at this
            · exact h
          rw [← ht, ← hm]
          rw [decDigits, dif_neg (by omega)]
          rw [show n / 10 = m by omega, show n % 10 = d by omega]
def magOf (t : List UInt8) : Option Nat := match decFrom 0 t with
    | some n => if 2147483647 < n then none else some n
    | none => none
def refMag (t : List UInt8) (neg : Bool) : Option Nat :=
  if t.length = 0 ∨ 10 < t.length ∨ (t.head? = some 48 ∧ (1 < t.length ∨ neg = true)) then none
  else magOf t
def refNum (l : List UInt8) : Option Int :=
  if l.head? = some 45 then (refMag l.tail true).map fun (n : Nat) => -(n : Int) else (refMag l false).map fun (n : Nat) => (n : Int)
def bnd31 (n : Int) : Bool := decide (-2147483647 ≤ n) && decide (n ≤ 2147483647)
def ownNum (l : List UInt8) : Option Int :=
  match atoiAll l with
  | .ok n => if itoa n = l ∧ bnd31 n = true then some n else none
  | _ => none
theorem refMag_some {t : List UInt8} {neg : Bool} {n : Nat} (h : refMag t neg = some n) : decDigits n = t ∧ n ≤ 2147483647 ∧ (neg = true → 1 ≤ n) := by
  unfold refMag at h
  split at h
  · cases h
  · rename_i hc
    simp only [not_or] at hc
    obtain ⟨h1, h2, h3⟩ := hc
    unfold magOf at h
    cases hd : decFrom 0 t with
    | none => rw [hd] at h; cases h
    | some m =>
      rw [hd] at h
      simp only at h
      split at h
      · cases h
      · injection h with h
        subst h
        have hb := digits_back t.length t m rfl (by intro e; subst e; simp at h1) (by
          intro c r e e48
          subst e; subst e48
          by_cases hr : r = []
          · exact hr
          · exact absurd ⟨rfl, .inl (by cases r with | nil => exact absurd rfl hr | cons => simp)⟩ h3) hd
        refine ⟨hb, by omega, fun hn => ?_⟩
        rcases Nat.eq_zero_or_pos m with h | h
        · subst h
          rw [digits_zero] at hb
          exact absurd ⟨by rw [← hb]; rfl, .inr hn⟩ h3
        · exact h
theorem refMag_digits {n : Nat} {neg : Bool} (h : n ≤ 2147483647) (h1 : neg = true → 1 ≤ n) : refMag (decDigits n) neg = some n := by
  unfold refMag
  have hl := digits_len 9 n (by omega)
  have hn : (decDigits n).length ≠ 0 := fun e => digits_ne n (List.eq_nil_of_length_eq_zero e)
  rw [if_neg]
  · unfold magOf
    rw [dec_digits]
    simp only
    rw [if_neg (by omega)]
  · simp only [not_or, not_and]
    refine ⟨hn, by omega, fun h48 => ?_⟩
    rcases Nat.eq_zero_or_pos n with e | e
    · subst e
      rw [digits_zero]
      simp
      cases neg
      · rfl
      · exact absurd (h1 rfl) (by omega)
    · obtain ⟨c, r, e', h2, h3⟩ := digits_first n e
      rw [e'] at h48
      simp at h48
      subst h48
      simp at h2
theorem itoa_pos (n : Nat) : itoa (n : Int) = decDigits n := itoa_nonneg n
theorem atoi_digits (n : Nat) (h : n ≤ 2147483647) : atoiAll (decDigits n) = .ok (n : Int) := by
  rw [atoiAll_short _ (by have := digits_len 9 n (by omega); omega)]
  have hd := dec_digits n
  have hne := digits_ne n
  have hne' : (decDigits n).isEmpty = false := by
    cases h : decDigits n with
    | nil => exact absurd h hne
    | cons => rfl
  have hN : decNat (decDigits n) = some n := by unfold decNat; rw [hne']; exact hd
  have hA : atoi (decDigits n) = some (n : Int) := by
    have hc : ∃ c r, decDigits n = c :: r ∧ 48 ≤ c.toNat := by
      rcases Nat.eq_zero_or_pos n with e | e
      · subst e; exact ⟨48, [], digits_zero, by decide⟩
      · obtain ⟨c, r, e', h2, h3⟩ := digits_first n e
        exact ⟨c, r, e', by omega⟩
    obtain ⟨c, r, e, hc⟩ := hc
    rw [e] at hN ⊢
    unfold atoi
    have e1 : (c == 45) = false := by
      rw [Bool.eq_false_iff]; intro h; rw [beq_iff_eq] at h; subst h; simp at hc
    have e2 : (c == 43) = false := by
      rw [Bool.eq_false_iff]; intro h; rw [beq_iff_eq] at h; subst h; simp at hc
    simp only [e1, e2, Bool.false_eq_true, if_false, hN, Option.map_some]
  rw [hA]; rfl
theorem atoi_neg (n : Nat) (h : n ≤ 2147483647) : atoiAll (45 :: decDigits n) = .ok (-(n : Int)) := by
  rw [atoiAll_short _ (by have := digits_len 9 n (by omega); simp; omega)]
  have hd := dec_digits n
  have hne := digits_ne n
  have hne' : (decDigits n).isEmpty = false := by
    cases h : decDigits n with
    | nil => exact absurd h hne
    | cons => rfl
  have hN : decNat (decDigits n) = some n := by unfold decNat; rw [hne']; exact hd
  unfold atoi
  simp [hN, NumEnd.ofOption]
theorem refNum_itoa {n : Int} (h1 : -2147483647 ≤ n) (h2 : n ≤ 2147483647) : refNum (itoa n) = some n ∧ atoiAll (itoa n) = .ok n := by
  by_cases hn : n < 0
  · obtain ⟨m, rfl⟩ : ∃ m : Nat, n = -(m : Int) := ⟨n.natAbs, by omega⟩
    rw [itoa_neg m (by omega)]
    refine ⟨?_, atoi_neg m (by omega)⟩
    unfold refNum
    simp only [List.head?_cons, if_true, List.tail_cons, refMag_digits (n := m) (neg := true) (by omega) (fun _ => by omega), Option.map_some]
  · obtain ⟨m, rfl⟩ : ∃ m : Nat, n = (m : Int) := ⟨n.toNat, by omega⟩
    rw [itoa_pos]
    refine ⟨?_, atoi_digits m (by omega)⟩
    unfold refNum
    have hh : (decDigits m).head? ≠ some 45 := by
      rcases Nat.eq_zero_or_pos m with e | e
      · subst e; rw [digits_zero]; decide
      · obtain ⟨c, r, e', h3, h4⟩ := digits_first m e
        rw [e']; simp; intro e; subst e; simp at h3
    rw [if_neg hh, refMag_digits (n := m) (neg := false) (by omega) (fun h => by cases h)]
    rfl
theorem refNum_some {l : List UInt8} {n : Int} (h : refNum l = some n) : l = itoa n ∧ -2147483647 ≤ n ∧ n ≤ 2147483647 := by
  unfold refNum at h
  split at h
  · rename_i h45
    obtain ⟨m, hm, rfl⟩ := Option.map_eq_some_iff.1 h
    obtain ⟨e, hle, h1⟩ := refMag_some hm
    have h1 := h1 rfl
    rw [itoa_neg m h1, e]
    refine ⟨?_, by omega, by omega⟩
    cases l with
    | nil => cases h45
    | cons c r => simp at h45; subst h45; rfl
  · obtain ⟨m, hm, rfl⟩ := Option.map_eq_some_iff.1 h
    obtain ⟨e, hle, h1⟩ := refMag_some hm
    rw [itoa_pos, e]
    exact ⟨rfl, by omega, by omega⟩
theorem own_eq_ref (l : List UInt8) : ownNum l = refNum l := by
  cases hr : refNum l with
  | some n =>
    obtain ⟨e, h1, h2⟩ := refNum_some hr
    have ha := (refNum_itoa h1 h2).2
    rw [← e] at ha
    unfold ownNum
    rw [ha]
    simp only
    rw [if_pos ⟨e.symm, by simp [bnd31, h1, h2]⟩]
  | none =>
    unfold ownNum
    cases ha : atoiAll l
    · rename_i n
      simp only
      rw [if_neg]
      rintro ⟨e, hb⟩
      simp [bnd31] at hb
      have := (refNum_itoa hb.1 hb.2).1
      rw [e, hr] at this
      cases this
    · rfl
    · rfl
end Go.Proofs.YtgphngjniplonaaGreatDoor

namespace Go.Proofs.YtgphngjniplonaaGreatDoor
open Go.RowKit
def gv0 : GV := ⟨0, 0, ⟨#[]⟩⟩
theorem toList_mk (l : List UInt8) : (⟨l.toArray⟩ : ByteArray).toList = l := by rw [ByteArray.toList_eq]
theorem bytes_back (s : ByteArray) : (⟨s.toList.toArray⟩ : ByteArray) = s := by
  rw [ByteArray.toList_eq]
theorem ba_get {s : ByteArray} {k : Nat} (h : k < s.size) : s.toList[k]? = some (s[k]'h) := by
  rw [ByteArray.toList_eq, List.getElem?_eq_getElem (h := show k < s.data.toList.length from by simpa using h)]
  rfl
theorem ba_len (s : ByteArray) : s.toList.length = s.size := by rw [ByteArray.toList_eq]; rfl
theorem ba_head {s : ByteArray} (h : 0 < s.size) : s.toList.head? = some (s[0]'h) := by
  rw [List.head?_eq_getElem?]; exact ba_get h
def ErrIs (W : World) (g : Nat) : Prop := ∃ tp p, W.cell? ⟨g, 0, none⟩ = some (.iface tp p)
def ErrW (W : World) : Prop := ErrIs W 5 ∧ ErrIs W 6
theorem ErrW.on {W W' : World} (h : ErrW W) (hb : Below W.heap.size W W') : ErrW W' := by
  obtain ⟨⟨t1, p1, h1⟩, ⟨t2, p2, h2⟩⟩ := h
  exact ⟨⟨t1, p1, below_cell hb h1⟩, ⟨t2, p2, below_cell hb h2⟩⟩
def AtoiPost (s : ByteArray) (w : World) (e : Ending) (w' : World) : Prop :=
  ∃ n : Int, ∃ ev : Value, fits n ∧ e = .returned (.tuple #[.int .i64 n, ev]) ∧ Below w.heap.size w w' ∧
    ((Lib.atoiAll s.toList = .ok n ∧ ev = .nilIface) ∨ ((∀ m, Lib.atoiAll s.toList ≠ .ok m) ∧ ∃ T p, ev = .iface T p))
theorem fits_of {n : Int} (h1 : -9223372036854775808 ≤ n) (h2 : n ≤ 9223372036854775807) : fits n := (fits_iff n).2 ⟨h1, h2⟩
theorem atoi_any (s : ByteArray) (hs : s.size ≤ 140737488351232) (w : World) (h : ErrW w) : Calls Tryz.prog 172 #[.string s] w (AtoiPost s w) := by
  obtain ⟨⟨t1, p1, h1⟩, ⟨t2, p2, h2⟩⟩ := h
  have el : s.data.toList = s.toList := (ByteArray.toList_eq s).symm
  cases ha : Lib.atoiAll s.toList
  · rename_i v
    refine (Tryz.strconv_Atoi_ok s (by omega) v (by rw [el]; exact ha) w).mono ?_
    rintro e w' ⟨rfl, hw⟩
    have hb := Lib.atoiAll_bounds ha
    refine ⟨v, .nilIface, fits_of hb.1 hb.2, rfl, ?_, .inl ⟨ha, rfl⟩⟩
    rcases hw with rfl | ⟨t, rfl⟩
    · exact Below.refl _ _
    · exact Lib.bytesWorld_below _ _ _
  · refine (Any.strconv_Atoi_syntax Tryz.laysC172 s (by omega) (by rw [el]; exact ha) _ w h1 (.inr ⟨_, _, rfl⟩)).mono ?_
    rintro e w' ⟨N, rfl, -, -, hb⟩
    exact ⟨0, _, by unfold fits; decide, rfl, hb, .inr ⟨(fun m e => by rw [ha] at e; cases e), _, _, rfl⟩⟩
  · refine (Any.strconv_Atoi_range Tryz.laysC172 s (by omega) (by rw [el]; exact ha) _ w h2 (.inr ⟨_, _, rfl⟩)).mono ?_
    rintro e w' ⟨N, rfl, -, -, hb⟩
    exact ⟨_, _, by unfold Lib.atoiSat; split <;> (unfold fits; decide), rfl, hb, .inr ⟨(fun m e => by rw [ha] at e; cases e), _, _, rfl⟩⟩
end Go.Proofs.YtgphngjniplonaaGreatDoor

namespace Go.Proofs.YtgphngjniplonaaGreatDoor
open Go.ChangeShapes Go.WideShapes Go.ChangeAt Go.RowKit
set_option linter.unusedVariables false
theorem gER : Tryz.prog.globalNamed "strconv.ErrRange" = some 6 := by kernel_rfl
theorem gERT : (Tryz.prog.globals[6]?).map (·.type) = some 45 := by kernel_rfl
theorem gES : Tryz.prog.globalNamed "strconv.ErrSyntax" = some 5 := by kernel_rfl
theorem gEST : (Tryz.prog.globals[5]?).map (·.type) = some 45 := by kernel_rfl
theorem cellsES : Tryz.prog.cellsOf 295 = 1 := by kernel_rfl
theorem cellsStr : Tryz.prog.cellsOf 9 = 1 := by kernel_rfl
theorem starES : "*" ++ "errors.errorString" = "*errors.errorString" := by decide
theorem rowES (u : TypeId) (h : Tryz.prog.typeName? 3 u = some "*errors.errorString") : u = 293 :=
  typeName_ptr_named (nm := "errors.errorString") (by rw [starES]; kernel_rfl) (by kernel_rfl) (by decide) u (by rw [starES]; exact h)
abbrev synS : ByteArray := { data := #[105, 110, 118, 97, 108, 105, 100, 32, 115, 121, 110, 116, 97, 120] }
abbrev rngS : ByteArray := { data := #[118, 97, 108, 117, 101, 32, 111, 117, 116, 32, 111, 102, 32, 114, 97, 110, 103, 101] }
noncomputable def low : Nat := (World.holding Tryz.prog default ⟨#[], #[], []⟩).heap.size
end Go.Proofs.YtgphngjniplonaaGreatDoor
