/- My own texts VParseLaw, VParse, VFrameE, LexLaw, LexG, as far as this claim needs them. -/
import Derived.Test.YtfklheagafffmaaGreatDoorZo2
import Derived.Lib.AtoiTie
import Derived.Lib.ItoaNum
import Derived.Lib.ItoaMem
import Derived.Laws.BitsAllLaws
import Derived.Laws.IdiomStrings
import Derived.Deep.DeepCutAuto
import Derived.Stop.LaidErr
import Derived.Lib.CutLaws
set_option linter.unusedVariables false
set_option linter.unusedSimpArgs false
namespace Go.Proofs.YtfklheagafffmaaGreatDoor
open Go.Lib
theorem decFrom_append : ∀ (l m : List UInt8) (a : Nat), decFrom a (l ++ m) = (decFrom a l).bind (fun n => decFrom n m)
  | [], m, a => by simp [decFrom]
  | b :: l, m, a => by
    simp only [List.cons_append, decFrom]
    cases digitVal b with
    | none => rfl
    | some d => exact decFrom_append l m _
theorem digit_u8 {d : Nat} (h : d < 10) : digitVal (UInt8.ofNat (48 + d)) = some d := by
  have : (UInt8.ofNat (48 + d)).toNat = 48 + d := by simp; omega
  unfold digitVal
  rw [if_pos (by omega)]
  congr 1; omega
theorem dec_digits : ∀ n : Nat, decFrom 0 (decDigits n) = some n := by
  intro n
  induction n using Nat.strongRecOn with
  | _ n ih =>
    rw [decDigits]
    split
    · rename_i h
      simp only [decFrom, digit_u8 h]; simp
    · rename_i h
      rw [decFrom_append, ih (n / 10) (by omega)]
      simp only [Option.bind_some, decFrom, digit_u8 (Nat.mod_lt n (by omega))]
      congr 1; omega
theorem digits_ne (n : Nat) : decDigits n ≠ [] := by
  rw [decDigits]; split <;> simp
theorem digits_first : ∀ n : Nat, 1 ≤ n → ∃ c r, decDigits n = c :: r ∧ 49 ≤ c.toNat ∧ c.toNat ≤ 57 := by
  intro n
  induction n using Nat.strongRecOn with
  | _ n ih =>
    intro h1
    rw [decDigits]
    split
    · rename_i h
      have : (UInt8.ofNat (48 + n)).toNat = 48 + n := by simp; omega
      exact ⟨_, [], rfl, by omega, by omega⟩
    · rename_i h
      obtain ⟨c, r, e, h2, h3⟩ := ih (n / 10) (by omega) (by omega)
      exact ⟨c, _, by rw [e]; rfl, h2, h3⟩
theorem digits_zero : decDigits 0 = [48] := by rw [decDigits]; rfl
theorem digits_len : ∀ (k n : Nat), n < 10 ^ (k + 1) → (decDigits n).length ≤ k + 1 := by
  intro k
  induction k with
  | zero => intro n h; rw [decDigits, dif_pos (by simpa using h)]; simp
  | succ k ih =>
    intro n h
    rw [decDigits]
    split
    · simp
    · have := ih (n / 10) (by rw [Nat.pow_succ] at h; omega)
      simp; omega
theorem digitVal_some {c : UInt8} {d : Nat} (h : digitVal c = some d) : d < 10 ∧ c = UInt8.ofNat (48 + d) := by
  unfold digitVal at h
  split at h
  · rename_i hc
    injection h with h
    refine ⟨by omega, ?_⟩
    apply UInt8.toNat_inj.1
    have : (UInt8.ofNat (48 + d)).toNat = 48 + d := by simp; omega
    rw [this]; omega
  · cases h
/-- digits without a nought ahead are the numeral of their number -/
theorem digits_back : ∀ (k : Nat) (t : List UInt8) (n : Nat), t.length = k → t ≠ [] → (∀ c r, t = c :: r → c = 48 → r = []) → decFrom 0 t = some n → decDigits n = t := by
  intro k
  induction k with
  | zero => intro t n hl hn; exact absurd (List.eq_nil_of_length_eq_zero hl) hn
  | succ k ih =>
    intro t n hl hn h0 hd
    obtain ⟨t', c, rfl⟩ : ∃ t' c, t = t' ++ [c] := by
      rcases List.eq_nil_or_concat t with h | ⟨l, b, h⟩
      · exact absurd h hn
      · exact ⟨l, b, by simpa using h⟩
    rw [decFrom_append] at hd
    cases hn' : decFrom 0 t' with
    | none => rw [hn'] at hd; cases hd
    | some m =>
      rw [hn'] at hd
      simp only [Option.bind_some, decFrom] at hd
      cases hc : digitVal c with
      | none => rw [hc] at hd; cases hd
      | some d =>
        rw [hc] at hd
        injection hd with hd
        obtain ⟨hd10, rfl⟩ := digitVal_some hc
        cases ht : t' with
        | nil =>
          subst ht
          simp only [decFrom] at hn'
          injection hn' with hn'
          subst hn'
          rw [decDigits, dif_pos (by omega)]
          rw [← hd]; simp
        | cons a r =>
          have h0' : ∀ c r, t' = c :: r → c = 48 → r = [] := by
            intro c' r' e e48
            have := h0 c' (r' ++ [UInt8.ofNat (48 + d)]) (by rw [e]; rfl) e48
            simp at this
          have hm := ih t' m (by simpa using hl) (by rw [ht]; simp) h0' hn'
          have hm1 : 1 ≤ m := by
            rcases Nat.eq_zero_or_pos m with h | h
            · subst h
              rw [digits_zero] at hm
              have := h0 48 [UInt8.ofNat (48 + d)] (by rw [← hm]; rfl) rfl
              simp at this
            · exact h
          rw [← ht, ← hm]
          rw [decDigits, dif_neg (by omega)]
          rw [show n / 10 = m by omega, show n % 10 = d by omega]
def magOf (t : List UInt8) : Option Nat := match decFrom 0 t with
    | some n => if 2147483647 < n then none else some n
    | none => none
/-- the document's reading of digits behind the sign -/
def refMag (t : List UInt8) (neg : Bool) : Option Nat :=
  if t.length = 0 ∨ 10 < t.length ∨ (t.head? = some 48 ∧ (1 < t.length ∨ neg = true)) then none
  else magOf t
def refNum (l : List UInt8) : Option Int :=
  if l.head? = some 45 then (refMag l.tail true).map fun (n : Nat) => -(n : Int) else (refMag l false).map fun (n : Nat) => (n : Int)
def bnd31 (n : Int) : Bool := decide (-2147483647 ≤ n) && decide (n ≤ 2147483647)
/-- the program's reading -/
def ownNum (l : List UInt8) : Option Int :=
  match atoiAll l with
  | .ok n => if itoa n = l ∧ bnd31 n = true then some n else none
  | _ => none
theorem refMag_some {t : List UInt8} {neg : Bool} {n : Nat} (h : refMag t neg = some n) : decDigits n = t ∧ n ≤ 2147483647 ∧ (neg = true → 1 ≤ n) := by
  unfold refMag at h
  split at h
  · cases h
  · rename_i hc
    simp only [not_or] at hc
    obtain ⟨h1, h2, h3⟩ := hc
    unfold magOf at h
    cases hd : decFrom 0 t with
    | none => rw [hd] at h; cases h
    | some m =>
      rw [hd] at h
      simp only at h
      split at h
      · cases h
      · injection h with h
        subst h
        have hb := digits_back t.length t m rfl (by intro e; subst e; simp at h1) (by
          intro c r e e48
          subst e; subst e48
          by_cases hr : r = []
          · exact hr
          · exact absurd ⟨rfl, .inl (by cases r with | nil => exact absurd rfl hr | cons => simp)⟩ h3) hd
        refine ⟨hb, by omega, fun hn => ?_⟩
        rcases Nat.eq_zero_or_pos m with h | h
        · subst h
          rw [digits_zero] at hb
          exact absurd ⟨by rw [← hb]; rfl, .inr hn⟩ h3
        · exact h
theorem refMag_digits {n : Nat} {neg : Bool} (h : n ≤ 2147483647) (h1 : neg = true → 1 ≤ n) : refMag (decDigits n) neg = some n := by
  unfold refMag
  have hl := digits_len 9 n (by omega)
  have hn : (decDigits n).length ≠ 0 := fun e => digits_ne n (List.eq_nil_of_length_eq_zero e)
  rw [if_neg]
  · unfold magOf
    rw [dec_digits]
    simp only
    rw [if_neg (by omega)]
  · simp only [not_or, not_and]
    refine ⟨hn, by omega, fun h48 => ?_⟩
    rcases Nat.eq_zero_or_pos n with e | e
    · subst e
      rw [digits_zero]
      simp
      cases neg
      · rfl
      · exact absurd (h1 rfl) (by omega)
    · obtain ⟨c, r, e', h2, h3⟩ := digits_first n e
      rw [e'] at h48
      simp at h48
      subst h48
      simp at h2
theorem itoa_pos (n : Nat) : itoa (n : Int) = decDigits n := itoa_nonneg n
theorem atoi_digits (n : Nat) (h : n ≤ 2147483647) : atoiAll (decDigits n) = .ok (n : Int) := by
  rw [atoiAll_short _ (by have := digits_len 9 n (by omega); omega)]
  have hd := dec_digits n
  have hne := digits_ne n
  have hne' : (decDigits n).isEmpty = false := by
    cases h : decDigits n with
    | nil => exact absurd h hne
    | cons => rfl
  have hN : decNat (decDigits n) = some n := by unfold decNat; rw [hne']; exact hd
  have hA : atoi (decDigits n) = some (n : Int) := by
    have hc : ∃ c r, decDigits n = c :: r ∧ 48 ≤ c.toNat := by
      rcases Nat.eq_zero_or_pos n with e | e
      · subst e; exact ⟨48, [], digits_zero, by decide⟩
      · obtain ⟨c, r, e', h2, h3⟩ := digits_first n e
        exact ⟨c, r, e', by omega⟩
    obtain ⟨c, r, e, hc⟩ := hc
    rw [e] at hN ⊢
    unfold atoi
    have e1 : (c == 45) = false := by
      rw [Bool.eq_false_iff]; intro h; rw [beq_iff_eq] at h; subst h; simp at hc
    have e2 : (c == 43) = false := by
      rw [Bool.eq_false_iff]; intro h; rw [beq_iff_eq] at h; subst h; simp at hc
    simp only [e1, e2, Bool.false_eq_true, if_false, hN, Option.map_some]
  rw [hA]; rfl
theorem atoi_neg (n : Nat) (h : n ≤ 2147483647) : atoiAll (45 :: decDigits n) = .ok (-(n : Int)) := by
  rw [atoiAll_short _ (by have := digits_len 9 n (by omega); simp; omega)]
  have hd := dec_digits n
  have hne := digits_ne n
  have hne' : (decDigits n).isEmpty = false := by
    cases h : decDigits n with
    | nil => exact absurd h hne
    | cons => rfl
  have hN : decNat (decDigits n) = some n := by unfold decNat; rw [hne']; exact hd
  unfold atoi
  simp [hN, NumEnd.ofOption]
theorem refNum_itoa {n : Int} (h1 : -2147483647 ≤ n) (h2 : n ≤ 2147483647) : refNum (itoa n) = some n ∧ atoiAll (itoa n) = .ok n := by
  by_cases hn : n < 0
  · obtain ⟨m, rfl⟩ : ∃ m : Nat, n = -(m : Int) := ⟨n.natAbs, by omega⟩
    rw [itoa_neg m (by omega)]
    refine ⟨?_, atoi_neg m (by omega)⟩
    unfold refNum
    simp only [List.head?_cons, if_true, List.tail_cons, refMag_digits (n := m) (neg := true) (by omega) (fun _ => by omega), Option.map_some]
  · obtain ⟨m, rfl⟩ : ∃ m : Nat, n = (m : Int) := ⟨n.toNat, by omega⟩
    rw [itoa_pos]
    refine ⟨?_, atoi_digits m (by omega)⟩
    unfold refNum
    have hh : (decDigits m).head? ≠ some 45 := by
      rcases Nat.eq_zero_or_pos m with e | e
      · subst e; rw [digits_zero]; decide
      · obtain ⟨c, r, e', h3, h4⟩ := digits_first m e
        rw [e']; simp; intro e; subst e; simp at h3
    rw [if_neg hh, refMag_digits (n := m) (neg := false) (by omega) (fun h => by cases h)]
    rfl
theorem refNum_some {l : List UInt8} {n : Int} (h : refNum l = some n) : l = itoa n ∧ -2147483647 ≤ n ∧ n ≤ 2147483647 := by
  unfold refNum at h
  split at h
  · rename_i h45
    obtain ⟨m, hm, rfl⟩ := Option.map_eq_some_iff.1 h
    obtain ⟨e, hle, h1⟩ := refMag_some hm
    have h1 := h1 rfl
    rw [itoa_neg m h1, e]
    refine ⟨?_, by omega, by omega⟩
    cases l with
    | nil => cases h45
    | cons c r => simp at h45; subst h45; rfl
  · obtain ⟨m, hm, rfl⟩ := Option.map_eq_some_iff.1 h
    obtain ⟨e, hle, h1⟩ := refMag_some hm
    rw [itoa_pos, e]
    exact ⟨rfl, by omega, by omega⟩
theorem own_eq_ref (l : List UInt8) : ownNum l = refNum l := by
  cases hr : refNum l with
  | some n =>
    obtain ⟨e, h1, h2⟩ := refNum_some hr
    have ha := (refNum_itoa h1 h2).2
    rw [← e] at ha
    unfold ownNum
    rw [ha]
    simp only
    rw [if_pos ⟨e.symm, by simp [bnd31, h1, h2]⟩]
  | none =>
    unfold ownNum
    cases ha : atoiAll l
    · rename_i n
      simp only
      rw [if_neg]
      rintro ⟨e, hb⟩
      simp [bnd31] at hb
      have := (refNum_itoa hb.1 hb.2).1
      rw [e, hr] at this
      cases this
    · rfl
    · rfl
end Go.Proofs.YtfklheagafffmaaGreatDoor

namespace Go.Proofs.YtfklheagafffmaaGreatDoor
open Go.RowKit
def gv0 : GV := ⟨0, 0, ⟨#[]⟩⟩
theorem toList_mk (l : List UInt8) : (⟨l.toArray⟩ : ByteArray).toList = l := by rw [ByteArray.toList_eq]
theorem bytes_back (s : ByteArray) : (⟨s.toList.toArray⟩ : ByteArray) = s := by
  rw [ByteArray.toList_eq]
theorem ba_get {s : ByteArray} {k : Nat} (h : k < s.size) : s.toList[k]? = some (s[k]'h) := by
  rw [ByteArray.toList_eq, List.getElem?_eq_getElem (h := show k < s.data.toList.length from by simpa using h)]
  rfl
theorem ba_len (s : ByteArray) : s.toList.length = s.size := by rw [ByteArray.toList_eq]; rfl
theorem ba_head {s : ByteArray} (h : 0 < s.size) : s.toList.head? = some (s[0]'h) := by
  rw [List.head?_eq_getElem?]; exact ba_get h
def ErrIs (W : World) (g : Nat) : Prop := ∃ tp p, W.cell? ⟨g, 0, none⟩ = some (.iface tp p)
def ErrW (W : World) : Prop := ErrIs W 4 ∧ ErrIs W 5
theorem ErrW.on {W W' : World} (h : ErrW W) (hb : Below W.heap.size W W') : ErrW W' := by
  obtain ⟨⟨t1, p1, h1⟩, ⟨t2, p2, h2⟩⟩ := h
  exact ⟨⟨t1, p1, below_cell hb h1⟩, ⟨t2, p2, below_cell hb h2⟩⟩
def AtoiPost (s : ByteArray) (w : World) (e : Ending) (w' : World) : Prop :=
  ∃ n : Int, ∃ ev : Value, fits n ∧ e = .returned (.tuple #[.int .i64 n, ev]) ∧ Below w.heap.size w w' ∧
    ((Lib.atoiAll s.toList = .ok n ∧ ev = .nilIface) ∨ ((∀ m, Lib.atoiAll s.toList ≠ .ok m) ∧ ∃ T p, ev = .iface T p))
theorem fits_of {n : Int} (h1 : -9223372036854775808 ≤ n) (h2 : n ≤ 9223372036854775807) : fits n := (fits_iff n).2 ⟨h1, h2⟩
theorem atoi_any (s : ByteArray) (hs : s.size ≤ 140737488351232) (w : World) (h : ErrW w) : Calls Tryz.prog 137 #[.string s] w (AtoiPost s w) := by
  obtain ⟨⟨t1, p1, h1⟩, ⟨t2, p2, h2⟩⟩ := h
  have el : s.data.toList = s.toList := (ByteArray.toList_eq s).symm
  cases ha : Lib.atoiAll s.toList
  · rename_i v
    refine (Tryz.strconv_Atoi_ok s (by omega) v (by rw [el]; exact ha) w).mono ?_
    rintro e w' ⟨rfl, hw⟩
    have hb := Lib.atoiAll_bounds ha
    refine ⟨v, .nilIface, fits_of hb.1 hb.2, rfl, ?_, .inl ⟨ha, rfl⟩⟩
    rcases hw with rfl | ⟨t, rfl⟩
    · exact Below.refl _ _
    · exact Lib.bytesWorld_below _ _ _
  · refine (Any.strconv_Atoi_syntax Tryz.laysC172 s (by omega) (by rw [el]; exact ha) _ w h1 (.inr ⟨_, _, rfl⟩)).mono ?_
    rintro e w' ⟨N, rfl, -, -, hb⟩
    exact ⟨0, _, by unfold fits; decide, rfl, hb, .inr ⟨(fun m e => by rw [ha] at e; cases e), _, _, rfl⟩⟩
  · refine (Any.strconv_Atoi_range Tryz.laysC172 s (by omega) (by rw [el]; exact ha) _ w h2 (.inr ⟨_, _, rfl⟩)).mono ?_
    rintro e w' ⟨N, rfl, -, -, hb⟩
    exact ⟨_, _, by unfold Lib.atoiSat; split <;> (unfold fits; decide), rfl, hb, .inr ⟨(fun m e => by rw [ha] at e; cases e), _, _, rfl⟩⟩
end Go.Proofs.YtfklheagafffmaaGreatDoor

namespace Go.Proofs.YtfklheagafffmaaGreatDoor
open Go.ChangeShapes Go.WideShapes Go.ChangeAt Go.RowKit
set_option linter.unusedVariables false
theorem gER : Tryz.prog.globalNamed "strconv.ErrRange" = some 5 := by kernel_rfl
theorem gERT : (Tryz.prog.globals[5]?).map (·.type) = some 77 := by kernel_rfl
theorem gES : Tryz.prog.globalNamed "strconv.ErrSyntax" = some 4 := by kernel_rfl
theorem gEST : (Tryz.prog.globals[4]?).map (·.type) = some 77 := by kernel_rfl
theorem cellsES : Tryz.prog.cellsOf 245 = 1 := by kernel_rfl
theorem cellsStr : Tryz.prog.cellsOf 9 = 1 := by kernel_rfl
theorem starES : "*" ++ "errors.errorString" = "*errors.errorString" := by decide
theorem rowES (u : TypeId) (h : Tryz.prog.typeName? 3 u = some "*errors.errorString") : u = 243 :=
  typeName_ptr_named (nm := "errors.errorString") (by rw [starES]; kernel_rfl) (by kernel_rfl) (by decide) u (by rw [starES]; exact h)
abbrev synS : ByteArray := { data := #[105, 110, 118, 97, 108, 105, 100, 32, 115, 121, 110, 116, 97, 120] }
abbrev rngS : ByteArray := { data := #[118, 97, 108, 117, 101, 32, 111, 117, 116, 32, 111, 102, 32, 114, 97, 110, 103, 101] }
noncomputable def low : Nat := (World.holding Tryz.prog default ⟨#[], #[], []⟩).heap.size
end Go.Proofs.YtfklheagafffmaaGreatDoor

namespace Go.Proofs.YtfklheagafffmaaGreatDoor
def insB (c : UInt8) : Bool := (decide (97 ≤ c.toNat) && decide (c.toNat ≤ 122)) || (decide (65 ≤ c.toNat) && decide (c.toNat ≤ 90)) || (decide (48 ≤ c.toNat) && decide (c.toNat ≤ 57)) || decide (c.toNat = 95)
def blankB (c : UInt8) : Bool := decide (c = 9) || decide (c = 10) || decide (c = 32) || decide (c = 13)
def runL (l : List UInt8) : Nat := (l.takeWhile insB).length
/-- how many bytes are skipped; true: within a note -/
def skipG : Bool → List UInt8 → Nat
  | _, [] => 0
  | true, c :: r => if c = 10 then 1 + skipG false r else 1 + skipG true r
  | false, c :: r => if blankB c then 1 + skipG false r else if c = 37 then 1 + skipG true r else 0
/-- a token: its kind, its text, its place -/
structure GTok where
  k : Int
  t : List UInt8
  a : Nat
deriving DecidableEq
def signsL : List (List UInt8) := [[58, 45], [33, 61], [60, 61], [62, 61], [40], [41], [44], [46], [61], [60], [62], [43], [45], [42]]
/-- the token that a rest begins with: its kind (0: none), its length -/
def tokL (wk : List UInt8 → Int) (l : List UInt8) : Int × Nat :=
  if 0 < runL l ∧ l.head? ≠ some 95 then (wk (l.take (runL l)), runL l) else match signsL.find? (·.isPrefixOf l) with
    | some s => (5, s.length)
    | none => (0, 0)
def lexF (wk : List UInt8 → Int) : Nat → Nat → List UInt8 → List GTok × Option Nat
  | 0, _, _ => ([], none)
  | f + 1, a, l => if l.drop (skipG false l) = [] then ([], none) else
      if (tokL wk (l.drop (skipG false l))).1 = 0 then ([], some (a + skipG false l)) else
        (⟨(tokL wk (l.drop (skipG false l))).1, (l.drop (skipG false l)).take (tokL wk (l.drop (skipG false l))).2, a + skipG false l⟩ ::
          (lexF wk f (a + skipG false l + (tokL wk (l.drop (skipG false l))).2) ((l.drop (skipG false l)).drop (tokL wk (l.drop (skipG false l))).2)).1,
          (lexF wk f (a + skipG false l + (tokL wk (l.drop (skipG false l))).2) ((l.drop (skipG false l)).drop (tokL wk (l.drop (skipG false l))).2)).2)
/-- the tokens of the rest l that begins at a, and the place without one -/
def lexA (wk : List UInt8 → Int) (a : Nat) (l : List UInt8) : List GTok × Option Nat := lexF wk l.length a l
variable {wk : List UInt8 → Int}
theorem skipG_le : ∀ (l : List UInt8) (b : Bool), skipG b l ≤ l.length
  | [], b => by simp [skipG]
  | c :: r, true => by
    unfold skipG
    have h1 := skipG_le r false; have h2 := skipG_le r true
    simp only [List.length_cons]; split <;> omega
  | c :: r, false => by
    unfold skipG
    have h1 := skipG_le r false; have h2 := skipG_le r true
    simp only [List.length_cons]; split
    · omega
    · split <;> omega
theorem runL_le (l : List UInt8) : runL l ≤ l.length := by
  unfold runL
  exact List.Sublist.length_le (List.takeWhile_sublist insB)
theorem sign_mem {l s : List UInt8} (h : signsL.find? (·.isPrefixOf l) = some s) : s ∈ signsL ∧ s <+: l :=
  ⟨List.mem_of_find?_eq_some h, List.isPrefixOf_iff_prefix.1 (by have := List.find?_some h; simpa using this)⟩
theorem sign_pos {s : List UInt8} (h : s ∈ signsL) : 1 ≤ s.length ∧ s.length ≤ 2 := by
  revert s; decide
theorem tokL_len (l : List UInt8) (h : (tokL wk l).1 ≠ 0) : 1 ≤ (tokL wk l).2 ∧ (tokL wk l).2 ≤ l.length := by
  revert h
  unfold tokL
  split
  · rename_i h; intro _; exact ⟨by show 1 ≤ runL l; omega, runL_le l⟩
  · split
    · rename_i s hs
      obtain ⟨h1, h2⟩ := sign_mem hs
      intro _
      exact ⟨(sign_pos h1).1, h2.length_le⟩
    · intro h; simp at h
theorem lexF_fuel : ∀ (f g a : Nat) (l : List UInt8), l.length ≤ f → l.length ≤ g → lexF wk f a l = lexF wk g a l
  | 0, g, a, l, hf, hg => by
    obtain rfl : l = [] := List.eq_nil_of_length_eq_zero (by omega)
    cases g with
    | zero => rfl
    | succ g => simp [lexF]
  | f + 1, 0, a, l, hf, hg => by
    obtain rfl : l = [] := List.eq_nil_of_length_eq_zero (by omega)
    simp [lexF]
  | f + 1, g + 1, a, l, hf, hg => by
    unfold lexF
    split
    · rfl
    · split
      · rfl
      · rename_i h1 h2
        have h3 := tokL_len _ h2
        have h4 : ((l.drop (skipG false l)).drop (tokL wk (l.drop (skipG false l))).2).length ≤ l.length - 1 := by
          simp only [List.length_drop] at h3 ⊢; omega
        rw [lexF_fuel f g _ _ (by omega) (by omega)]
theorem lexA_nil (a : Nat) (l : List UInt8) (h : l.drop (skipG false l) = []) : lexA wk a l = ([], none) := by
  unfold lexA
  cases l with
  | nil => rfl
  | cons c r => simp only [List.length_cons]; unfold lexF; rw [if_pos h]
theorem lexA_bad (a : Nat) (l : List UInt8) (h : l.drop (skipG false l) ≠ []) (h0 : (tokL wk (l.drop (skipG false l))).1 = 0) : lexA wk a l = ([], some (a + skipG false l)) := by
  unfold lexA
  cases l with
  | nil => simp at h
  | cons c r => simp only [List.length_cons]; unfold lexF; rw [if_neg h, if_pos h0]
theorem lexA_tok (a : Nat) (l : List UInt8) (h : l.drop (skipG false l) ≠ []) (h0 : (tokL wk (l.drop (skipG false l))).1 ≠ 0) :
    lexA wk a l = (⟨(tokL wk (l.drop (skipG false l))).1, (l.drop (skipG false l)).take (tokL wk (l.drop (skipG false l))).2, a + skipG false l⟩ ::
      (lexA wk (a + skipG false l + (tokL wk (l.drop (skipG false l))).2) ((l.drop (skipG false l)).drop (tokL wk (l.drop (skipG false l))).2)).1,
      (lexA wk (a + skipG false l + (tokL wk (l.drop (skipG false l))).2) ((l.drop (skipG false l)).drop (tokL wk (l.drop (skipG false l))).2)).2) := by
  have h3 := tokL_len _ h0
  unfold lexA
  cases l with
  | nil => simp at h
  | cons c r =>
    rw [show (c :: r).length = r.length + 1 from rfl]
    conv => lhs; unfold lexF
    rw [if_neg h, if_neg h0]
    have h4 : (((c :: r).drop (skipG false (c :: r))).drop (tokL wk ((c :: r).drop (skipG false (c :: r)))).2).length ≤ r.length := by
      simp only [List.length_drop, List.length_cons] at h3 ⊢; omega
    rw [lexF_fuel r.length _ _ _ h4 (Nat.le_refl _)]
theorem skip_note : ∀ l : List UInt8, skipG true l = (l.takeWhile (· != 10)).length + skipG false (l.drop (l.takeWhile (· != 10)).length)
  | [] => by simp [skipG]
  | c :: r => by
    by_cases h : c = 10
    · subst h; simp [skipG, blankB]
    · have h1 := skip_note r
      rw [skipG, if_neg h, h1]
      simp [h]; omega
theorem lex_places : ∀ (n a : Nat) (l : List UInt8), l.length ≤ n → ∀ q ∈ (lexA wk a l).1, a ≤ q.a ∧ q.a + q.t.length ≤ a + l.length ∧ (l.drop (q.a - a)).take q.t.length = q.t
  | 0, a, l, hn, q, hq => by
    obtain rfl : l = [] := List.eq_nil_of_length_eq_zero (by omega)
    simp [lexA, lexF] at hq
  | n + 1, a, l, hn, q, hq => by
    by_cases h : l.drop (skipG false l) = []
    · rw [lexA_nil _ _ h] at hq; simp at hq
    by_cases h0 : (tokL wk (l.drop (skipG false l))).1 = 0
    · rw [lexA_bad _ _ h h0] at hq; simp at hq
    have h3 := tokL_len _ h0
    rw [lexA_tok _ _ h h0] at hq
    simp only [List.length_drop] at h3
    have h6 := skipG_le l false
    rcases List.mem_cons.1 hq with rfl | hq
    · refine ⟨by simp, ?_, ?_⟩
      · simp only [List.length_take, List.length_drop]; omega
      · simp only [List.length_take, List.length_drop, Nat.add_sub_cancel_left]
        rw [Nat.min_eq_left (by omega)]
    · obtain ⟨q1, q2, q3⟩ := lex_places n _ _ (by simp only [List.length_drop]; omega) q hq
      simp only [List.length_drop] at q2
      refine ⟨by omega, by omega, ?_⟩
      rw [List.drop_drop, List.drop_drop] at q3
      rw [← q3]
      congr 2
      · omega
theorem lex_len : ∀ (n a : Nat) (l : List UInt8), l.length ≤ n → ((lexA wk a l).1.map fun q => q.t.length).sum ≤ l.length ∧ (lexA wk a l).1.length ≤ l.length
  | 0, a, l, hn => by
    obtain rfl : l = [] := List.eq_nil_of_length_eq_zero (by omega)
    simp [lexA, lexF]
  | n + 1, a, l, hn => by
    by_cases h : l.drop (skipG false l) = []
    · rw [lexA_nil _ _ h]; simp
    by_cases h0 : (tokL wk (l.drop (skipG false l))).1 = 0
    · rw [lexA_bad _ _ h h0]; simp
    have h3 := tokL_len _ h0
    simp only [List.length_drop] at h3
    have h6 := skipG_le l false
    obtain ⟨q1, q2⟩ := lex_len n (a + skipG false l + (tokL wk (l.drop (skipG false l))).2) ((l.drop (skipG false l)).drop (tokL wk (l.drop (skipG false l))).2) (by simp only [List.length_drop]; omega)
    rw [lexA_tok _ _ h h0]
    simp only [List.length_drop] at q1 q2
    simp only [List.map_cons, List.sum_cons, List.length_cons, List.length_take, List.length_drop]
    omega
def TextOf (wk : List UInt8 → Int) (q : Int) (t : List UInt8) : Prop := q ≠ 0 ∧ ((q = wk t ∧ t ≠ [] ∧ (∀ c ∈ t, insB c = true) ∧ t.head? ≠ some 95) ∨ (q = 5 ∧ t ∈ signsL))
theorem takeWhile_all {p : UInt8 → Bool} : ∀ (l : List UInt8) (c : UInt8), c ∈ l.takeWhile p → p c = true
  | [], c, h => by simp at h
  | d :: r, c, h => by
    rw [List.takeWhile_cons] at h
    split at h
    · rcases List.mem_cons.1 h with rfl | h
      · assumption
      · exact takeWhile_all r c h
    · simp at h
theorem take_run (l : List UInt8) : l.take (runL l) = l.takeWhile insB := by
  unfold runL
  exact (List.prefix_iff_eq_take.1 (List.takeWhile_prefix insB)).symm
theorem tok_text (l : List UInt8) (h : (tokL wk l).1 ≠ 0) : TextOf wk (tokL wk l).1 (l.take (tokL wk l).2) := by
  refine ⟨h, ?_⟩
  revert h
  unfold tokL
  split
  · rename_i h
    intro _
    refine .inl ⟨rfl, ?_, ?_, ?_⟩
    · intro he
      have := congrArg List.length he
      have h2 := runL_le l
      simp only [List.length_take, List.length_nil] at this; omega
    · intro c hc
      simp only [take_run] at hc
      exact takeWhile_all _ _ hc
    · cases l with
      | nil => simp [runL] at h
      | cons c r =>
        have h1 := h.1
        have h2 := h.2
        obtain ⟨k, hk⟩ : ∃ k, runL (c :: r) = k + 1 := ⟨runL (c :: r) - 1, by omega⟩
        simp only [hk, List.take_succ_cons]
        simpa using h2
  · split
    · rename_i s hs
      obtain ⟨h1, h2⟩ := sign_mem hs
      intro _
      refine .inr ⟨rfl, ?_⟩
      show l.take s.length ∈ signsL
      rw [← List.prefix_iff_eq_take.1 h2]; exact h1
    · intro h; simp at h
theorem lex_texts : ∀ (n a : Nat) (l : List UInt8), l.length ≤ n → ∀ q ∈ (lexA wk a l).1, TextOf wk q.k q.t
  | 0, a, l, hn, q, hq => by
    obtain rfl : l = [] := List.eq_nil_of_length_eq_zero (by omega)
    simp [lexA, lexF] at hq
  | n + 1, a, l, hn, q, hq => by
    by_cases h : l.drop (skipG false l) = []
    · rw [lexA_nil _ _ h] at hq; simp at hq
    by_cases h0 : (tokL wk (l.drop (skipG false l))).1 = 0
    · rw [lexA_bad _ _ h h0] at hq; simp at hq
    have h3 := tokL_len _ h0
    rw [lexA_tok _ _ h h0] at hq
    simp only [List.length_drop] at h3
    rcases List.mem_cons.1 hq with rfl | hq
    · exact tok_text _ h0
    · exact lex_texts n _ _ (by simp only [List.length_drop]; omega) q hq
theorem skip_idem : ∀ (l : List UInt8) (b : Bool), skipG false (l.drop (skipG b l)) = 0
  | [], b => by simp [skipG]
  | c :: r, true => by
    have h1 := skip_idem r false; have h2 := skip_idem r true
    by_cases h : c = 10
    · have e : skipG true (c :: r) = skipG false r + 1 := by simp [skipG, h]; omega
      rw [e, List.drop_succ_cons, h1]
    · have e : skipG true (c :: r) = skipG true r + 1 := by simp [skipG, h]; omega
      rw [e, List.drop_succ_cons, h2]
  | c :: r, false => by
    have h1 := skip_idem r false; have h2 := skip_idem r true
    by_cases h : blankB c = true
    · have e : skipG false (c :: r) = skipG false r + 1 := by simp [skipG, h]; omega
      rw [e, List.drop_succ_cons, h1]
    · by_cases h3 : c = 37
      · have h4 : blankB 37 = false := by decide
        have e : skipG false (c :: r) = skipG true r + 1 := by simp [skipG, h3, h4]; omega
        rw [e, List.drop_succ_cons, h2]
      · have e : skipG false (c :: r) = 0 := by simp [skipG, h, h3]
        rw [e]; exact e
theorem lexA_adv {l : List UInt8} {k : Nat} (hk : skipG false l = k + skipG false (l.drop k)) (a : Nat) : lexA wk a l = lexA wk (a + k) (l.drop k) := by
  have e : l.drop (skipG false l) = (l.drop k).drop (skipG false (l.drop k)) := by rw [List.drop_drop, ← hk]
  have e2 : a + skipG false l = a + k + skipG false (l.drop k) := by omega
  by_cases h : l.drop (skipG false l) = []
  · rw [lexA_nil a l h, lexA_nil (a + k) (l.drop k) (by rw [← e]; exact h)]
  by_cases h0 : (tokL wk (l.drop (skipG false l))).1 = 0
  · rw [lexA_bad a l h h0, lexA_bad (a + k) (l.drop k) (by rw [← e]; exact h) (by rw [← e]; exact h0), e2]
  · rw [lexA_tok a l h h0, lexA_tok (a + k) (l.drop k) (by rw [← e]; exact h) (by rw [← e]; exact h0), e2, e]
theorem lexA_skip (l : List UInt8) (a : Nat) : lexA wk a l = lexA wk (a + skipG false l) (l.drop (skipG false l)) := lexA_adv (by rw [skip_idem]; rfl) a
/-- at a token's place -/
theorem lexA_at {l : List UInt8} (hl : l ≠ []) (hs : skipG false l = 0) (a : Nat) :
    lexA wk a l = if (tokL wk l).1 = 0 then ([], some a) else
      (⟨(tokL wk l).1, l.take (tokL wk l).2, a⟩ :: (lexA wk (a + (tokL wk l).2) (l.drop (tokL wk l).2)).1, (lexA wk (a + (tokL wk l).2) (l.drop (tokL wk l).2)).2) := by
  have e : l.drop (skipG false l) = l := by rw [hs]; rfl
  split
  · rename_i h; rw [lexA_bad _ _ (by rw [e]; exact hl) (by rw [e]; exact h), hs]; rfl
  · rename_i h; rw [lexA_tok _ _ (by rw [e]; exact hl) (by rw [e]; exact h), e, hs]; rfl
theorem skip_one {c : UInt8} {r : List UInt8} (h : blankB c = true) : skipG false (c :: r) = 1 + skipG false r := by simp [skipG, h]
theorem skip_per (r : List UInt8) : skipG false (37 :: r) = ((37 :: r).takeWhile (· != 10)).length + skipG false ((37 :: r).drop ((37 :: r).takeWhile (· != 10)).length) := by
  have h4 : blankB 37 = false := by decide
  rw [show skipG false (37 :: r) = 1 + skipG true r by simp [skipG, h4], skip_note r]
  simp; omega
theorem skip_zero {c : UInt8} {r : List UInt8} (h : blankB c = false) (h2 : c ≠ 37) : skipG false (c :: r) = 0 := by simp [skipG, h, h2]
end Go.Proofs.YtfklheagafffmaaGreatDoor

namespace Go.Proofs.YtfklheagafffmaaGreatDoor
open Go.RowKit
theorem ba_ext (s : ByteArray) (a b : Nat) : (s.extract a b).toList = (s.toList.take b).drop a := by
  rw [ByteArray.toList_eq, ByteArray.toList_eq, ByteArray.data_extract, Array.toList_extract]
  show List.take (b - a) (s.data.toList.drop a) = _
  rw [List.drop_take]
theorem ba_drop (s : ByteArray) (a : Nat) : (s.extract a s.size).toList = s.toList.drop a := by
  rw [ba_ext, List.take_of_length_le (by rw [ba_len]; exact Nat.le_refl _)]
theorem ba_take (s : ByteArray) (b : Nat) : (s.extract 0 b).toList = s.toList.take b := by rw [ba_ext]; rfl
theorem ba_eq {s : ByteArray} {l : List UInt8} (h : s.toList = l) : s = ⟨l.toArray⟩ := by rw [← h]; exact (bytes_back s).symm
def greatB (n : Nat) : Bool := decide (65 ≤ n) && decide (n ≤ 90)
def figB (n : Nat) : Bool := decide (48 ≤ n) && decide (n ≤ 57)
theorem insB_eq (c : UInt8) : insB c = (lowB c.toNat || greatB c.toNat || figB c.toNat || decide (c.toNat = 95)) := rfl
set_option maxRecDepth 100000 in
theorem small_any (r : Nat) (w : World) : Calls Tryz.prog 163 #[.int .u8 r] w (RetSameB (lowB r) w) := by
  by_cases h1 : (97 : Int) ≤ r <;> by_cases h2 : (r : Int) ≤ 122 <;> (try (exfalso; omega))
  all_goals
    go_enter Tryz.func163, Tryz.ntmps163
    go_wp2
    go_ret
    exact ⟨by simp [lowB]; omega, rfl⟩
set_option maxRecDepth 100000 in
theorem great_any (r : Nat) (w : World) : Calls Tryz.prog 164 #[.int .u8 r] w (RetSameB (greatB r) w) := by
  by_cases h1 : (65 : Int) ≤ r <;> by_cases h2 : (r : Int) ≤ 90 <;> (try (exfalso; omega))
  all_goals
    go_enter Tryz.func164, Tryz.ntmps164
    go_wp2
    go_ret
    exact ⟨by simp [greatB]; omega, rfl⟩
set_option maxRecDepth 100000 in
theorem figure_any (r : Nat) (w : World) : Calls Tryz.prog 165 #[.int .u8 r] w (RetSameB (figB r) w) := by
  by_cases h1 : (48 : Int) ≤ r <;> by_cases h2 : (r : Int) ≤ 57 <;> (try (exfalso; omega))
  all_goals
    go_enter Tryz.func165, Tryz.ntmps165
    go_wp2
    go_ret
    exact ⟨by simp [figB]; omega, rfl⟩
theorem ins_run : ∀ (l : List UInt8) (k : Nat) (c : UInt8), k ≤ runL l → l[k]? = some c → insB c = true → k + 1 ≤ runL l
  | [], k, c, h, hc, hi => by simp at hc
  | d :: r, 0, c, h, hc, hi => by
    simp at hc; subst hc
    simp [runL, hi]
  | d :: r, k + 1, c, h, hc, hi => by
    unfold runL at h ⊢
    rw [List.takeWhile_cons] at h ⊢
    cases hd : insB d with
    | false => rw [hd] at h; simp at h
    | true =>
      rw [hd] at h
      simp only [if_true, List.length_cons] at h ⊢
      have := ins_run r k c (by unfold runL; omega) (by simpa using hc) hi
      unfold runL at this; omega
theorem run_out : ∀ (l : List UInt8) (k : Nat) (c : UInt8), k ≤ runL l → l[k]? = some c → insB c = false → runL l = k
  | [], k, c, h, hc, hi => by simp at hc
  | d :: r, 0, c, h, hc, hi => by
    simp at hc; subst hc
    simp [runL, hi]
  | d :: r, k + 1, c, h, hc, hi => by
    unfold runL at h ⊢
    rw [List.takeWhile_cons] at h ⊢
    cases hd : insB d with
    | false => rw [hd] at h; simp at h
    | true =>
      rw [hd] at h
      simp only [if_true, List.length_cons] at h ⊢
      have := run_out r k c (by unfold runL; omega) (by simpa using hc) hi
      unfold runL at this; omega
def RetSame' (n : Int) (w : World) (e : Ending) (w' : World) : Prop := e = .returned (.int .i64 n) ∧ w' = w
set_option maxRecDepth 100000 in
set_option maxHeartbeats 2000000 in
theorem run_any (s : ByteArray) (hs : s.size ≤ 140737488351232) (w : World) : Calls Tryz.prog 150 #[.string s] w (RetSame' (runL s.toList) w) := by
  have Hle := Lib.hid (runL_le s.toList)
  have Hlen := Lib.hid (ba_len s)
  obtain ⟨R, HR⟩ : ∃ R, Hid (R = runL s.toList) := ⟨_, rfl⟩
  rw [← HR.out]
  have Hs := Lib.hid (fun r => small_any r w)
  have Hg := Lib.hid (fun r => great_any r w)
  have Hf := Lib.hid (fun r => figure_any r w)
  go_enter Tryz.func150, Tryz.ntmps150
  go_wp2
  go_loop [3] (fun i => ∃ k : Nat, k ≤ s.size ∧ i = .int .i64 k ∧ Hid (k ≤ runL s.toList)) (fun i => s.size - (intOf i).toNat)
  case atStart => exact ⟨0, by omega, rfl, Nat.zero_le _⟩
  case round =>
    obtain ⟨k, hk, rfl, HK⟩ := hrel
    by_cases hlt : k < s.size
    · have i0 : (0 : Int) ≤ (k : Int) := by omega
      have i1 : (k : Int) < (s.size : Int) := by omega
      have Hc := Lib.hid (ba_get hlt)
      have HN : Hid (insB (s[k]'hlt) = true → k + 1 ≤ runL s.toList) := fun h => ins_run _ _ _ HK.out Hc.out h
      have HF : Hid (insB (s[k]'hlt) = false → R = k) := fun h => by rw [HR.out]; exact run_out _ _ _ HK.out Hc.out h
      have HE := Lib.hid (insB_eq (s[k]'hlt))
      cases h1 : lowB (s[k]'hlt).toNat with
      | true =>
        have HI : Hid (insB (s[k]'hlt) = true) := by show _ = _; rw [HE.out]; simp [h1]
        go_wp2_with (go_at_call 163; refine (Hs.out _).mono ?_; rintro e w1 ⟨rfl, rfl⟩)
        go_round
        case rel => exact ⟨k + 1, by omega, by go_num, HN.out HI.out⟩
        case measure => simp [intOf]; omega
      | false =>
      cases h2 : greatB (s[k]'hlt).toNat with
      | true =>
        have HI : Hid (insB (s[k]'hlt) = true) := by show _ = _; rw [HE.out]; simp [h2]
        go_wp2_with (first | (go_at_call 163; refine (Hs.out _).mono ?_; rintro e w1 ⟨rfl, rfl⟩) | (go_at_call 164; refine (Hg.out _).mono ?_; rintro e w1 ⟨rfl, rfl⟩))
        go_round
        case rel => exact ⟨k + 1, by omega, by go_num, HN.out HI.out⟩
        case measure => simp [intOf]; omega
      | false =>
      cases h3 : figB (s[k]'hlt).toNat with
      | true =>
        have HI : Hid (insB (s[k]'hlt) = true) := by show _ = _; rw [HE.out]; simp [h3]
        go_wp2_with (first | (go_at_call 163; refine (Hs.out _).mono ?_; rintro e w1 ⟨rfl, rfl⟩) | (go_at_call 164; refine (Hg.out _).mono ?_; rintro e w1 ⟨rfl, rfl⟩) | (go_at_call 165; refine (Hf.out _).mono ?_; rintro e w1 ⟨rfl, rfl⟩))
        go_round
        case rel => exact ⟨k + 1, by omega, by go_num, HN.out HI.out⟩
        case measure => simp [intOf]; omega
      | false =>
      by_cases h4 : (s[k]'hlt).toNat = 95
      · have HI : Hid (insB (s[k]'hlt) = true) := by show _ = _; rw [HE.out]; simp [h4]
        have z5 : (((s[k]'hlt).toNat : Int) == 95) = true := by simp; omega
        clear h4
        go_wp2_with (first | (go_at_call 163; refine (Hs.out _).mono ?_; rintro e w1 ⟨rfl, rfl⟩) | (go_at_call 164; refine (Hg.out _).mono ?_; rintro e w1 ⟨rfl, rfl⟩) | (go_at_call 165; refine (Hf.out _).mono ?_; rintro e w1 ⟨rfl, rfl⟩))
        go_round
        case rel => exact ⟨k + 1, by omega, by go_num, HN.out HI.out⟩
        case measure => simp [intOf]; omega
      · have HI : Hid (insB (s[k]'hlt) = false) := by show _ = _; rw [HE.out]; simp [h1, h2, h3, h4]
        have z5 : (((s[k]'hlt).toNat : Int) == 95) = false := by simp; omega
        clear h4
        go_wp2_with (first | (go_at_call 163; refine (Hs.out _).mono ?_; rintro e w1 ⟨rfl, rfl⟩) | (go_at_call 164; refine (Hg.out _).mono ?_; rintro e w1 ⟨rfl, rfl⟩) | (go_at_call 165; refine (Hf.out _).mono ?_; rintro e w1 ⟨rfl, rfl⟩))
        go_ret
        exact ⟨by rw [HF.out HI.out]; rfl, rfl⟩
    · have i1 : ¬ (k : Int) < (s.size : Int) := by omega
      have HE : Hid (R = k) := by
        show _ = _
        have h1 := HK.out; have h2 := Hle.out; have h3 := Hlen.out; have h4 := HR.out
        omega
      go_wp2_with fail
      go_ret
      exact ⟨by rw [HE.out]; rfl, rfl⟩
end Go.Proofs.YtfklheagafffmaaGreatDoor
