/- The order of tuples: plain, nothing of any program. -/
import Derived.Test.YtgomfmfaoeojkaaBytes
import Derived.Test.YtgomfmfaoeojkaaNum
namespace Go.Proofs.Ytgomfmfaoeojkaa
open Go.RowKit

/-- tuples held against each other -/
def cmpL : List GV → List GV → Int
  | [], [] => 0
  | [], _ :: _ => -1
  | _ :: _, [] => 1
  | a :: l, b :: m => if cmpV a b = 0 then cmpL l m else cmpV a b
/-- which tuple stands ahead -/
def lessL : List GV → List GV → Bool
  | [], [] => false
  | [], _ :: _ => true
  | _ :: _, [] => false
  | a :: l, b :: m => if a = b then lessL l m else lessV a b

theorem cmpV_cases (a b : GV) : cmpV a b = -1 ∨ cmpV a b = 0 ∨ cmpV a b = 1 := by
  unfold cmpV; split
  · exact .inr (.inr rfl)
  · split
    · exact .inl rfl
    · exact .inr (.inl rfl)
theorem cmpL_cases : ∀ l m : List GV, cmpL l m = -1 ∨ cmpL l m = 0 ∨ cmpL l m = 1
  | [], [] => .inr (.inl rfl)
  | [], _ :: _ => .inl rfl
  | _ :: _, [] => .inr (.inr rfl)
  | a :: l, b :: m => by
    simp only [cmpL]
    split
    · exact cmpL_cases l m
    · exact cmpV_cases a b
theorem cmpL_neg : ∀ l m : List GV, cmpL m l = -cmpL l m
  | [], [] => rfl
  | [], _ :: _ => rfl
  | _ :: _, [] => rfl
  | a :: l, b :: m => by
    simp only [cmpL]
    have h := cmpV_neg a b
    by_cases h0 : cmpV a b = 0
    · rw [if_pos h0, if_pos (by omega)]; exact cmpL_neg l m
    · rw [if_neg h0, if_neg (by omega)]; exact h
theorem cmpL_zero : ∀ l m : List GV, cmpL l m = 0 ↔ l = m
  | [], [] => by simp [cmpL]
  | [], _ :: _ => by simp [cmpL]
  | _ :: _, [] => by simp [cmpL]
  | a :: l, b :: m => by
    simp only [cmpL, List.cons.injEq]
    have h := cmpV_zero a b
    have ih := cmpL_zero l m
    by_cases h0 : cmpV a b = 0
    · rw [if_pos h0, ih]; exact ⟨fun e => ⟨h.1 h0, e⟩, fun e => e.2⟩
    · rw [if_neg h0]; exact ⟨fun e => absurd e h0, fun e => absurd (h.2 e.1) h0⟩
theorem cmpV_lt_trans {a b c : GV} (h1 : cmpV a b ≤ 0) (h2 : cmpV b c ≤ 0) (h : cmpV a c = 0) : cmpV a b = 0 ∧ cmpV b c = 0 := by
  have e := (cmpV_zero a c).1 h
  subst e
  have := cmpV_neg a b
  omega
theorem cmpL_trans : ∀ l m k : List GV, cmpL l m ≤ 0 → cmpL m k ≤ 0 → cmpL l k ≤ 0
  | [], [], _, _, h => h
  | [], _ :: _, [], _, h => by simp [cmpL] at h
  | [], _ :: _, _ :: _, _, _ => by simp [cmpL]
  | _ :: _, [], _, h, _ => by simp [cmpL] at h
  | _ :: _, _ :: _, [], _, h => by simp [cmpL] at h
  | a :: l, b :: m, c :: k, h1, h2 => by
    simp only [cmpL] at h1 h2 ⊢
    by_cases hab : cmpV a b = 0
    · rw [if_pos hab] at h1
      have e := (cmpV_zero a b).1 hab
      subst e
      by_cases hbc : cmpV a c = 0
      · rw [if_pos hbc] at h2 ⊢
        exact cmpL_trans l m k h1 h2
      · rw [if_neg hbc] at h2 ⊢
        exact h2
    · rw [if_neg hab] at h1
      by_cases hbc : cmpV b c = 0
      · have e := (cmpV_zero b c).1 hbc
        subst e
        rw [if_neg hab]
        exact h1
      · rw [if_neg hbc] at h2
        have h3 := cmpV_trans h1 h2
        by_cases hac : cmpV a c = 0
        · exact absurd (cmpV_lt_trans h1 h2 hac).1 hab
        · rw [if_neg hac]; exact h3
theorem lessV_cmp (a b : GV) (h : a ≠ b) : lessV a b = decide (cmpV a b < 0) := by
  have h0 : cmpV a b ≠ 0 := fun e => h ((cmpV_zero a b).1 e)
  unfold cmpV at h0 ⊢
  cases h1 : lessV b a with
  | true => rw [lessV_asymm h1]; simp
  | false =>
    cases h2 : lessV a b with
    | true => simp
    | false => simp [h1, h2] at h0
theorem lessL_cmp : ∀ l m : List GV, lessL l m = decide (cmpL l m < 0)
  | [], [] => rfl
  | [], _ :: _ => rfl
  | _ :: _, [] => rfl
  | a :: l, b :: m => by
    by_cases h : a = b
    · rw [show cmpL (a :: l) (b :: m) = cmpL l m by simp only [cmpL]; rw [if_pos ((cmpV_zero a b).2 h)], show lessL (a :: l) (b :: m) = lessL l m by simp only [lessL]; rw [if_pos h]]
      exact lessL_cmp l m
    · rw [show cmpL (a :: l) (b :: m) = cmpV a b by simp only [cmpL]; rw [if_neg (fun e => h ((cmpV_zero a b).1 e))], show lessL (a :: l) (b :: m) = lessV a b by simp only [lessL]; rw [if_neg h]]
      exact lessV_cmp a b h
theorem cmpL_of_less (l m : List GV) : cmpL l m = if lessL m l = true then 1 else if lessL l m = true then -1 else 0 := by
  rw [lessL_cmp, lessL_cmp]
  have h1 := cmpL_neg l m
  rcases cmpL_cases l m with h | h | h
  all_goals (rw [h1, h]; simp)
theorem sameL (l m : List GV) : (!lessL l m && !lessL m l) = decide (l = m) := by
  have h1 := cmpL_neg l m
  have h2 := cmpL_zero l m
  rw [lessL_cmp, lessL_cmp, h1]
  rw [Bool.eq_iff_iff]
  simp only [Bool.and_eq_true, Bool.not_eq_true', decide_eq_false_iff_not, decide_eq_true_eq, ← h2]
  omega

/-! piece by piece, as the programs go -/
theorem cmpL_take {l m : List GV} {k : Nat} (hk : l.take k = m.take k) : k ≤ l.length → k ≤ m.length → cmpL l m = cmpL (l.drop k) (m.drop k) := by
  induction k generalizing l m with
  | zero => intros; rfl
  | succ k ih =>
    intro h1 h2
    cases l with
    | nil => simp at h1
    | cons a l =>
      cases m with
      | nil => simp at h2
      | cons b m =>
        simp only [List.take_succ_cons, List.cons.injEq] at hk
        obtain ⟨rfl, hk⟩ := hk
        simp only [cmpL, List.drop_succ_cons, if_pos ((cmpV_zero a a).2 rfl)]
        exact ih hk (by simpa using h1) (by simpa using h2)
theorem cmpL_at {l m : List GV} {k : Nat} {a b : GV} (hk : l.take k = m.take k) (ha : l[k]? = some a) (hb : m[k]? = some b) (h0 : cmpV a b ≠ 0) : cmpL l m = cmpV a b := by
  have h1 : k < l.length := (List.getElem?_eq_some_iff.1 ha).1
  have h2 : k < m.length := (List.getElem?_eq_some_iff.1 hb).1
  rw [cmpL_take hk (by omega) (by omega), List.drop_eq_getElem_cons h1, List.drop_eq_getElem_cons h2]
  have ea : l[k] = a := by rw [List.getElem?_eq_getElem h1] at ha; simpa using ha
  have eb : m[k] = b := by rw [List.getElem?_eq_getElem h2] at hb; simpa using hb
  simp only [cmpL, ea, eb, if_neg h0]
theorem cmpL_long {l m : List GV} (hk : l.take m.length = m) (h : m.length < l.length) : cmpL l m = 1 := by
  rw [cmpL_take (k := m.length) (by rw [hk, List.take_length]) (by omega) (Nat.le_refl _), List.drop_length]
  cases hd : l.drop m.length with
  | nil => have := congrArg List.length hd; simp at this; omega
  | cons => rfl
theorem cmpL_short {l m : List GV} (hk : l = m.take l.length) (h : l.length < m.length) : cmpL l m = -1 := by
  have := cmpL_long hk.symm h
  have h2 := cmpL_neg m l
  omega
theorem lessL_at {l m : List GV} {k : Nat} {a b : GV} (hk : l.take k = m.take k) (ha : l[k]? = some a) (hb : m[k]? = some b) (h0 : a ≠ b) : lessL l m = lessV a b := by
  rw [lessL_cmp, cmpL_at hk ha hb (fun e => h0 ((cmpV_zero a b).1 e)), lessV_cmp a b h0]
theorem lessL_end {l m : List GV} {k : Nat} (hk : l.take k = m.take k) (h1 : k ≤ l.length) (h2 : k ≤ m.length) (h : k = l.length ∨ k = m.length) : lessL l m = decide (l.length < m.length) := by
  rw [lessL_cmp]
  rcases h with h | h
  · rw [h, List.take_length] at hk
    by_cases hlt : l.length < m.length
    · rw [cmpL_short hk hlt]; simp [hlt]
    · have e : l = m := by rw [hk]; exact List.take_of_length_le (by omega)
      rw [(cmpL_zero l m).2 e]; simp [hlt]
  · rw [h, List.take_length] at hk
    by_cases hlt : m.length < l.length
    · rw [cmpL_long hk hlt]; simp; omega
    · have e : l = m := by rw [← hk]; exact (List.take_of_length_le (by omega)).symm
      rw [(cmpL_zero l m).2 e, e]; simp
theorem take_same {l m : List GV} {k : Nat} {a : GV} (hk : l.take k = m.take k) (ha : l[k]? = some a) (hb : m[k]? = some a) : l.take (k + 1) = m.take (k + 1) := by
  rw [List.take_add_one, List.take_add_one, hk, ha, hb]
end Go.Proofs.Ytgomfmfaoeojkaa
