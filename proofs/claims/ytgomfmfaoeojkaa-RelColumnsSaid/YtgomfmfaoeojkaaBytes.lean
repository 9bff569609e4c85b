/- The order of texts, byte by byte, and of values: plain laws. -/
import Derived.Test.YtgomfmfaoeojkaaBase
namespace Go.Proofs.Ytgomfmfaoeojkaa
open Go.RowKit

theorem bl_irrefl : ∀ x : List UInt8, Op.bytesLess x x = false
  | [] => rfl
  | a :: x => by simp [Op.bytesLess, bl_irrefl x]
theorem bl_cons (a b : UInt8) (x y : List UInt8) : Op.bytesLess (a :: x) (b :: y) = true ↔ a.toNat < b.toNat ∨ (a.toNat = b.toNat ∧ Op.bytesLess x y = true) := by
  simp only [Op.bytesLess, Bool.or_eq_true, decide_eq_true_eq, Bool.and_eq_true, beq_iff_eq, UInt8.lt_iff_toNat_lt, UInt8.toNat_inj]
theorem bl_asymm : ∀ x y : List UInt8, Op.bytesLess x y = true → Op.bytesLess y x = false
  | _, [], h => by simp [Op.bytesLess] at h
  | [], _ :: _, _ => by simp [Op.bytesLess]
  | a :: x, b :: y, h => by
    rw [bl_cons] at h
    rw [Bool.eq_false_iff]
    intro h2
    rw [bl_cons] at h2
    rcases h with h | ⟨h, hxy⟩
    · rcases h2 with h2 | ⟨h2, _⟩ <;> omega
    · rcases h2 with h2 | ⟨_, h2⟩
      · omega
      · rw [bl_asymm x y hxy] at h2; cases h2
theorem bl_total : ∀ x y : List UInt8, Op.bytesLess x y = false → Op.bytesLess y x = false → x = y
  | [], [], _, _ => rfl
  | [], _ :: _, h, _ => by simp [Op.bytesLess] at h
  | _ :: _, [], _, h => by simp [Op.bytesLess] at h
  | a :: x, b :: y, h1, h2 => by
    rw [Bool.eq_false_iff] at h1 h2
    have h1' := fun h => h1 ((bl_cons a b x y).2 h)
    have h2' := fun h => h2 ((bl_cons b a y x).2 h)
    have hab : a.toNat = b.toNat := by
      rcases Nat.lt_trichotomy a.toNat b.toNat with h | h | h
      · exact absurd (.inl h) h1'
      · exact h
      · exact absurd (.inl h) h2'
    have hx : Op.bytesLess x y = false := by
      rw [Bool.eq_false_iff]; intro h; exact h1' (.inr ⟨hab, h⟩)
    have hy : Op.bytesLess y x = false := by
      rw [Bool.eq_false_iff]; intro h; exact h2' (.inr ⟨hab.symm, h⟩)
    rw [bl_total x y hx hy, UInt8.toNat_inj.1 hab]
theorem bl_trans : ∀ x y z : List UInt8, Op.bytesLess x y = true → Op.bytesLess y z = true → Op.bytesLess x z = true
  | _, [], _, h, _ => by simp [Op.bytesLess] at h
  | _, _ :: _, [], _, h => by simp [Op.bytesLess] at h
  | [], _ :: _, _ :: _, _, _ => by simp [Op.bytesLess]
  | a :: x, b :: y, c :: z, h1, h2 => by
    rw [bl_cons] at h1 h2 ⊢
    rcases h1 with h1 | ⟨h1, hxy⟩
    · rcases h2 with h2 | ⟨h2, _⟩
      · left; omega
      · left; omega
    · rcases h2 with h2 | ⟨h2, hyz⟩
      · left; omega
      · right; exact ⟨by omega, bl_trans x y z hxy hyz⟩

/-- a value stands ahead of another -/
def lessV (a b : GV) : Bool := if a.k = b.k then (if a.n = b.n then Op.bytesLess a.s.toList b.s.toList else decide (a.n < b.n)) else decide (a.k < b.k)
def cmpV (a b : GV) : Int := if lessV b a then 1 else if lessV a b then -1 else 0
theorem lessV_asymm {a b : GV} (h : lessV a b = true) : lessV b a = false := by
  unfold lessV at h ⊢
  by_cases h1 : a.k = b.k
  · rw [if_pos h1] at h
    rw [if_pos h1.symm]
    by_cases h2 : a.n = b.n
    · rw [if_pos h2] at h
      rw [if_pos h2.symm]
      exact bl_asymm _ _ h
    · rw [if_neg h2] at h
      rw [if_neg (Ne.symm h2)]
      simp at h ⊢; omega
  · rw [if_neg h1] at h
    rw [if_neg (Ne.symm h1)]
    simp at h ⊢; omega
theorem lessV_total {a b : GV} (h1 : lessV a b = false) (h2 : lessV b a = false) : a = b := by
  unfold lessV at h1 h2
  by_cases e1 : a.k = b.k
  · rw [if_pos e1] at h1
    rw [if_pos e1.symm] at h2
    by_cases e2 : a.n = b.n
    · rw [if_pos e2] at h1
      rw [if_pos e2.symm] at h2
      have e3 := (toList_inj _ _).1 (bl_total _ _ h1 h2)
      cases a; cases b; simp_all
    · rw [if_neg e2] at h1
      rw [if_neg (Ne.symm e2)] at h2
      simp at h1 h2; omega
  · rw [if_neg e1] at h1
    rw [if_neg (Ne.symm e1)] at h2
    simp at h1 h2; omega
theorem lessV_trans {a b c : GV} (h1 : lessV a b = true) (h2 : lessV b c = true) : lessV a c = true := by
  unfold lessV at h1 h2 ⊢
  by_cases e1 : a.k = b.k <;> by_cases e2 : b.k = c.k
  · rw [if_pos e1] at h1
    rw [if_pos e2] at h2
    rw [if_pos (e1.trans e2)]
    by_cases f1 : a.n = b.n <;> by_cases f2 : b.n = c.n
    · rw [if_pos f1] at h1; rw [if_pos f2] at h2; rw [if_pos (f1.trans f2)]; exact bl_trans _ _ _ h1 h2
    · rw [if_neg f2] at h2; rw [if_neg (by omega)]; simp at h2 ⊢; omega
    · rw [if_neg f1] at h1; rw [if_neg (by omega)]; simp at h1 ⊢; omega
    · rw [if_neg f1] at h1; rw [if_neg f2] at h2; simp at h1 h2; rw [if_neg (by omega)]; simp; omega
  · rw [if_neg e2] at h2; rw [if_neg (by omega)]; simp at h2 ⊢; omega
  · rw [if_neg e1] at h1; rw [if_neg (by omega)]; simp at h1 ⊢; omega
  · rw [if_neg e1] at h1; rw [if_neg e2] at h2; simp at h1 h2; rw [if_neg (by omega)]; simp; omega
theorem cmpV_neg (a b : GV) : cmpV b a = -cmpV a b := by
  unfold cmpV
  cases h1 : lessV a b with
  | true => rw [lessV_asymm h1]; simp
  | false => cases h2 : lessV b a <;> simp
theorem cmpV_zero (a b : GV) : cmpV a b = 0 ↔ a = b := by
  unfold cmpV
  cases h1 : lessV b a with
  | true =>
    simp
    intro e; subst e
    rw [lessV_asymm h1] at h1; cases h1
  | false =>
    cases h2 : lessV a b with
    | true => simp; intro e; subst e; rw [h1] at h2; cases h2
    | false => simp; exact lessV_total h2 h1
theorem cmpV_le (a b : GV) : cmpV a b ≤ 0 ↔ lessV b a = false := by
  unfold cmpV
  cases h1 : lessV b a with
  | true => simp
  | false => cases h2 : lessV a b <;> simp
theorem cmpV_trans {a b c : GV} (h1 : cmpV a b ≤ 0) (h2 : cmpV b c ≤ 0) : cmpV a c ≤ 0 := by
  rw [cmpV_le] at h1 h2 ⊢
  cases h3 : lessV c a with
  | false => rfl
  | true =>
    exfalso
    cases h4 : lessV a b with
    | true => rw [lessV_trans h3 h4] at h2; cases h2
    | false =>
      have e := lessV_total h4 h1
      subst e
      rw [h3] at h2; cases h2
end Go.Proofs.Ytgomfmfaoeojkaa
