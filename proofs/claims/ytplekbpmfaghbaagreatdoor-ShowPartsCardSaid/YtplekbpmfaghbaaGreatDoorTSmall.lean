/- Expressions that are not too large: how many kids and terms there are. Nothing of any program. -/
import Derived.Test.YtplekbpmfaghbaaGreatDoorExpTerms
namespace Go.Proofs.YtplekbpmfaghbaaGreatDoor
open Go.RowKit

theorem szL_pos : ∀ (ks : List GExp) (l : Int), 0 ≤ szL ks l → 0 ≤ l
  | [], l, h => by rw [szL] at h; exact h
  | k :: ks, l, h => by
    rw [szL] at h
    split at h
    · omega
    · omega
theorem szE_pos (e : GExp) (l : Int) (h : 0 ≤ szE e l) : 1 ≤ l := by
  rw [szE_def] at h
  have := szL_pos _ _ h
  omega
theorem szL_mem : ∀ (ks : List GExp) (l : Int), 0 ≤ szL ks l → ∀ k ∈ ks, ∃ l', 0 ≤ l' ∧ l' ≤ l ∧ 0 ≤ szE k l'
  | [], l, h, k, hk => by cases hk
  | q :: ks, l, h, k, hk => by
    rw [szL] at h
    split at h
    · omega
    · have h1 := szL_pos _ _ h
      rcases List.mem_cons.1 hk with rfl | hk
      · exact ⟨l, by omega, by omega, h1⟩
      · obtain ⟨l', a, b, c⟩ := szL_mem ks _ h k hk
        have := szE_le q l (by omega)
        exact ⟨l', a, by omega, c⟩
theorem szL_len : ∀ (ks : List GExp) (l : Int), 0 ≤ szL ks l → (ks.length : Int) ≤ l - szL ks l
  | [], l, h => by rw [szL]; simp
  | k :: ks, l, h => by
    rw [szL] at h ⊢
    split at h
    · omega
    · rename_i hl
      rw [if_neg hl]
      have h1 := szL_pos _ _ h
      have h2 := szL_len ks _ h
      have h3 := szL_pos _ _ (by rw [szE_def] at h1; exact h1)
      have h4 : szE k l ≤ l - 1 := by
        rw [szE_def]
        have := szL_le k.kids (l - (1 + (((k.t.x.size + k.t.v.s.size) / 50 : Nat) : Int)))
        omega
      simp only [List.length_cons]
      omega
mutual
theorem leavesE_len : ∀ (e : GExp) (l : Int), 0 ≤ szE e l → ((leavesE e).length : Int) ≤ l - szE e l
  | .mk o t [], l, h => by rw [szE, szL, leavesE]; simp; omega
  | .mk o t (k :: ks), l, h => by
    rw [szE, szL] at h ⊢
    split at h
    · omega
    · rename_i hl
      rw [if_neg hl]
      have h1 := szL_pos _ _ h
      have h2 := leavesE_len k _ h1
      have h3 := leavesL_len ks _ h
      rw [leavesE]
      simp only [List.length_append]
      omega
theorem leavesL_len : ∀ (ks : List GExp) (l : Int), 0 ≤ szL ks l → ((leavesL ks).length : Int) ≤ l - szL ks l
  | [], l, h => by rw [szL, leavesL]; simp
  | k :: ks, l, h => by
    rw [szL] at h ⊢
    split at h
    · omega
    · rename_i hl
      rw [if_neg hl]
      have h1 := szL_pos _ _ h
      have h2 := leavesE_len k _ h1
      have h3 := leavesL_len ks _ h
      rw [leavesL]
      simp only [List.length_append]
      omega
end
/-- an expression of at most 1500 things -/
def Sm (e : GExp) : Prop := ∃ l : Int, 0 ≤ l ∧ l ≤ 1500 ∧ 0 ≤ szE e l
theorem Sm.of {e : GExp} {l : Int} (h : 0 ≤ szE e l) (hl : l ≤ 1500) : Sm e := ⟨l, by have := szE_pos e l h; omega, hl, h⟩
theorem Sm.kids {e : GExp} (h : Sm e) : ∀ k ∈ e.kids, Sm k := by
  obtain ⟨l, h0, h1, h2⟩ := h
  rw [szE_def] at h2
  intro k hk
  obtain ⟨l', a, b, c⟩ := szL_mem _ _ h2 k hk
  exact ⟨l', a, by omega, c⟩
theorem Sm.len {e : GExp} (h : Sm e) : e.kids.length ≤ 1500 := by
  obtain ⟨l, h0, h1, h2⟩ := h
  rw [szE_def] at h2
  have := szL_len _ _ h2
  omega
theorem Sm.leaves {e : GExp} (h : Sm e) : (leavesE e).length ≤ 1500 := by
  obtain ⟨l, h0, h1, h2⟩ := h
  have := leavesE_len _ _ h2
  omega
theorem leavesL_take {l : List GExp} {k : Nat} {e : GExp} (hx : l[k]? = some e) : leavesL (l.take (k + 1)) = leavesL (l.take k) ++ leavesE e := by
  have ha : ∀ a b : List GExp, leavesL (a ++ b) = leavesL a ++ leavesL b := by
    intro a
    induction a with
    | nil => intro b; rw [leavesL]; rfl
    | cons x a ih => intro b; rw [List.cons_append, leavesL, leavesL, ih, List.append_assoc]
  rw [List.take_add_one, hx, ha]
  simp only [Option.toList_some]
  rw [show leavesL [e] = leavesE e by rw [leavesL, leavesL, List.append_nil]]
theorem leavesL_drop {l : List GExp} {k : Nat} {e : GExp} (hx : l[k]? = some e) : leavesL (l.drop k) = leavesE e ++ leavesL (l.drop (k + 1)) := by
  obtain ⟨hk, he⟩ := List.getElem?_eq_some_iff.1 hx
  rw [List.drop_eq_getElem_cons hk, he, leavesL]
theorem leavesL_full (l : List GExp) (k : Nat) : leavesL l = leavesL (l.take k) ++ leavesL (l.drop k) := by
  have ha : ∀ a b : List GExp, leavesL (a ++ b) = leavesL a ++ leavesL b := by
    intro a
    induction a with
    | nil => intro b; rw [leavesL]; rfl
    | cons x a ih => intro b; rw [List.cons_append, leavesL, leavesL, ih, List.append_assoc]
  rw [← ha, List.take_append_drop]
end Go.Proofs.YtplekbpmfaghbaaGreatDoor
