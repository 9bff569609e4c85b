/- Sets of tuples in order: plain, nothing of any program. -/
import Derived.Test.YtgomfmfaoeojkaaTupLaw
namespace Go.Proofs.Ytgomfmfaoeojkaa
open Go.RowKit

/-- in order, each once -/
def Sorted (L : List (List GV)) : Prop := L.Pairwise fun a b => cmpL a b = -1
/-- how many stand ahead of a tuple -/
def posL (L : List (List GV)) (t : List GV) : Nat := (L.takeWhile fun x => lessL x t).length
def insL (L : List (List GV)) (t : List GV) : List (List GV) := L.take (posL L t) ++ t :: L.drop (posL L t)
def delL (L : List (List GV)) (t : List GV) : List (List GV) := L.filter fun x => !decide (x = t)

theorem cmpL_self (t : List GV) : cmpL t t = 0 := (cmpL_zero t t).2 rfl
theorem less_iff (a b : List GV) : lessL a b = true ↔ cmpL a b = -1 := by
  rw [lessL_cmp]; have := cmpL_cases a b; simp; omega
theorem lt_trans {a b c : List GV} (h1 : cmpL a b = -1) (h2 : cmpL b c = -1) : cmpL a c = -1 := by
  have h3 := cmpL_trans a b c (by omega) (by omega)
  have h4 := cmpL_cases a c
  have h5 := cmpL_zero a c
  rcases h4 with h | h | h
  · exact h
  · have e := h5.1 h
    subst e
    have := cmpL_neg a b
    omega
  · omega
theorem posL_le (L : List (List GV)) (t : List GV) : posL L t ≤ L.length := by
  unfold posL; have := List.takeWhile_prefix (p := fun x => lessL x t) (l := L); exact this.length_le
/-- ahead of the place all stand ahead -/
theorem pos_ahead {L : List (List GV)} {t : List GV} {i : Nat} {x : List GV} (hi : i < posL L t) (hx : L[i]? = some x) : cmpL x t = -1 := by
  unfold posL at hi
  have h1 : (L.takeWhile fun x => lessL x t)[i]? = some x := by
    have := List.takeWhile_prefix (p := fun x => lessL x t) (l := L)
    obtain ⟨r, hr⟩ := this
    rw [← hr, List.getElem?_append_left hi] at hx
    exact hx
  have := List.mem_of_getElem? h1
  exact (less_iff x t).1 (List.all_eq_true.1 List.all_takeWhile x this)
/-- from the place on none does -/
theorem pos_behind {L : List (List GV)} (hs : Sorted L) {t : List GV} {i : Nat} {x : List GV} (hi : posL L t ≤ i) (hx : L[i]? = some x) : 0 ≤ cmpL x t := by
  induction L generalizing i with
  | nil => simp at hx
  | cons a L ih =>
    have hs' : Sorted L := (List.pairwise_cons.1 hs).2
    unfold posL at hi
    rw [List.takeWhile_cons] at hi
    cases ha : lessL a t with
    | true =>
      simp only [ha, if_true, List.length_cons] at hi
      cases i with
      | zero => omega
      | succ i => exact ih hs' (i := i) (by unfold posL; omega) (by simpa using hx)
    | false =>
      have ha' : ¬ cmpL a t = -1 := fun h => by rw [(less_iff a t).2 h] at ha; cases ha
      have hc := cmpL_cases a t
      cases i with
      | zero => simp at hx; subst hx; omega
      | succ i =>
        have hx' : x ∈ L := List.mem_of_getElem? (by simpa using hx)
        have hax := (List.pairwise_cons.1 hs).1 x hx'
        have hxc := cmpL_cases x t
        rcases hxc with h | h | h
        · have := lt_trans hax h; omega
        · omega
        · omega
/-- a place that parts those ahead from the others is the place -/
theorem pos_unique {L : List (List GV)} (hs : Sorted L) {t : List GV} {k : Nat} (hk : k ≤ L.length) (h1 : ∀ i x, i < k → L[i]? = some x → cmpL x t = -1) (h2 : ∀ i x, k ≤ i → L[i]? = some x → 0 ≤ cmpL x t) : k = posL L t := by
  have hp := posL_le L t
  rcases Nat.lt_trichotomy k (posL L t) with h | h | h
  · have hx := List.getElem?_eq_getElem (l := L) (i := k) (by omega)
    have := pos_ahead h hx
    have := h2 k _ (Nat.le_refl _) hx
    omega
  · exact h
  · have hx := List.getElem?_eq_getElem (l := L) (i := posL L t) (by omega)
    have := h1 _ _ h hx
    have := pos_behind hs (Nat.le_refl _) hx
    omega
/-- a tuple is there just if it stands at its place -/
theorem mem_pos {L : List (List GV)} (hs : Sorted L) (t : List GV) : t ∈ L ↔ L[posL L t]? = some t := by
  constructor
  · intro h
    obtain ⟨i, hi⟩ := List.mem_iff_getElem?.1 h
    rcases Nat.lt_trichotomy i (posL L t) with h1 | h1 | h1
    · have := pos_ahead h1 hi; rw [cmpL_self] at this; omega
    · rw [← h1]; exact hi
    · have hl : i < L.length := (List.getElem?_eq_some_iff.1 hi).1
      have hx := List.getElem?_eq_getElem (l := L) (i := posL L t) (by omega)
      have h2 := pos_behind hs (Nat.le_refl _) hx
      have h3 := List.pairwise_iff_getElem.1 hs (posL L t) i (by omega) hl h1
      have e : L[i] = t := by have := hi; rw [List.getElem?_eq_getElem hl] at this; simpa using this
      rw [e] at h3
      omega
  · exact fun h => List.mem_of_getElem? h
theorem at_pos {L : List (List GV)} (hs : Sorted L) {t x : List GV} (hx : L[posL L t]? = some x) : (cmpL x t == 0) = decide (t ∈ L) := by
  rw [Bool.eq_iff_iff]
  simp only [beq_iff_eq, decide_eq_true_eq, mem_pos hs, hx, Option.some.injEq, cmpL_zero]
theorem not_mem_end {L : List (List GV)} (hs : Sorted L) {t : List GV} (h : posL L t = L.length) : t ∉ L := by
  rw [mem_pos hs, h, List.getElem?_eq_none (Nat.le_refl _)]; simp

theorem sorted_ins {L : List (List GV)} (hs : Sorted L) {t : List GV} (ht : t ∉ L) : Sorted (insL L t) := by
  unfold insL Sorted
  rw [List.pairwise_append]
  have hsp : Sorted (L.take (posL L t) ++ L.drop (posL L t)) := by rw [List.take_append_drop]; exact hs
  obtain ⟨h1, h2, h3⟩ := List.pairwise_append.1 hsp
  have hb : ∀ x ∈ L.take (posL L t), cmpL x t = -1 := by
    intro x hx
    obtain ⟨i, hi⟩ := List.mem_iff_getElem?.1 hx
    rw [List.getElem?_take] at hi
    split at hi
    · exact pos_ahead ‹_› hi
    · cases hi
  have ha : ∀ x ∈ L.drop (posL L t), cmpL t x = -1 := by
    intro x hx
    obtain ⟨i, hi⟩ := List.mem_iff_getElem?.1 hx
    rw [List.getElem?_drop] at hi
    have h4 := pos_behind hs (Nat.le_add_right _ i) hi
    have h5 := cmpL_neg x t
    have h6 := cmpL_cases x t
    have h7 : cmpL x t ≠ 0 := fun e => ht (by have := (cmpL_zero x t).1 e; subst this; exact List.mem_of_getElem? hi)
    omega
  refine ⟨h1, List.pairwise_cons.2 ⟨ha, h2⟩, ?_⟩
  intro a haa b hbb
  rcases List.mem_cons.1 hbb with rfl | hbb
  · exact hb a haa
  · exact h3 a haa b hbb
theorem mem_ins {L : List (List GV)} {t x : List GV} : x ∈ insL L t ↔ x = t ∨ x ∈ L := by
  unfold insL
  have h : x ∈ L ↔ x ∈ L.take (posL L t) ∨ x ∈ L.drop (posL L t) := by rw [← List.mem_append, List.take_append_drop]
  rw [List.mem_append, List.mem_cons, h]
  constructor
  · rintro (h | h | h)
    · exact .inr (.inl h)
    · exact .inl h
    · exact .inr (.inr h)
  · rintro (h | h | h)
    · exact .inr (.inl h)
    · exact .inl h
    · exact .inr (.inr h)
theorem sorted_del {L : List (List GV)} (hs : Sorted L) (t : List GV) : Sorted (delL L t) := List.Pairwise.sublist List.filter_sublist hs
theorem mem_del {L : List (List GV)} {t x : List GV} : x ∈ delL L t ↔ x ∈ L ∧ x ≠ t := by simp [delL]
theorem del_not {L : List (List GV)} {t : List GV} (h : t ∉ L) : delL L t = L := by
  unfold delL; rw [List.filter_eq_self]; intro a ha; simp; rintro rfl; exact h ha
/-- dropped at its place -/
theorem del_pos {L : List (List GV)} (hs : Sorted L) {t : List GV} (h : t ∈ L) : delL L t = L.take (posL L t) ++ L.drop (posL L t + 1) := by
  have hp := (mem_pos hs t).1 h
  have hl : posL L t < L.length := (List.getElem?_eq_some_iff.1 hp).1
  have e : L = L.take (posL L t) ++ t :: L.drop (posL L t + 1) := by
    have ed : L.drop (posL L t) = t :: L.drop (posL L t + 1) := by
      rw [List.drop_eq_getElem_cons hl]
      rw [List.getElem?_eq_getElem hl] at hp
      simp at hp
      rw [hp]
    rw [← ed, List.take_append_drop]
  have hs' : Sorted (L.take (posL L t) ++ t :: L.drop (posL L t + 1)) := by rw [← e]; exact hs
  obtain ⟨h1, h2, h3⟩ := List.pairwise_append.1 hs'
  conv => lhs; unfold delL; rw [e]
  rw [List.filter_append, List.filter_cons]
  simp only [decide_true, Bool.not_true, Bool.false_eq_true, if_false]
  congr 1
  · rw [List.filter_eq_self]
    intro a ha
    have := h3 a ha t (by simp)
    simp
    rintro rfl
    rw [cmpL_self] at this; omega
  · rw [List.filter_eq_self]
    intro a ha
    have := (List.pairwise_cons.1 h2).1 a ha
    simp
    rintro rfl
    rw [cmpL_self] at this; omega
/-- two sets with the same members are the same -/
theorem sorted_ext : ∀ {L M : List (List GV)}, Sorted L → Sorted M → (∀ x, x ∈ L ↔ x ∈ M) → L = M
  | [], [], _, _, _ => rfl
  | [], b :: M, _, _, h => by have := (h b).2 (by simp); simp at this
  | a :: L, [], _, _, h => by have := (h a).1 (by simp); simp at this
  | a :: L, b :: M, hl, hm, h => by
    have ha := List.pairwise_cons.1 hl
    have hb := List.pairwise_cons.1 hm
    have e : a = b := by
      have h1 := (h a).1 (by simp)
      have h2 := (h b).2 (by simp)
      rcases List.mem_cons.1 h1 with h1 | h1
      · exact h1
      · rcases List.mem_cons.1 h2 with h2 | h2
        · exact h2.symm
        · have h3 := ha.1 b h2
          have h4 := hb.1 a h1
          have h5 := cmpL_neg a b
          omega
    subst e
    congr 1
    refine sorted_ext ha.2 hb.2 fun x => ?_
    constructor
    · intro hx
      have := (h x).1 (by simp [hx])
      rcases List.mem_cons.1 this with rfl | h1
      · have := ha.1 x hx; rw [cmpL_self] at this; omega
      · exact h1
    · intro hx
      have := (h x).2 (by simp [hx])
      rcases List.mem_cons.1 this with rfl | h1
      · have := hb.1 x hx; rw [cmpL_self] at this; omega
      · exact h1
end Go.Proofs.Ytgomfmfaoeojkaa
