/- Components in plain words: each node in one, each in order; an edge leads within one or to an earlier one. -/
import Derived.Test.YtdbpbchhkdconaaScLc
namespace Go.Proofs.Ytdbpbchhkdconaa
open Go.RowKit

section
variable {N : Nat} {l : List GEdge}
abbrev compL (N : Nat) (l : List GEdge) : List (List Nat) := compsF N (eN l) (togN N (hasN l)) N (fun _ => false)
theorem comps_disj {edges : List (Nat × Nat)} {tog : Nat → Nat → Bool} (e : EqvN N tog) : ∀ (f : Nat) (d : Nat → Bool), (compsF N edges tog f d).Pairwise (fun p q => ∀ x ∈ p, x ∉ q)
  | 0, _ => List.Pairwise.nil
  | f + 1, d => by
    rw [compsF]
    cases hn : nextN N edges tog d with
    | none => exact List.Pairwise.nil
    | some a =>
      have ha : a < N := List.mem_range.1 (List.mem_of_find?_eq_some hn)
      refine List.Pairwise.cons (fun q hq x hx hxq => ?_) (comps_disj e f _)
      obtain ⟨b, hb, hd, rfl⟩ := comps_cls f _ q hq
      have h1 := cls_mem.1 hx
      have h2 := cls_mem.1 hxq
      have h3 := e.trans a x b ha h1.1 hb h1.2 (e.symm b x hb h1.1 h2.2)
      simp [h3] at hd
theorem comp_place (hw : ∀ e ∈ l, withinE e (N : Int) = true) {i : Nat} {c : List Nat} (hc : (compL N l)[i]? = some c) {x : Nat} (hx : x ∈ c) : x < N ∧ plN N l x = i := by
  have hxN : x < N := comps_in c (List.mem_of_getElem? hc) x hx
  refine ⟨hxN, ?_⟩
  obtain ⟨c', h1, h2⟩ := plN_at hw hxN
  have hp := comps_disj (edges := eN l) (eqv_of hw) N (fun _ => false)
  rcases Nat.lt_trichotomy (plN N l x) i with h | h | h
  · have h3 := List.pairwise_iff_getElem.1 hp (plN N l x) i (List.getElem?_eq_some_iff.1 h1).1 (List.getElem?_eq_some_iff.1 hc).1 h
    obtain ⟨_, e1⟩ := List.getElem?_eq_some_iff.1 h1
    obtain ⟨_, e2⟩ := List.getElem?_eq_some_iff.1 hc
    rw [e1, e2] at h3
    exact absurd hx (h3 x h2)
  · exact h
  · have h3 := List.pairwise_iff_getElem.1 hp i (plN N l x) (List.getElem?_eq_some_iff.1 hc).1 (List.getElem?_eq_some_iff.1 h1).1 h
    obtain ⟨_, e1⟩ := List.getElem?_eq_some_iff.1 h1
    obtain ⟨_, e2⟩ := List.getElem?_eq_some_iff.1 hc
    rw [e1, e2] at h3
    exact absurd h2 (h3 x hx)
theorem comp_up {i : Nat} {c : List Nat} (hc : (compL N l)[i]? = some c) : c.Pairwise (· < ·) := by
  obtain ⟨a, -, -, rfl⟩ := comps_cls N (fun _ => false) c (List.mem_of_getElem? hc)
  exact List.Pairwise.filter _ (range_up N)
theorem comp_edge (hw : ∀ e ∈ l, withinE e (N : Int) = true) {a b : Nat} (h : (a, b) ∈ eN l) : plN N l b ≤ plN N l a := by
  have hab := eN_in hw _ h
  obtain ⟨c, h1, h2⟩ := plN_at hw hab.1
  have hil := (List.getElem?_eq_some_iff.1 h1).1
  have hsplit : compL N l = (compL N l).take (plN N l a) ++ c :: (compL N l).drop (plN N l a + 1) := by
    conv => lhs; rw [← List.take_append_drop (plN N l a) (compL N l)]
    congr 1
    rw [List.drop_eq_getElem_cons hil]
    obtain ⟨_, e1⟩ := List.getElem?_eq_some_iff.1 h1
    rw [e1]
  rcases comps_edge (eqv_of hw) N (fun _ => false) _ c _ hsplit (a, b) h hab.1 hab.2 h2 with h3 | h3 | ⟨c', h3, h4⟩
  · have : plN N l b = plN N l a := (comp_place hw h1 h3).2
    omega
  · cases h3
  · obtain ⟨j, hj⟩ := List.mem_iff_getElem?.1 h3
    rw [List.getElem?_take] at hj
    split at hj
    · have : plN N l b = j := (comp_place hw hj h4).2
      omega
    · cases hj
def inB (S : List Nat) (v : Nat) : Nat := if v ∈ S then 1 else 0
theorem inB_add {S : List Nat} {x : Nat} : updN (inB S) x 1 = inB (S ++ [x]) := by
  funext v
  unfold updN inB
  by_cases h : v = x
  · subst h; simp
  · rw [if_neg h]
    by_cases h2 : v ∈ S
    · rw [if_pos h2, if_pos (List.mem_append_left _ h2)]
    · rw [if_neg h2, if_neg]
      intro hh
      rcases List.mem_append.1 hh with hh | hh
      · exact h2 hh
      · simp at hh; exact h hh
/-- a node of part i at place q was not counted -/
theorem inB_new (hw : ∀ e ∈ l, withinE e (N : Int) = true) {i q x : Nat} {c : List Nat} (hc : (compL N l)[i]? = some c) (hx : c[q]? = some x) : inB (((compL N l).take i).flatten ++ c.take q) x = 0 := by
  unfold inB
  rw [if_neg]
  intro hh
  have hxc := List.mem_of_getElem? hx
  rcases List.mem_append.1 hh with hh | hh
  · obtain ⟨p, hp, hxp⟩ := List.mem_flatten.1 hh
    obtain ⟨j, hj⟩ := List.mem_iff_getElem?.1 hp
    rw [List.getElem?_take] at hj
    split at hj
    · have h1 := (comp_place hw hj hxp).2
      have h2 := (comp_place hw hc hxc).2
      omega
    · cases hj
  · obtain ⟨j, hj⟩ := List.mem_iff_getElem?.1 hh
    rw [List.getElem?_take] at hj
    split at hj
    · rename_i hjq
      have hu := comp_up hc
      obtain ⟨h1, e1⟩ := List.getElem?_eq_some_iff.1 hj
      obtain ⟨h2, e2⟩ := List.getElem?_eq_some_iff.1 hx
      have := List.pairwise_iff_getElem.1 hu j q h1 h2 hjq
      omega
    · cases hj
theorem inB_all (hw : ∀ e ∈ l, withinE e (N : Int) = true) {v : Nat} (hv : v < N) : inB (compL N l).flatten v = 1 := by
  unfold inB
  rw [if_pos]
  obtain ⟨c, h1, h2⟩ := plN_at hw hv
  exact List.mem_flatten.2 ⟨c, List.mem_of_getElem? h1, h2⟩
end
end Go.Proofs.Ytdbpbchhkdconaa
