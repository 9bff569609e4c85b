/- Programs alike but for places are the same. Plain. -/
import Derived.Test.YtplekbpmfaghbaaGreatDoorPbB
import Derived.Test.YtplekbpmfaghbaaGreatDoorMt1
namespace Go.Proofs.YtplekbpmfaghbaaGreatDoor
open Go.RowKit

theorem eqL_of_map {α β : Type} {f : α → α → Bool} {g : α → β} (hf : ∀ a b, g a = g b → f a b = true) : ∀ l m : List α, l.map g = m.map g → eqL f l m = true
  | [], [], _ => rfl
  | [], _ :: _, h => by simp at h
  | _ :: _, [], h => by simp at h
  | a :: l, b :: m, h => by
    simp only [List.map_cons, List.cons.injEq] at h
    rw [eqL, hf a b h.1, eqL_of_map hf l m h.2]; rfl
theorem sameLt_e (a b : GLit) (h : a.e = b.e) : sameLt a b = true := by
  cases a; cases b
  simp only [GLit.e, GLit.mk.injEq, and_true] at h
  obtain ⟨rfl, rfl, rfl, rfl, rfl⟩ := h
  simp [sameLt, sameA, sameE_refl]
theorem sameR_e (a b : GRule) (h : a.e = b.e) : sameR a b = true := by
  cases a; cases b
  simp only [GRule.e, GRule.mk.injEq, and_true] at h
  obtain ⟨rfl, rfl, rfl, h⟩ := h
  simp [sameR, sameA, eqL_of_map sameLt_e _ _ h]
theorem sameD_e (a b : GDecl) (h : a.e = b.e) : sameD a b = true := by
  cases a; cases b
  simp only [GDecl.e, GDecl.mk.injEq, and_true] at h
  obtain ⟨rfl, rfl⟩ := h
  simp [sameD]
theorem sameP_e {a b : GProg} (h : a.e = b.e) : sameP a b = true := by
  cases a; cases b
  simp only [GProg.e, GProg.mk.injEq] at h
  simp [sameP, eqL_of_map sameD_e _ _ h.1, eqL_of_map sameR_e _ _ h.2]
end Go.Proofs.YtplekbpmfaghbaaGreatDoor
