/- Small lemmas over XBase: facts kept from world to world; one tuple as a list of tuples. -/
import Derived.Test.YtggbfpjpkfhaeaaEnv
import Derived.Test.YtggbfpjpkfhaeaaBack
namespace Go.Proofs.Ytggbfpjpkfhaeaa
open Go.RowKit

theorem getT_ok {w : World} {B : Nat} {A : Option Addr} {n c : Nat} {l : List GTold} (h : SliceIs Enc.told w B A n c l) : ∀ s v, getT l s = some v → v.ok := by
  intro s v hv
  simp only [getT, Option.map_eq_some_iff] at hv
  obtain ⟨t, ht, rfl⟩ := hv
  exact (told_ok h t (List.mem_of_find?_eq_some ht)).2

theorem SliceIs.keep {α : Type} {E : Enc α} {w w' : World} {A : Option Addr} {n c : Nat} {l : List α} (h : SliceIs E w w.heap.size A n c l) (hb : Below w.heap.size w w') : SliceIs E w' w'.heap.size A n c l :=
  (h.below hb).mono hb.size (fun _ _ => rfl)
theorem below_next {w W W' : World} (h : Below w.heap.size w W) (h' : Below W.heap.size W W') : Below w.heap.size w W' := h.trans (h'.mono h.size)

theorem tup1 {W : World} {A : Option Addr} {n c : Nat} {t : List GV} (h : SliceIs Enc.val W W.heap.size A n c t) (o : Obj) (ho : o = .cells #[.slice A n c] 24) : SliceIs (Enc.slice Enc.val) (W.alloc o) (W.alloc o).heap.size (some ⟨W.heap.size, 0, none⟩) 1 1 [t] := by
  subst ho
  refine ⟨rfl, Nat.le_refl _, by simp [maxLen], by simp [reachN], .inr ⟨W.heap.size, 0, rfl, by simp, fun i x hx => ?_⟩⟩
  match i, hx with
  | 0, hx =>
    simp at hx
    subst hx
    refine ⟨[.slice A n c], ⟨A, n, c, rfl, h.mono (by simp) (fun b hb => Below.heap_alloc _ _ _ hb)⟩, fun j v hv => ?_⟩
    match j, hv with
    | 0, hv => simp at hv; subst hv; simp [Enc.slice]

end Go.Proofs.Ytggbfpjpkfhaeaa
