/- The document's Components. -/
import Derived.Test.YtdbpbchhkdconaaScTb
import Derived.Test.YtdbpbchhkdconaaScWt
import Derived.Test.YtdbpbchhkdconaaMa1
import Derived.Test.YtdbpbchhkdconaaDrawnS
namespace Go.Proofs.Ytdbpbchhkdconaa
open Go.RowKit

def eN (l : List GEdge) : List (Nat × Nat) := l.map (fun e => (e.a.toNat, e.b.toNat))
theorem hasN_in {N : Nat} {l : List GEdge} (hw : ∀ e ∈ l, withinE e (N : Int) = true) {x y : Nat} (h : hasN l x y = true) : x < N ∧ y < N := by
  unfold hasN hasL at h
  rw [List.any_eq_true] at h
  obtain ⟨e, he, h⟩ := h
  have := hw e he
  simp only [withinE, Bool.and_eq_true, decide_eq_true_eq] at h this
  omega
theorem eqv_of {N : Nat} {l : List GEdge} (hw : ∀ e ∈ l, withinE e (N : Int) = true) : EqvN N (togN N (hasN l)) :=
  tog_eqv (succ := fun a => (List.range N).filter (hasN l a)) (fun _ _ h => (hasN_in hw h).2) (fun a b => by
    rw [List.mem_filter, List.mem_range]
    exact ⟨fun h => h.2, fun h => ⟨(hasN_in hw h).2, h⟩⟩)
theorem eN_in {N : Nat} {l : List GEdge} (hw : ∀ e ∈ l, withinE e (N : Int) = true) : ∀ x ∈ eN l, x.1 < N ∧ x.2 < N := by
  intro x hx
  obtain ⟨e, he, rfl⟩ := List.mem_map.1 hx
  have := hw e he
  simp only [withinE, Bool.and_eq_true, decide_eq_true_eq] at this
  show e.a.toNat < N ∧ e.b.toNat < N
  omega
theorem tab_at {N : Nat} {l : List GEdge} {w : World} {B : Nat} {A : Option Addr} {c : Nat} (h : SliceIs (Enc.slice Enc.bool) w B A N c (tabL N l)) {a : Nat} (ha : a < N) :
    ∃ bt ot br ob cr, A = some ⟨bt, ot, none⟩ ∧ w.cell? ⟨bt, ot + a, none⟩ = some (.slice (some ⟨br, ob, none⟩) N cr) ∧ ∀ u, u < N → w.cell? ⟨br, ob + u, none⟩ = some (.bool (togN N (hasN l) a u)) := by
  obtain ⟨bt, ot, x, A', n', c', hA, hb, hx, hc, hs⟩ := h.slice_at ha
  have hx2 : x = (List.range N).map (fun b => togN N (hasN l) a b) := by
    have := hx.out
    unfold tabL at this
    rw [List.getElem?_map, List.getElem?_range ha] at this
    simpa using this.symm
  subst hx2
  have hn : n' = N := by have := hs.1; simpa using this.symm
  subst hn
  obtain ⟨br, ob, v0, hA', -, -, -⟩ := hs.bool_at ha
  subst hA'
  refine ⟨bt, ot, br, ob, c', hA, hc, fun u hu => ?_⟩
  obtain ⟨b2, o2, v2, hA2, -, hx2, hc2⟩ := hs.bool_at hu
  injection hA2 with hA2; injection hA2 with e1 e2 _; subst e1; subst e2
  have := hx2.out
  rw [List.getElem?_map, List.getElem?_range hu] at this
  simp at this
  rw [hc2, ← this]
def optI : Option Nat → Int
  | none => -1
  | some a => (a : Int)
def bestI (p : Nat → Bool) (N j : Nat) : Int := optI (((List.range N).drop j).find? p)
theorem bestI_end (p : Nat → Bool) (N : Nat) : bestI p N N = -1 := by
  unfold bestI; rw [List.drop_of_length_le (by simp)]; rfl
theorem bestI_step (p : Nat → Bool) {N a : Nat} (ha : a < N) : bestI p N a = if p a = true then (a : Int) else bestI p N (a + 1) := by
  unfold bestI
  rw [List.drop_eq_getElem_cons (by simpa using ha), List.getElem_range, List.find?_cons]
  cases p a <;> rfl
theorem optI_fits (p : Nat → Bool) {N j : Nat} : bestI p N j < (N : Int) ∨ bestI p N j = -1 := by
  unfold bestI
  cases h : ((List.range N).drop j).find? p with
  | none => exact .inr rfl
  | some a =>
    left
    have := List.mem_range.1 (List.mem_of_mem_drop (List.mem_of_find?_eq_some h))
    show (a : Int) < N
    omega
def CompsPost (N : Nat) (l : List GEdge) (w : World) (e : Ending) (w' : World) : Prop :=
  ∃ A k c, e = .returned (.slice A k c) ∧ SliceFar (Enc.slice Enc.nat) w' (List.range w.heap.size) A k c (compsF N (eN l) (togN N (hasN l)) N (fun _ => false)) ∧ Below w.heap.size w w'
theorem info_ints : (Try.prog.info? 29).map (fun i => (i.zero, i.size, i.bytes)) = some (some (.slice none 0 0), 1, 24) := by kernel_rfl
theorem left_most (N : Nat) (tog : Nat → Nat → Bool) (d : Nat → Bool) : left N tog d ≤ N := by
  unfold left
  exact Nat.le_trans (List.length_filter_le ..) (by simp)
end Go.Proofs.Ytdbpbchhkdconaa
