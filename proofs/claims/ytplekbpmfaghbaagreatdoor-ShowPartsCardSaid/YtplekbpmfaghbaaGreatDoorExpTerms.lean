/- The document's Terms: an expression's terms, behind others. -/
import Derived.Test.YtplekbpmfaghbaaGreatDoorExpSize
import Derived.Test.YtplekbpmfaghbaaGreatDoorGen
namespace Go.Proofs.YtplekbpmfaghbaaGreatDoor
open Go.RowKit

mutual
/-- an expression's terms -/
def leavesE : GExp → List GTold
  | .mk _ t [] => [t]
  | .mk _ _ (k :: ks) => leavesE k ++ leavesL ks
def leavesL : List GExp → List GTold
  | [] => []
  | k :: ks => leavesE k ++ leavesL ks
end
theorem leavesE_nil {e : GExp} (h : e.kids = []) : leavesE e = [e.t] := by
  cases e with
  | mk o t ks => cases ks with
    | nil => rw [leavesE]; rfl
    | cons k ks => cases h
theorem leavesE_kids {e : GExp} (h : e.kids ≠ []) : leavesE e = leavesL e.kids := by
  cases e with
  | mk o t ks => cases ks with
    | nil => exact absurd rfl h
    | cons k ks => rw [leavesE]; show _ = leavesL (k :: ks); rw [leavesL]
/-- old rows of other types than T stay -/
def KeepsT (T : TypeId) (w w' : World) : Prop := ∀ (b : Nat) (cs : Array Value) (t : TypeId) (fr : Nat × Nat), w.heap[b]? = some (Obj.cells cs t fr) → t ≠ T → w'.heap[b]? = some (Obj.cells cs t fr)
theorem KeepsT.refl (T : TypeId) (w : World) : KeepsT T w w := fun _ _ _ _ h _ => h
theorem KeepsT.trans {T : TypeId} {w w1 w2 : World} (h : KeepsT T w w1) (k : KeepsT T w1 w2) : KeepsT T w w2 := fun b cs t fr hb ht => k b cs t fr (h b cs t fr hb ht) ht
theorem KeepsT.of_below {T : TypeId} {w w' : World} (h : Below w.heap.size w w') : KeepsT T w w' := fun b _ _ _ hb _ => (h.block b (Array.getElem?_eq_some_iff.1 hb).1).trans hb
theorem own_type {w : World} {base e sz : Nat} {v : Value} {n : Nat} {xs : List Value} (h : w.ownsRow base e sz v n xs) {b : Nat} (hb : v.ownBlock = some b) : ∃ cur, w.heap[b]? = some (.cells cur e (0, 0)) := by
  rcases h.2 with ⟨hn, _⟩ | ⟨g, cap, cur, rfl, hg, hh, r⟩
  · rw [hn] at hb; cases hb
  · injection hb with hb; subst hb; exact ⟨cur, hh⟩
theorem term5_info : (Tryz.prog.info? 48).map (fun i => (i.zero, i.size, i.bytes)) = some (some (.agg #[.string ⟨#[]⟩, .int .i64 0, .int .i64 0, .string ⟨#[]⟩]), 4, 48) := by kernel_rfl
theorem term5_push {W : World} {base : Nat} {A : Option Addr} {c k : Nat} {xs : List GTold} (hown : W.ownsRow base 48 4 (.slice A k c) k (xs.flatMap GTold.cells)) (q : GTold) (hn : k + 1 ≤ 1000000) (hb : base ≤ W.heap.size) :
    ∃ A' c' w', (∀ ty, (Builtin.append_ #[41, 41] ty #[.slice A k c, .slice (some ⟨W.heap.size, 0, none⟩) 1 1]).run Tryz.prog (W.alloc (.cells #[.string q.x, .int .i64 q.v.k, .int .i64 q.v.n, .string q.v.s] 48)) = .ok (.slice A' (k + 1) c') w') ∧
      w'.ownsRow base 48 4 (.slice A' (k + 1) c') (k + 1) ((xs ++ [q]).flatMap GTold.cells) ∧ Below base W w' ∧ KeepsT 48 W w' := by
  have ho : (W.alloc (.cells #[.string q.x, .int .i64 q.v.k, .int .i64 q.v.n, .string q.v.s] 48)).ownsRow base 48 4 (.slice A k c) k (xs.flatMap GTold.cells) := own_below hown (belowA (Below.refl _ _) _)
  obtain ⟨v', w', h1, h2, h3, h4⟩ := run_push_at (P := Tryz.prog) (ty := 41) (W.alloc (.cells #[.string q.x, .int .i64 q.v.k, .int .i64 q.v.n, .string q.v.s] 48)) (base := base) Tryz.underlying41 term5_info rfl (by decide) ho W.heap.size (GTold.cells q) rfl (heapNew rfl) (by intro u hu; simp [GTold.cells] at hu; rcases hu with rfl | rfl | rfl | rfl <;> rfl)
    (by simp [maxLen]; omega) (by omega) (by simp; omega)
  obtain ⟨A', c', rfl⟩ := own_form h2
  refine ⟨A', c', w', fun _ => h1, ?_, ?_, ?_⟩
  · rw [List.flatMap_append]; simpa using h2
  · exact ((Below.refl base W).alloc hb _).trans h4
  · have k1 : KeepsT 48 W (W.alloc (.cells #[.string q.x, .int .i64 q.v.k, .int .i64 q.v.n, .string q.v.s] 48)) := KeepsT.of_below (belowA (Below.refl _ _) _)
    refine k1.trans ?_
    intro b cs t fr hbb ht
    refine ((grown_out h3).block b (Array.getElem?_eq_some_iff.1 hbb).1 (fun hbo => ?_)).trans hbb
    obtain ⟨cur, hc⟩ := own_type ho (b := b) (by simpa using hbo)
    rw [hc] at hbb
    injection hbb with hbb; injection hbb with _ h5 _; exact ht h5.symm
end Go.Proofs.YtplekbpmfaghbaaGreatDoor
