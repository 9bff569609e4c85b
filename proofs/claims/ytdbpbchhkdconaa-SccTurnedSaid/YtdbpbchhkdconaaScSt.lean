/- Tarjan's plain state beside the one in memory: sizes, what the frames need. Nothing of any program. -/
import Derived.Test.YtdbpbchhkdconaaMa1
namespace Go.Proofs.Ytdbpbchhkdconaa

section
variable {Nn : Nat} {succ : Nat → List Nat} {σ : TS}
theorem nodup_of_inc {f : Nat → Nat} : ∀ {l : List Nat}, l.Pairwise (fun a b => f a < f b) → l.Nodup
  | [], _ => .nil
  | a :: l, h => by
    rw [List.pairwise_cons] at h
    rw [List.nodup_cons]
    exact ⟨fun hm => Nat.lt_irrefl _ (h.1 a hm), nodup_of_inc h.2⟩
theorem TInv.stk_nodup (h : TInv succ σ) : σ.stk.Nodup := nodup_of_inc h.inc
theorem TInv.nodes_nodup (h : TInv succ σ) : σ.nodes.Nodup := nodup_of_inc (f := σ.idx) (h.winc.imp fun hh => hh.1)
theorem TInv.stk_in (h : TInv succ σ) (hi : TIn Nn σ) {v : Nat} (hv : v ∈ σ.stk) : v < Nn := hi.lt (by have := h.pos hv; omega)
theorem TInv.stk_len (h : TInv succ σ) (hi : TIn Nn σ) : σ.stk.length ≤ Nn := nodup_lenN Nn _ h.stk_nodup (fun _ hv => h.stk_in hi hv)
theorem TInv.wrk_len (h : TInv succ σ) (hi : TIn Nn σ) : σ.wrk.length ≤ Nn := by
  have := nodup_lenN Nn σ.nodes h.nodes_nodup (fun v hv => h.stk_in hi (h.wst v hv))
  simpa [TS.nodes] using this
theorem flat_many : ∀ (l : List (List Nat)), (∀ p ∈ l, p ≠ []) → l.length ≤ l.flatten.length
  | [], _ => Nat.le_refl _
  | p :: l, h => by
    have ih := flat_many l (fun q hq => h q (List.mem_cons_of_mem _ hq))
    have hp := List.length_pos_iff.2 (h p (List.mem_cons_self ..))
    simp only [List.length_cons, List.flatten_cons, List.length_append]
    omega
theorem TInv.out_len (h : TInv succ σ) (hi : TIn Nn σ) : σ.out.length ≤ Nn :=
  Nat.le_trans (flat_many σ.out (fun p hp => (h.scc p hp).1)) (nodup_lenN Nn _ h.nod (fun v hv => hi.lt ((h.vis v).2 (.inr hv))))
/-- what a frame needs still, its node needs -/
def FIn (succ : Nat → List Nat) (σ : TS) : Prop := ∀ f ∈ σ.wrk, ∀ j ∈ f.2, j ∈ succ f.1
theorem FIn.enter (h : FIn succ σ) {ws : List (Nat × List Nat)} {k : Nat} (hw : ∀ f ∈ ws, ∃ g ∈ σ.wrk, f.1 = g.1 ∧ ∀ j ∈ f.2, j ∈ g.2) : FIn succ (σ.enter succ ws k) := by
  intro f hf j hj
  rcases List.mem_append.1 (show f ∈ ws ++ [(k, succ k)] from hf) with hf | hf
  · obtain ⟨g, hg, e, hh⟩ := hw f hf
    rw [e]; exact h g hg j (hh j hj)
  · simp at hf; subst hf; exact hj
theorem FIn.pass (h : FIn succ σ) {ws : List (Nat × List Nat)} {n k : Nat} {rest : List Nat} (hw : σ.wrk = ws ++ [(n, k :: rest)]) : FIn succ (σ.pass ws n k rest) := by
  intro f hf j hj
  rcases List.mem_append.1 (show f ∈ ws ++ [(n, rest)] from hf) with hf | hf
  · exact h f (by rw [hw]; exact List.mem_append_left _ hf) j hj
  · simp at hf; subst hf
    exact h (n, k :: rest) (by rw [hw]; simp) j (List.mem_cons_of_mem _ hj)
theorem leave_wrk (σ : TS) (ws : List (Nat × List Nat)) (n : Nat) : (σ.leave ws n).wrk = ws ∧ (σ.leave ws n).idx = σ.idx ∧ (σ.leave ws n).cnt = σ.cnt := by
  unfold TS.leave
  dsimp only
  split <;> exact ⟨rfl, rfl, rfl⟩
theorem leave_low (σ : TS) (ws : List (Nat × List Nat)) (n : Nat) : (σ.leave ws n).low = match ws.getLast? with
    | some f => updN σ.low f.1 (min (σ.low f.1) (σ.low n))
    | none => σ.low := by
  unfold TS.leave
  dsimp only
  split <;> rfl
theorem FIn.leave (h : FIn succ σ) {ws : List (Nat × List Nat)} {n : Nat} {r : List Nat} (hw : σ.wrk = ws ++ [(n, r)]) : FIn succ (σ.leave ws n) := by
  intro f hf j hj
  rw [(leave_wrk σ ws n).1] at hf
  exact h f (by rw [hw]; exact List.mem_append_left _ hf) j hj
/-- the way's last node is reached from all nodes of the way -/
theorem TInv.to_last (h : TInv succ σ) {ws : List (Nat × List Nat)} {n : Nat} {r : List Nat} (hw : σ.wrk = ws ++ [(n, r)]) : ∀ w ∈ σ.nodes, Rch succ w n := by
  intro w hm
  have hw2 := h.winc
  have e : σ.nodes = ws.map Prod.fst ++ [n] := by simp [TS.nodes, hw]
  rw [e] at hm hw2
  rw [List.pairwise_append] at hw2
  rcases List.mem_append.1 hm with hm | hm
  · exact (hw2.2.2 w hm n (by simp)).2
  · simp at hm; subst hm; exact .refl _
/-- a need that is not found is begun -/
theorem TInv.step_enter (h : TInv succ σ) (hf : FIn succ σ) {ws : List (Nat × List Nat)} {n k : Nat} {rest : List Nat} (hw : σ.wrk = ws ++ [(n, k :: rest)]) (hk : σ.idx k = 0) : TInv succ (σ.enter succ (ws ++ [(n, rest)]) k) := by
  have hkn : k ∈ succ n := hf (n, k :: rest) (by rw [hw]; simp) k (List.mem_cons_self ..)
  refine h.enter hk (by simp [TS.nodes, hw]) (fun w hm => (h.to_last hw w hm).trans (.one hkn)) ?_
  intro v j hjk hh f hfm hfv
  rw [hw] at hfm
  rcases List.mem_append.1 hfm with hfm | hfm
  · exact hh f (List.mem_append_left _ hfm) hfv
  · simp at hfm; subst hfm
    intro hm
    rcases List.mem_cons.1 hm with rfl | hm
    · exact hjk rfl
    · exact hh (n, rest) (by simp) hfv hm
theorem TInv.first_enter (h : TInv succ σ) (hw : σ.wrk = []) {k : Nat} (hk : σ.idx k = 0) : TInv succ (σ.enter succ [] k) :=
  h.enter hk (by simp [TS.nodes, hw]) (fun w hm => by simp [TS.nodes, hw] at hm) (fun v j _ _ f hf => by rw [hw] at hf; cases hf)
end
end Go.Proofs.Ytdbpbchhkdconaa
