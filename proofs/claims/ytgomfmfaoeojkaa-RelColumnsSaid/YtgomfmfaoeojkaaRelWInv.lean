/- RelWalks: what stays while a relation is gone through. -/
import Derived.Test.YtgomfmfaoeojkaaRelIs
namespace Go.Proofs.Ytgomfmfaoeojkaa
open Go.RowKit

theorem RelAt.soft {B : Nat} {w w' : World} {S : List Nat} {p : Nat} {rb : Option Nat} {ar : Int} {L : List (List GV)} (h : RelAt w S p rb ar L) (hs : Soft B w w') : RelAt w' S p rb ar L := by
  obtain ⟨A, c, xs, h1, h2, h3, h4⟩ := h.ex
  refine ⟨⟨A, c, xs, hs.row h1, hs.own h2, h3, ?_⟩, h.pS, h.rS, h.sorted, h.len, h.right⟩
  intro i t hi
  obtain ⟨B', n, d, hx, hf⟩ := h4 i t hi
  exact ⟨B', n, d, hx, hf.soft hs⟩

/-- what is there behind k rounds: those of L not yet met, and at most one more -/
def InvM (L : List (List GV)) (k : Nat) (more : List GV) (M : List (List GV)) : Prop := (∀ x ∈ L.drop k, x ∈ M) ∧ ∀ x ∈ M, x ∈ L.drop k ∨ x = more
theorem mem_add {ar : Int} {M : List (List GV)} {t x : List GV} (h : x ∈ M) : x ∈ addL ar M t := by
  unfold addL; split
  · exact mem_ins.2 (.inr h)
  · exact h
theorem add_mem {ar : Int} {M : List (List GV)} {t x : List GV} (h : x ∈ addL ar M t) : x ∈ M ∨ x = t := by
  unfold addL at h; split at h
  · rcases mem_ins.1 h with h | h
    · exact .inr h
    · exact .inl h
  · exact .inl h
theorem InvM.step {L M : List (List GV)} {k : Nat} {more t : List GV} {ar : Int} (hs : Sorted L) (h : InvM L k more M) (hk : L[k]? = some t) : t ∈ M ∧ InvM L (k + 1) more (addL ar (delL M t) more) := by
  obtain ⟨hlt, rfl⟩ := List.getElem?_eq_some_iff.1 hk
  have hd : L.drop k = L[k] :: L.drop (k + 1) := List.drop_eq_getElem_cons hlt
  have hs' : Sorted (L[k] :: L.drop (k + 1)) := by rw [← hd]; exact List.Pairwise.sublist (List.drop_sublist _ _) hs
  have hne : ∀ x ∈ L.drop (k + 1), x ≠ L[k] := by
    intro x hx e
    have := (List.pairwise_cons.1 hs').1 x hx
    rw [e, cmpL_self] at this; omega
  refine ⟨h.1 _ (by rw [hd]; exact List.mem_cons_self), ?_, ?_⟩
  · intro x hx
    exact mem_add (mem_del.2 ⟨h.1 x (by rw [hd]; exact List.mem_cons_of_mem _ hx), hne x hx⟩)
  · intro x hx
    rcases add_mem hx with hx | hx
    · obtain ⟨h1, h2⟩ := mem_del.1 hx
      rcases h.2 x h1 with h3 | h3
      · rw [hd] at h3
        rcases List.mem_cons.1 h3 with h3 | h3
        · exact absurd h3 h2
        · exact .inl h3
      · exact .inr h3
    · exact .inr hx
theorem InvM.done {L M : List (List GV)} {more : List GV} (h : InvM L L.length more M) (hs : Sorted M) : M.length ≤ 1 := by
  have h2 : ∀ x ∈ M, x = more := by
    intro x hx
    rcases h.2 x hx with h | h
    · simp at h
    · exact h
  match M, hs, h2 with
  | [], _, _ => simp
  | [_], _, _ => simp
  | a :: b :: r, hs, h2 =>
    have := (List.pairwise_cons.1 hs).1 b (by simp)
    rw [h2 a (by simp), h2 b (by simp), cmpL_self] at this; omega

structure WK where
  (g0 gr gc gn p q : Nat)
  (rb0 qb : Option Nat)
  ar : Int
  L : List (List GV)
  mv : Value
structure WOrd (K : WK) : Prop where
  p0 : K.g0 + 2 ≤ K.p
  pr : K.p < K.gr
  rb : ∀ b, K.rb0 = some b → K.g0 + 2 ≤ b ∧ b < K.gr
  rq : K.gr < K.q
  qc : K.q < K.gc
  qb : ∀ b, K.qb = some b → K.gr < b ∧ b < K.gc
  cn : K.gc < K.gn
structure WInv (K : WK) (w : World) (N k : Nat) (rb : Option Nat) (M : List (List GV)) (W : World) : Prop where
  rel : RelAt W (K.gn :: K.p :: rb.toList) K.p rb K.ar M
  cop : RelAt W (K.q :: (K.qb.toList ++ K.gn :: K.p :: rb.toList)) K.q K.qb K.ar K.L
  rbN : ∀ b, rb = some b → K.rb0 = some b ∨ N ≤ b
  r0 : W.heap[K.g0]? = some (.cells #[K.mv] 24 (0, 0))
  r1 : W.heap[K.g0 + 1]? = some (.cells #[.bool false] 4 (0, 0))
  r2 : W.heap[K.gr]? = some (.cells #[relP K.p] 28 (0, 0))
  r3 : W.heap[K.gc]? = some (.cells #[relP K.q] 28 (0, 0))
  r4 : W.heap[K.gn]? = some (.cells #[.int .i64 k] 3 (0, 0))
  low : Below K.g0 w W
  hN : N ≤ W.heap.size
  hn : K.gn < N
theorem ofGo_sub {ar : Int} : ∀ (l L : List (List GV)), (ofGo ar L l).2.length ≤ L.length + l.length
  | [], L => by simp [ofGo]
  | t :: l, L => by
    rw [ofGo]
    split
    · have h1 := ofGo_sub (ar := ar) l (addL ar L t)
      have h2 : (addL ar L t).length ≤ L.length + 1 := by
        unfold addL; split
        · have := posL_le L t; simp [insL]; omega
        · omega
      simp; omega
    · simp
section
variable {K : WK} {w W W' : World} {N k : Nat} {rb rb' : Option Nat} {M M' : List (List GV)}
theorem WInv.soft {B : Nat} (h : WInv K w N k rb M W) (hs : Soft B W W') (hB : K.g0 ≤ B) : WInv K w N k rb M W' :=
  ⟨h.rel.soft hs, h.cop.soft hs, h.rbN, hs.row h.r0, hs.row h.r1, hs.row h.r2, hs.row h.r3, hs.row h.r4, h.low.trans (hs.below hB (by have := (Array.getElem?_eq_some_iff.1 h.r0).1; omega)), Nat.le_trans h.hN hs.size, h.hn⟩
theorem WInv.blk (h : WInv K w N k rb M W) (o : WOrd K) : ∀ b ∈ K.p :: rb.toList, (K.g0 + 2 ≤ b ∧ b < K.gr) ∨ N ≤ b := by
  intro b hb
  simp at hb
  rcases hb with rfl | hb
  · exact .inl ⟨o.p0, o.pr⟩
  · rcases h.rbN b hb with hb | hb
    · exact .inl (o.rb b hb)
    · exact .inr hb
theorem WInv.out (h : WInv K w N k rb M W) (o : WOrd K) (ho : Out (K.p :: rb.toList) W W') (hr : RelAt W' (K.gn :: K.p :: rb'.toList) K.p rb' K.ar M') (hrb : ∀ b, rb' = some b → rb = some b ∨ W.heap.size ≤ b) : WInv K w N k rb' M' W' := by
  have hb := h.blk o
  have o1 := o.p0
  have o2 := o.pr
  have o4 := o.rq
  have o5 := o.qc
  have o7 := o.cn
  have hN := h.hN
  have hn := h.hn
  have old : ∀ {b : Nat} {x : Obj}, W.heap[b]? = some x → (b < K.g0 + 2 ∨ K.gr ≤ b) → b < N → W'.heap[b]? = some x := fun {b x} hx h1 h2 =>
    (ho.block b (Array.getElem?_eq_some_iff.1 hx).1 (fun hb' => by have := hb b hb'; omega)).trans hx
  refine ⟨hr, ?_, ?_, old h.r0 (by omega) (by omega), old h.r1 (by omega) (by omega), old h.r2 (by omega) (by omega), old h.r3 (by omega) (by omega), old h.r4 (by omega) (by omega), ?_, Nat.le_trans hN ho.size, hn⟩
  · refine h.cop.out ho ?_ ?_ (by simp) (fun b hb => by simp [hb])
    · intro b hbT hbl
      have h1 := hb b hbT
      refine ⟨by simp only [List.mem_cons, List.mem_append] at hbT ⊢; exact .inr (.inr (.inr hbT)), by omega, fun hq => ?_⟩
      have := o.qb b hq
      omega
    · intro b hbT hbl
      simp only [List.mem_cons, List.mem_append, Option.mem_toList] at hbT ⊢
      rcases hbT with hb | hb | hb | hb | hb
      · exact .inl hb
      · exact .inr (.inl hb)
      · exact .inr (.inr (.inl hb))
      · exact .inr (.inr (.inr (.inl hb)))
      · rcases hrb b hb with hb | hb
        · exact .inr (.inr (.inr (.inr hb)))
        · omega
  · intro b hb
    rcases hrb b hb with hb | hb
    · exact h.rbN b hb
    · exact .inr (by omega)
  · exact h.low.trans (ho.below (fun b hb' => by have := hb b hb'; omega) (by omega))
theorem WInv.inc (h : WInv K w N k rb M W) (o : WOrd K) : WInv K w N (k + 1) rb M (W.setCell ⟨K.gn, 0, none⟩ (.int .i64 ((k : Int) + 1))) := by
  have hb := h.blk o
  have o1 := o.p0
  have o2 := o.pr
  have o4 := o.rq
  have o5 := o.qc
  have o7 := o.cn
  have hN := h.hN
  have hn := h.hn
  have oS : Out [K.gn] W (W.setCell ⟨K.gn, 0, none⟩ (.int .i64 ((k : Int) + 1))) := set_out W K.gn 0 _
  have far : ∀ b ∈ K.p :: rb.toList, b ≠ K.gn := fun b hb' => by have := hb b hb'; omega
  have old : ∀ {b : Nat} {x : Obj}, W.heap[b]? = some x → b ≠ K.gn → (W.setCell ⟨K.gn, 0, none⟩ (.int .i64 ((k : Int) + 1))).heap[b]? = some x := fun hx hne => (World.heap_setCells_other' hne).trans hx
  have hq : ∀ b, K.qb = some b → b ≠ K.gn := fun b hb => by have := o.qb b hb; omega
  refine ⟨?_, ?_, h.rbN, old h.r0 (by omega), old h.r1 (by omega), old h.r2 (by omega), old h.r3 (by omega), ?_, h.low.setCell (by simp; omega) _, by rw [World.size_setCell']; exact hN, hn⟩
  · refine h.rel.out oS ?_ (fun b hb _ => hb) (by simp) (fun b hb => by simp [hb])
    intro b hbT hbl
    simp at hbT
    subst hbT
    exact ⟨by simp, by omega, fun hr => far K.gn (by simp [hr]) rfl⟩
  · refine h.cop.out oS ?_ (fun b hb _ => hb) (by simp) (fun b hb => by simp [hb])
    intro b hbT hbl
    simp at hbT
    subst hbT
    exact ⟨by simp, by omega, fun hr => hq _ hr rfl⟩
  · rw [set_zero h.r4]
    simp
end
end Go.Proofs.Ytgomfmfaoeojkaa
