/- A second law of a range over a function: besides what XRange's says, a round leaves alone what the iterator has made since the last one. No program. -/
import Derived.Test.YtdbpbchhkdconaaRange
import Derived.RangeFuncBox
import Derived.RangeFuncNested
import Derived.RangeFuncLeaves
import Derived.Test.YtdbpbchhkdconaaSans
namespace Go.Proofs.Ytdbpbchhkdconaa
open Go.RowKit
/-- a round's word: below N, and from B0 on among the old ones, the blocks of S alone have changed -/
structure Turn2 (S : List Nat) (N B0 : Nat) (w w' : World) : Prop where
  os : w'.os = w.os
  tape : w'.tape = w.tape
  output : w'.output = w.output
  size : w.heap.size ≤ w'.heap.size
  block : ∀ b, b < N → b ∉ S → w'.heap[b]? = w.heap[b]?
  fresh : ∀ b, B0 ≤ b → b < w.heap.size → w'.heap[b]? = w.heap[b]?
theorem Turn2.of_out {S T : List Nat} {N B0 : Nat} {w w' : World} (h : Out T w w') (hN : N ≤ w.heap.size) (hT : ∀ b ∈ T, b < w.heap.size → (b ∈ S ∨ N ≤ b) ∧ b < B0) : Turn2 S N B0 w w' :=
  ⟨h.os, h.tape, h.output, h.size, fun b hb hS => h.block b (by omega) (fun hbT => by rcases (hT b hbT (by omega)).1 with q | q; exact hS q; omega), fun b hb hbl => h.block b hbl (fun hbT => by have := (hT b hbT hbl).2; omega)⟩
theorem Turn2.of_below {S : List Nat} {N B0 : Nat} {w w' : World} (h : Below w.heap.size w w') (hN : N ≤ w.heap.size) : Turn2 S N B0 w w' :=
  ⟨h.os, h.tape, h.output, h.size, fun b hb _ => h.block b (by omega), fun b _ hb => h.block b hb⟩

/-- how the body of a round may be left -/
def turnPost2 {α : Type} (S : List Nat) (N B0 : Nat) (I : Nat → List α → World → Prop) (Ix : Code → Nat → List α → World → Prop) (xs : List α) (W : World) : Exit → Act → World → Prop
  | .normal, _, W' => Turn2 S N B0 W W' ∧ I N xs W'
  | .ret, _, W' => Turn2 S N B0 W W' ∧ Ix .ret N xs W'
  | .exit id, _, W' => Turn2 S N B0 W W' ∧ Ix (.exit id) N xs W'
  | .goto t, _, W' => Turn2 S N B0 W W' ∧ Ix (.goto t) N xs W'
  | .panic _, _, _ => False
  | .outgrown, _, _ => False

/-- the contract of an iterator: to each round it gives an element of which R holds, in memory that is new; it leans on what lay below N alone, but for the blocks of S₀ and the loop's record -/
def SeqR2 {α : Type} (P : Program) (g : Nat) (lb : Array Value) (encs : α → Array Value) (R : List α → α → Nat → World → Prop) (S₀ : List Nat) (S Sp : List α → Prop) (w : World) : Prop :=
  ∀ (l : Nat) (J Jx : Nat → List α → World → Prop) (W : World), Below w.heap.size w W → w.heap.size ≤ l → l < W.heap.size →
    (∀ N pre W1 W2, J N pre W1 → Below W1.heap.size W1 W2 → J N pre W2) →
    (∀ N W1, Below W.heap.size W W1 → W.heap.size ≤ N → N ≤ W1.heap.size → J N [] W1) →
    (∀ m N pre x W0 W1, J N pre W0 → Below W0.heap.size W0 W1 → R pre x W0.heap.size W1 → YieldAt Fence.wide m P l (encs x) W1 fun e W' =>
      (e = .returned (.bool true) ∧ J N (pre ++ [x]) W' ∧ W1.heap.size ≤ W'.heap.size ∧ (∀ b, b < N → b ∉ S₀ → b ≠ l → W'.heap[b]? = W1.heap[b]?) ∧ ∀ b, W0.heap.size ≤ b → b < W1.heap.size → W'.heap[b]? = W1.heap[b]?) ∨ (e = .returned (.bool false) ∧ Jx N (pre ++ [x]) W')) →
    Calls P g (#[.func (.yield l) #[] #[]] ++ lb) W fun e W' => (∃ v, e = .returned v) ∧ ((∃ N xs, S xs ∧ J N xs W') ∨ (∃ N pre, Sp pre ∧ Jx N pre W'))

section
variable {n : Nat} {P : Program}
/-- the statement 'for x := range g { .. }' -/
theorem range_law2 {α : Type} {g : Operand} {ps : Array Tmp} {assign body : Code} {Q : Exit → Act → World → Prop} {a : Act} {w : World}
    {gf : Nat} {lb : Array Value} (hg : a.eval g = .func (.func gf) #[] lb) (eg : ∀ args w, (callFunc gf args).run P w = .ok (.enter gf args) w)
    {encs : α → Array Value} {R : List α → α → Nat → World → Prop} {S₀ : List Nat} {S Sp : List α → Prop} {w0 : World} (hseq : SeqR2 P gf lb encs R S₀ S Sp w0) (hb0 : Below w0.heap.size w0 w) (hS₀ : ∀ b ∈ S₀, b < w.heap.size) (hps : ∀ x, (encs x).size = ps.size)
    (I : Nat → List α → World → Prop) (Ix : Code → Nat → List α → World → Prop)
    (hI : ∀ N pre W W', I N pre W → Soft w.heap.size W W' → I N pre W') (hIx : ∀ c N pre W W', Ix c N pre W → Soft w.heap.size W W' → Ix c N pre W')
    (h0 : ∀ N W, Soft w.heap.size w W → w.heap.size + 2 ≤ N → N ≤ W.heap.size → I N [] W)
    (hround : ∀ (k N : Nat) (pre : List α) (x : α) (W0 W1 : World) (K : Act → World → Prop), I N pre W0 → Soft w.heap.size W0 W1 → w.heap.size + 2 ≤ N → N ≤ W0.heap.size → W0.heap.size ≤ W1.heap.size → R pre x W0.heap.size W1 →
      (∀ a' W1', Below W1.heap.size W1 W1' → (∀ W2, Soft w.heap.size W1' W2 → W2.heap.size = W1'.heap.size → body.wpIn (Fence.wide.inRound (w.heap.size + 1)) k P (turnPost2 S₀ N W0.heap.size I Ix (pre ++ [x]) W2) a' W2) → K a' W1') →
      assign.wpIn (Fence.wide.inRound (w.heap.size + 1)) k P (Exit.then K (fun _ _ _ => False)) { tmps := (ps.zip (encs x)).foldl (fun t (p, v) => t.setIfInBounds p v) a.tmps, defers := [] } W1)
    (hdone : ∀ (N : Nat) (xs : List α) (W : World), S xs → I N xs W → W.heap[w.heap.size]? = some (.deferred (some [])) → Q .normal { a with defers := { target := .collected w.heap.size, args := #[] } :: a.defers } W)
    (hstop : ∀ (c : Code) (N : Nat) (pre : List α) (W : World), Sp pre → Ix c N pre W → W.heap[w.heap.size]? = some (.deferred (some [])) → c.wpIn Fence.wide n P Q { a with defers := { target := .collected w.heap.size, args := #[] } :: a.defers } W) :
    (Code.rangeFunc g ps assign body).wpIn Fence.wide n P Q a w := by
  refine wpIn_rangeFunc fun fn _ => ?_
  obtain ⟨rec, hrec⟩ : ∃ rec : LoopState → Option Code → Loop, rec = fun st pe => { state := st, pending := pe, fn, tmps := a.tmps, params := ps, assign, body, defers := w.heap.size } := ⟨_, rfl⟩
  obtain ⟨W1, hW1⟩ : ∃ W1, (w.alloc (.deferred (some []))).alloc (.loop (rec .ready none)) = W1 := ⟨_, rfl⟩
  have hL1 : W1.heap[w.heap.size + 1]? = some (.loop (rec .ready none)) := by rw [← hW1]; exact heapNew (by simp)
  have hK1 : W1.heap[w.heap.size]? = some (.deferred (some [])) := by rw [← hW1]; exact heapOld (heapNew rfl)
  have hbw : Below w.heap.size w W1 := by rw [← hW1]; exact belowA (belowA (Below.refl _ _) _) _
  have hz1 : W1.heap.size = w.heap.size + 2 := by rw [← hW1]; simp
  have hb1 : Below w0.heap.size w0 W1 := hb0.trans (hbw.mono hb0.size)
  have hs0 := hb0.size
  refine ⟨w.heap.size + 1, [{ target := .collected w.heap.size, args := #[] }], W1, { target := .fn (.func gf) lb, args := #[.func (.yield (w.heap.size + 1)) #[] #[]] }, W1, gf,
    #[.func (.yield (w.heap.size + 1)) #[] #[]] ++ lb, W1, ?_, ?_, fun _ _ => trivial, ?_, fun h => (by cases h), ?_⟩
  · rw [← hW1, hrec]; exact run_enterLoop_outer _ _ _ _ _
  · simp only [resolve, hg]
    simp [go_sem]
  · simp [invoke, go_sem, eg]
  refine callsIn_wide.2 ((hseq (w.heap.size + 1)
    (fun N pre W => I N pre W ∧ W.heap[w.heap.size + 1]? = some (.loop (rec .ready none)) ∧ W.heap[w.heap.size]? = some (.deferred (some [])) ∧ w.heap.size + 2 ≤ N ∧ N ≤ W.heap.size)
    (fun N pre W => ∃ c, Ix c N pre W ∧ W.heap[w.heap.size + 1]? = some (.loop (rec .done (some c))) ∧ W.heap[w.heap.size]? = some (.deferred (some [])))
    W1 hb1 (by omega) (by omega) ?_ ?_ ?_).mono ?_)
  · rintro N pre A B ⟨h1, h2, h3, h4, h5⟩ hb
    have l2 := (Array.getElem?_eq_some_iff.1 h2).1
    exact ⟨hI _ _ _ _ h1 (Soft.of_below _ hb), (hb.block _ l2).trans h2, (hb.block _ (by omega)).trans h3, h4, Nat.le_trans h5 hb.size⟩
  · intro N W hb hN hN2
    have l2 := (Array.getElem?_eq_some_iff.1 hL1).1
    exact ⟨h0 N W ((Soft.of_below _ hbw).trans (Soft.of_below _ hb)) (by omega) hN2, (hb.block _ l2).trans hL1, (hb.block _ (by omega)).trans hK1, by omega, hN2⟩
  · -- one round
    rintro m N pre x W0 W ⟨hi, hl, hk, hN, hN2⟩ hbW hRx
    have l0 := (Array.getElem?_eq_some_iff.1 hl).1
    replace hl := (hbW.block _ l0).trans hl
    replace hk := (hbW.block _ (by omega)).trans hk
    have hsz := hbW.size
    have hy := run_yield (P := P) (args := encs x) hl (by rw [hrec]; exact hps x)
    have hfold : ((rec .ready none).params.zip (encs x)).foldl (fun tmps (t, a) => tmps.setIfInBounds t a) (rec .ready none).tmps = (ps.zip (encs x)).foldl (fun t (p, v) => t.setIfInBounds p v) a.tmps := by rw [hrec]
    refine ⟨_, _, _, _, hy, roundIn_of_wpIn trivial ?_⟩
    rw [hfold, show (rec .ready none).assign = assign by rw [hrec], show (rec .ready none).body = body by rw [hrec]]
    have hlt : w.heap.size + 1 < W.heap.size := by omega
    refine hround m N pre x W0 W _ hi (Soft.of_below _ hbW) hN hN2 hsz hRx fun a' V hVb hbody0 => ?_
    have hVs := hVb.size
    have hlV := (hVb.block _ hlt).trans hl
    have hkV := (hVb.block _ (by omega)).trans hk
    have hl2 : (V.putObj (w.heap.size + 1) (.loop { rec .ready none with state := .busy })).heap[w.heap.size + 1]? = some (.loop { rec .ready none with state := .busy }) := World.putObj_heap_same (by omega)
    have hk2 : (V.putObj (w.heap.size + 1) (.loop { rec .ready none with state := .busy })).heap[w.heap.size]? = some (.deferred (some [])) := (World.putObj_heap_other (by omega)).trans hkV
    have hsoft : Soft w.heap.size V (V.putObj (w.heap.size + 1) (.loop { rec .ready none with state := .busy })) := Soft.putObj _ (by omega) hlV rfl
    have hz2 : (V.putObj (w.heap.size + 1) (.loop { rec .ready none with state := .busy })).heap.size = V.heap.size := by simp [World.putObj]
    have hbody := hbody0 _ hsoft hz2
    refine ⟨_, run_beginRound hlV (by rw [hrec]), ?_⟩
    refine wpIn_mono hbody ?_
    have fin : ∀ (jump : Option Code) (W3 : World), Turn2 S₀ N W0.heap.size (V.putObj (w.heap.size + 1) (.loop { rec .ready none with state := .busy })) W3 →
        (Instr.endRound (w.heap.size + 1) jump).run P W3 = .ok (.bool jump.isNone) (W3.putObj (w.heap.size + 1) (.loop (rec (if jump.isNone then .ready else .done) jump))) ∧
        Soft w.heap.size W3 (W3.putObj (w.heap.size + 1) (.loop (rec (if jump.isNone then .ready else .done) jump))) ∧
        (W3.putObj (w.heap.size + 1) (.loop (rec (if jump.isNone then .ready else .done) jump))).heap[w.heap.size + 1]? = some (.loop (rec (if jump.isNone then .ready else .done) jump)) ∧
        (W3.putObj (w.heap.size + 1) (.loop (rec (if jump.isNone then .ready else .done) jump))).heap[w.heap.size]? = some (.deferred (some [])) ∧ W.heap.size ≤ (W3.putObj (w.heap.size + 1) (.loop (rec (if jump.isNone then .ready else .done) jump))).heap.size ∧
        (∀ b, b < N → b ∉ S₀ → b ≠ w.heap.size + 1 → (W3.putObj (w.heap.size + 1) (.loop (rec (if jump.isNone then .ready else .done) jump))).heap[b]? = W.heap[b]?) ∧ ∀ b, W0.heap.size ≤ b → b < W.heap.size → (W3.putObj (w.heap.size + 1) (.loop (rec (if jump.isNone then .ready else .done) jump))).heap[b]? = W.heap[b]? := fun jump W3 ht => by
      have hnl : ∀ b, w.heap.size ≤ b → b ∉ S₀ := fun b hb hS => by have := hS₀ b hS; omega
      have hl3 := (ht.block _ (by omega) (hnl _ (by omega))).trans hl2
      have hk3 := (ht.block _ (by omega) (hnl _ (by omega))).trans hk2
      have he := run_endRound (P := P) jump hl3
      have hrr : ({ ({ rec .ready none with state := .busy } : Loop) with state := if jump.isNone then .ready else .done, pending := jump } : Loop) = rec (if jump.isNone then .ready else .done) jump := by rw [hrec]
      rw [hrr] at he
      have hzz : ∀ o, (W3.putObj (w.heap.size + 1) o).heap.size = W3.heap.size := fun o => by simp [World.putObj]
      refine ⟨he, Soft.putObj _ (by omega) hl3 rfl, World.putObj_heap_same (Array.getElem?_eq_some_iff.1 hl3).1, (World.putObj_heap_other (by omega)).trans hk3, by rw [hzz]; have := ht.size; omega, ?_, ?_⟩
      · intro b hb hS hbl
        rw [World.putObj_heap_other hbl, ht.block b hb hS, World.putObj_heap_other hbl, hVb.block b (by omega)]
      · intro b hb hbl
        have hne : b ≠ w.heap.size + 1 := by omega
        rw [World.putObj_heap_other hne, ht.fresh b hb (by rw [hz2]; omega), World.putObj_heap_other hne, hVb.block b hbl]
    rintro e a3 W3 hp
    cases e with
    | normal =>
      obtain ⟨ht, hi3⟩ := hp
      obtain ⟨hr, hs3, hl4, hk4, hz4, hbl⟩ := fin none W3 ht
      exact ⟨_, _, hr, .inl ⟨rfl, ⟨hI _ _ _ _ hi3 hs3, hl4, hk4, hN, by omega⟩, hz4, hbl⟩⟩
    | ret =>
      obtain ⟨ht, hi3⟩ := hp
      obtain ⟨hr, hs3, hl4, hk4, hz4, hbl⟩ := fin (some .ret) W3 ht
      exact ⟨_, _, hr, .inr ⟨rfl, .ret, hIx _ _ _ _ _ hi3 hs3, hl4, hk4⟩⟩
    | exit id =>
      obtain ⟨ht, hi3⟩ := hp
      obtain ⟨hr, hs3, hl4, hk4, hz4, hbl⟩ := fin (some (.exit id)) W3 ht
      exact ⟨_, _, hr, .inr ⟨rfl, .exit id, hIx _ _ _ _ _ hi3 hs3, hl4, hk4⟩⟩
    | goto t =>
      obtain ⟨ht, hi3⟩ := hp
      obtain ⟨hr, hs3, hl4, hk4, hz4, hbl⟩ := fin (some (.goto t)) W3 ht
      exact ⟨_, _, hr, .inr ⟨rfl, .goto t, hIx _ _ _ _ _ hi3 hs3, hl4, hk4⟩⟩
    | panic ch => exact hp.elim
    | outgrown => exact hp.elim
  · -- behind the iterator
    rintro e W2 ⟨⟨v, rfl⟩, (⟨N, xs, hS, hi, hl, hk, -, -⟩ | ⟨N, pre, hSp, c, hi, hl, hk⟩)⟩
    · exact ⟨none, _, by have := run_endLoop (P := P) hl (by rw [hrec]; simp); rw [hrec] at this; exact this, hdone N xs _ hS (hI _ _ _ _ hi (Soft.putObj _ (by omega) hl rfl)) ((World.putObj_heap_other (by omega)).trans hk)⟩
    · exact ⟨some c, _, by have := run_endLoop (P := P) hl (by rw [hrec]; simp); rw [hrec] at this; exact this, hstop c N pre _ hSp (hIx _ _ _ _ _ hi (Soft.putObj _ (by omega) hl rfl)) ((World.putObj_heap_other (by omega)).trans hk)⟩
end
end Go.Proofs.Ytdbpbchhkdconaa
