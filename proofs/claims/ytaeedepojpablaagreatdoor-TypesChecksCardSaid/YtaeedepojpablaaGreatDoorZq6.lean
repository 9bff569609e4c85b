/- My own texts Sans, Range, Range2, LexA, Gen, as far as this claim needs them. -/
import Derived.Test.YtaeedepojpablaaGreatDoorZq5
import Derived.RangeFuncBox
import Derived.RangeFuncNested
import Derived.RangeFuncLeaves
import Derived.OwnWalkIn
import Derived.TacticsInMore
import Derived.RegionIn
import Derived.LoopNIn
import Derived.LoopIn
import Derived.Shelf.Abstract
set_option linter.unusedVariables false
set_option linter.unusedSimpArgs false
set_option maxRecDepth 1000000
set_option maxHeartbeats 16000000
namespace Go.Proofs.YtaeedepojpablaaGreatDoor
open Go.RowKit
def sans (w : World) (S : List Nat) : World := { w with heap := w.heap.mapIdx fun b o => if b ∈ S then .cells #[] 0 (0, 0) else o }
theorem sans_size (w : World) (S : List Nat) : (sans w S).heap.size = w.heap.size := by simp [sans]
theorem sans_get (w : World) (S : List Nat) (b : Nat) : (sans w S).heap[b]? = (w.heap[b]?).map fun o => if b ∈ S then .cells #[] 0 (0, 0) else o := by simp [sans]
theorem sans_in {w : World} {S : List Nat} {b : Nat} {cs : Array Value} {t : TypeId} {fr : Nat × Nat} (h : (sans w S).heap[b]? = some (.cells cs t fr)) (hc : cs ≠ #[]) : b ∉ S ∧ w.heap[b]? = some (.cells cs t fr) := by
 rw [sans_get] at h; obtain ⟨o, ho, h⟩ := Option.map_eq_some_iff.1 h; split at h
 ·injection h with h; exact absurd h.symm hc
 ·exact ⟨‹_›, ho.trans (congrArg some h)⟩
theorem sans_out {w : World} {S : List Nat} {b : Nat} (h : b ∉ S) : (sans w S).heap[b]? = w.heap[b]? := by
 rw [sans_get]; simp [h]
theorem kept_up (w : World) (S : List Nat) (B : Nat) : Kept (sans w S) w B := fun _ _ _ _ _ h hc => (sans_in h hc).2
structure Out (S : List Nat) (w w' : World) : Prop where
 os : w'.os = w.os
 tape : w'.tape = w.tape
 output : w'.output = w.output
 size : w.heap.size ≤ w'.heap.size
 block : ∀ b, b < w.heap.size → b ∉ S → w'.heap[b]? = w.heap[b]?
theorem Out.of_below {w w' : World} (h : Below w.heap.size w w') (S : List Nat) : Out S w w' := ⟨h.os, h.tape, h.output, h.size, fun b hb _ => h.block b hb⟩
theorem Out.refl (S : List Nat) (w : World) : Out S w w := ⟨rfl, rfl, rfl, Nat.le_refl _, fun _ _ _ => rfl⟩
theorem Out.trans {S T : List Nat} {w w1 w2 : World} (h : Out S w w1) (h' : Out T w1 w2) (hT : ∀ b ∈ T, b < w.heap.size → b ∈ S) : Out S w w2 :=
 ⟨h'.os.trans h.os, h'.tape.trans h.tape, h'.output.trans h.output, Nat.le_trans h.size h'.size, fun b hb hS => (h'.block b (Nat.lt_of_lt_of_le hb h.size) (fun hb' => hS (hT b hb' hb))).trans (h.block b hb hS)⟩
theorem Out.mono {S T : List Nat} {w w' : World} (h : Out S w w') (hS : ∀ b ∈ S, b < w.heap.size → b ∈ T) : Out T w w' :=
 ⟨h.os, h.tape, h.output, h.size, fun b hb hb' => h.block b hb (fun hs => hb' (hS b hs hb))⟩
theorem Out.below {S : List Nat} {w w' : World} {B : Nat} (h : Out S w w') (hS : ∀ b ∈ S, B ≤ b) (hB : B ≤ w.heap.size) : Below B w w' :=
 ⟨h.os, h.tape, h.output, h.size, fun b hb => h.block b (by omega) (fun hs => by have := hS b hs; omega)⟩
theorem Out.kept {S T U : List Nat} {w w' : World} (h : Out S w w') (hT : ∀ b ∈ S, b < w.heap.size → b ∈ T) (hU : ∀ b ∈ U, b < w.heap.size → b ∈ T) : Kept (sans w T) (sans w' U) w.heap.size := fun b hb cs t fr hcs hc => by
 obtain ⟨hn, hw⟩ := sans_in hcs hc; rw [sans_out (fun hu => hn (hU b hu hb)), h.block b hb (fun hs => hn (hT b hs hb)), hw]
section
variable {α : Type} {E : Enc α} {w w' : World} {A : Option Addr} {n c : Nat} {l : List α}
def SliceFar (E : Enc α) (w : World) (S : List Nat) (A : Option Addr) (n c : Nat) (l : List α) : Prop := SliceIs E (sans w S) w.heap.size A n c l
theorem SliceFar.is {S : List Nat} (h : SliceFar E w S A n c l) : SliceIs E w w.heap.size A n c l := SliceIs.mono' h (Nat.le_refl _) (kept_up w S _)
theorem SliceFar.out {S T U : List Nat} (h : SliceFar E w T A n c l) (ho : Out S w w') (hT : ∀ b ∈ S, b < w.heap.size → b ∈ T) (hU : ∀ b ∈ U, b < w.heap.size → b ∈ T) : SliceFar E w' U A n c l :=
 SliceIs.mono' h ho.size (ho.kept hT hU)
theorem SliceFar.on {S : List Nat} (h : SliceFar E w S A n c l) (hb : Below w.heap.size w w') : SliceFar E w' S A n c l :=
 h.out (Out.of_below hb S) (fun _ hb _ => hb) (fun _ hb _ => hb)
theorem SliceFar.nil {S : List Nat} : SliceFar E w S none 0 0 ([] : List α) := SliceIs.nil
end
end Go.Proofs.YtaeedepojpablaaGreatDoor

namespace Go.Proofs.YtaeedepojpablaaGreatDoor
open Go.RowKit
structure Soft (B : Nat) (w w' : World) : Prop where
 os : w'.os = w.os
 tape : w'.tape = w.tape
 output : w'.output = w.output
 size : w.heap.size ≤ w'.heap.size
 same : ∀ b o, w.heap[b]? = some o → (b < B ∨ o.isCells = true) → w'.heap[b]? = some o
theorem Soft.trans {B : Nat} {w w1 w2 : World} (h : Soft B w w1) (k : Soft B w1 w2) : Soft B w w2 :=
 ⟨k.os.trans h.os, k.tape.trans h.tape, k.output.trans h.output, Nat.le_trans h.size k.size, fun b o hb ho => k.same b o (h.same b o hb ho) ho⟩
theorem Soft.of_below {w w' : World} (B : Nat) (h : Below w.heap.size w w') : Soft B w w' :=
 ⟨h.os, h.tape, h.output, h.size, fun b _ hb _ => (h.block b (glt hb)).trans hb⟩
theorem Soft.putObj {B : Nat} {w : World} {l : Nat} {o : Obj} (o' : Obj) (hB : B ≤ l) (hl : w.heap[l]? = some o) (ho : o.isCells = false) : Soft B w (w.putObj l o') :=
 ⟨rfl, rfl, rfl, by simp [World.putObj], fun b x hb hx => by
  by_cases e : b = l
  ·subst e; rw [hl] at hb; injection hb with hb; subst hb
   rcases hx with hx | hx
   ·omega
   ·rw [ho] at hx; cases hx
  ·exact (World.putObj_heap_other e).trans hb⟩
theorem Soft.below {B : Nat} {w w' : World} (h : Soft B w w') {A : Nat} (hA : A ≤ B) (hw : A ≤ w.heap.size) : Below A w w' :=
 ⟨h.os, h.tape, h.output, h.size, fun b hb => (h.same b _ (Array.getElem?_eq_getElem (by omega)) (.inl (by omega))).trans (Array.getElem?_eq_getElem (by omega)).symm⟩
theorem Soft.row {B : Nat} {w w' : World} (h : Soft B w w') {b : Nat} {cs : Array Value} {t : TypeId} {fr : Nat × Nat} (hb : w.heap[b]? = some (.cells cs t fr)) : w'.heap[b]? = some (.cells cs t fr) := h.same b _ hb (.inr rfl)
theorem Soft.own {B : Nat} {w w' : World} (h : Soft B w w') {base e sz : Nat} {v : Value} {n : Nat} {xs : List Value} (ho : w.ownsRow base e sz v n xs) : w'.ownsRow base e sz v n xs := by
 refine ⟨ho.1, ?_⟩; rcases ho.2 with hn | ⟨g, cap, cur, rfl, hg, hh, r⟩
 ·exact .inl hn
 ·exact .inr ⟨g, cap, cur, rfl, hg, h.row hh, r⟩
section
variable {n : Nat} {P : Program}
end
end Go.Proofs.YtaeedepojpablaaGreatDoor

namespace Go.Proofs.YtaeedepojpablaaGreatDoor
open Go.RowKit
structure Turn2 (S : List Nat) (N B0 : Nat) (w w' : World) : Prop where
 os : w'.os = w.os
 tape : w'.tape = w.tape
 output : w'.output = w.output
 size : w.heap.size ≤ w'.heap.size
 block : ∀ b, b < N → b ∉ S → w'.heap[b]? = w.heap[b]?
 fresh : ∀ b, B0 ≤ b → b < w.heap.size → w'.heap[b]? = w.heap[b]?
theorem Turn2.of_out {S T : List Nat} {N B0 : Nat} {w w' : World} (h : Out T w w') (hN : N ≤ w.heap.size) (hT : ∀ b ∈ T, b < w.heap.size → (b ∈ S ∨ N ≤ b) ∧ b < B0) : Turn2 S N B0 w w' :=
 ⟨h.os, h.tape, h.output, h.size, fun b hb hS => h.block b (by omega) (fun hbT => by rcases (hT b hbT (by omega)).1 with q | q; exact hS q; omega), fun b hb hbl => h.block b hbl (fun hbT => by have := (hT b hbT hbl).2; omega)⟩
theorem Turn2.of_below {S : List Nat} {N B0 : Nat} {w w' : World} (h : Below w.heap.size w w') (hN : N ≤ w.heap.size) : Turn2 S N B0 w w' :=
 ⟨h.os, h.tape, h.output, h.size, fun b hb _ => h.block b (by omega), fun b _ hb => h.block b hb⟩
def turnPost2 {α : Type} (S : List Nat) (N B0 : Nat) (I : Nat → List α → World → Prop) (Ix : Code → Nat → List α → World → Prop) (xs : List α) (W : World) : Exit → Act → World → Prop
 | .normal, _, W' => Turn2 S N B0 W W' ∧ I N xs W'
 | .ret, _, W' => Turn2 S N B0 W W' ∧ Ix .ret N xs W'
 | .exit id, _, W' => Turn2 S N B0 W W' ∧ Ix (.exit id) N xs W'
 | .goto t, _, W' => Turn2 S N B0 W W' ∧ Ix (.goto t) N xs W'
 | .panic _, _, _ => False
 | .outgrown, _, _ => False
def SeqR2 {α : Type} (P : Program) (g : Nat) (lb : Array Value) (encs : α → Array Value) (R : List α → α → Nat → World → Prop) (S₀ : List Nat) (S Sp : List α → Prop) (w : World) : Prop :=
 ∀ (l : Nat) (J Jx : Nat → List α → World → Prop) (W : World), Below w.heap.size w W → w.heap.size ≤ l → l < W.heap.size →
   (∀ N pre W1 W2, J N pre W1 → Below W1.heap.size W1 W2 → J N pre W2) →
   (∀ N W1, Below W.heap.size W W1 → W.heap.size ≤ N → N ≤ W1.heap.size → J N [] W1) →
   (∀ m N pre x W0 W1, J N pre W0 → Below W0.heap.size W0 W1 → R pre x W0.heap.size W1 → YieldAt Fence.wide m P l (encs x) W1 fun e W' =>
    (e = .returned (.bool true) ∧ J N (pre ++ [x]) W' ∧ W1.heap.size ≤ W'.heap.size ∧ (∀ b, b < N → b ∉ S₀ → b ≠ l → W'.heap[b]? = W1.heap[b]?) ∧ ∀ b, W0.heap.size ≤ b → b < W1.heap.size → W'.heap[b]? = W1.heap[b]?) ∨ (e = .returned (.bool false) ∧ Jx N (pre ++ [x]) W')) →
   Calls P g (#[.func (.yield l) #[] #[]] ++ lb) W fun e W' => (∃ v, e = .returned v) ∧ ((∃ N xs, S xs ∧ J N xs W') ∨ (∃ N pre, Sp pre ∧ Jx N pre W'))
section
variable {n : Nat} {P : Program}
theorem range_law2 {α : Type} {g : Operand} {ps : Array Tmp} {assign body : Code} {Q : Exit → Act → World → Prop} {a : Act} {w : World}
 {gf : Nat} {lb : Array Value} (hg : a.eval g = .func (.func gf) #[] lb) (eg : ∀ args w, (callFunc gf args).run P w = .ok (.enter gf args) w)
 {encs : α → Array Value} {R : List α → α → Nat → World → Prop} {S₀ : List Nat} {S Sp : List α → Prop} {w0 : World} (hseq : SeqR2 P gf lb encs R S₀ S Sp w0) (hb0 : Below w0.heap.size w0 w) (hS₀ : ∀ b ∈ S₀, b < w.heap.size) (hps : ∀ x, (encs x).size = ps.size)
 (I : Nat → List α → World → Prop) (Ix : Code → Nat → List α → World → Prop)
 (hI : ∀ N pre W W', I N pre W → Soft w.heap.size W W' → I N pre W') (hIx : ∀ c N pre W W', Ix c N pre W → Soft w.heap.size W W' → Ix c N pre W')
 (h0 : ∀ N W, Soft w.heap.size w W → w.heap.size + 2 ≤ N → N ≤ W.heap.size → I N [] W)
 (hround : ∀ (k N : Nat) (pre : List α) (x : α) (W0 W1 : World) (K : Act → World → Prop), I N pre W0 → Soft w.heap.size W0 W1 → w.heap.size + 2 ≤ N → N ≤ W0.heap.size → W0.heap.size ≤ W1.heap.size → R pre x W0.heap.size W1 →
  (∀ a' W1', Below W1.heap.size W1 W1' → (∀ W2, Soft w.heap.size W1' W2 → W2.heap.size = W1'.heap.size → body.wpIn (Fence.wide.inRound (w.heap.size + 1)) k P (turnPost2 S₀ N W0.heap.size I Ix (pre ++ [x]) W2) a' W2) → K a' W1') →
  assign.wpIn (Fence.wide.inRound (w.heap.size + 1)) k P (Exit.then K (fun _ _ _ => False)) { tmps := (ps.zip (encs x)).foldl (fun t (p, v) => t.setIfInBounds p v) a.tmps, defers := [] } W1)
 (hdone : ∀ (N : Nat) (xs : List α) (W : World), S xs → I N xs W → W.heap[w.heap.size]? = some (.deferred (some [])) → Q .normal { a with defers := { target := .collected w.heap.size, args := #[] } :: a.defers } W)
 (hstop : ∀ (c : Code) (N : Nat) (pre : List α) (W : World), Sp pre → Ix c N pre W → W.heap[w.heap.size]? = some (.deferred (some [])) → c.wpIn Fence.wide n P Q { a with defers := { target := .collected w.heap.size, args := #[] } :: a.defers } W) :
 (Code.rangeFunc g ps assign body).wpIn Fence.wide n P Q a w := by
 refine wpIn_rangeFunc fun fn _ => ?_
 obtain ⟨rec, hrec⟩ : ∃ rec : LoopState → Option Code → Loop, rec = fun st pe => { state := st, pending := pe, fn, tmps := a.tmps, params := ps, assign, body, defers := w.heap.size } := ⟨_, rfl⟩
 obtain ⟨W1, hW1⟩ : ∃ W1, (w.alloc (.deferred (some []))).alloc (.loop (rec .ready none)) = W1 := ⟨_, rfl⟩
 have hL1 : W1.heap[w.heap.size + 1]? = some (.loop (rec .ready none)) := by rw [← hW1]; exact heapNew (by simp)
 have hK1 : W1.heap[w.heap.size]? = some (.deferred (some [])) := by rw [← hW1]; exact heapOld (heapNew rfl)
 have hbw : Below w.heap.size w W1 := by rw [← hW1]; exact belowA (belowA (Below.refl _ _) _) _
 have hz1 : W1.heap.size = w.heap.size + 2 := by rw [← hW1]; simp
 have hb1 : Below w0.heap.size w0 W1 := hb0.trans (hbw.mono hb0.size); have hs0 := hb0.size
 refine ⟨w.heap.size + 1, [{ target := .collected w.heap.size, args := #[] }], W1, { target := .fn (.func gf) lb, args := #[.func (.yield (w.heap.size + 1)) #[] #[]] }, W1, gf,
  #[.func (.yield (w.heap.size + 1)) #[] #[]] ++ lb, W1, ?_, ?_, fun _ _ => trivial, ?_, fun h => (by cases h), ?_⟩
 ·rw [← hW1, hrec]; exact run_enterLoop_outer _ _ _ _ _
 ·simp only [resolve, hg]; simp [go_sem]
 ·simp [invoke, go_sem, eg]
 refine callsIn_wide.2 ((hseq (w.heap.size + 1)
  (fun N pre W => I N pre W ∧ W.heap[w.heap.size + 1]? = some (.loop (rec .ready none)) ∧ W.heap[w.heap.size]? = some (.deferred (some [])) ∧ w.heap.size + 2 ≤ N ∧ N ≤ W.heap.size)
  (fun N pre W => ∃ c, Ix c N pre W ∧ W.heap[w.heap.size + 1]? = some (.loop (rec .done (some c))) ∧ W.heap[w.heap.size]? = some (.deferred (some [])))
  W1 hb1 (by omega) (by omega) ?_ ?_ ?_).mono ?_)
 ·rintro N pre A B ⟨h1, h2, h3, h4, h5⟩ hb; have l2 := (glt h2)
  exact ⟨hI _ _ _ _ h1 (Soft.of_below _ hb), (hb.block _ l2).trans h2, (hb.block _ (by omega)).trans h3, h4, Nat.le_trans h5 hb.size⟩
 ·intro N W hb hN hN2; have l2 := (glt hL1)
  exact ⟨h0 N W ((Soft.of_below _ hbw).trans (Soft.of_below _ hb)) (by omega) hN2, (hb.block _ l2).trans hL1, (hb.block _ (by omega)).trans hK1, by omega, hN2⟩
 ·rintro m N pre x W0 W ⟨hi, hl, hk, hN, hN2⟩ hbW hRx; have l0 := (glt hl)
  replace hl := (hbW.block _ l0).trans hl; replace hk := (hbW.block _ (by omega)).trans hk; have hsz := hbW.size; have hy := run_yield (P := P) (args := encs x) hl (by rw [hrec]; exact hps x); have hfold : ((rec .ready none).params.zip (encs x)).foldl (fun tmps (t, a) => tmps.setIfInBounds t a) (rec .ready none).tmps = (ps.zip (encs x)).foldl (fun t (p, v) => t.setIfInBounds p v) a.tmps := by rw [hrec]
  refine ⟨_, _, _, _, hy, roundIn_of_wpIn trivial ?_⟩; rw [hfold, show (rec .ready none).assign = assign by rw [hrec], show (rec .ready none).body = body by rw [hrec]]; have hlt : w.heap.size + 1 < W.heap.size := by omega
  refine hround m N pre x W0 W _ hi (Soft.of_below _ hbW) hN hN2 hsz hRx fun a' V hVb hbody0 => ?_
  have hVs := hVb.size; have hlV := (hVb.block _ hlt).trans hl; have hkV := (hVb.block _ (by omega)).trans hk; have hl2 : (V.putObj (w.heap.size + 1) (.loop { rec .ready none with state := .busy })).heap[w.heap.size + 1]? = some (.loop { rec .ready none with state := .busy }) := World.putObj_heap_same (by omega); have hk2 : (V.putObj (w.heap.size + 1) (.loop { rec .ready none with state := .busy })).heap[w.heap.size]? = some (.deferred (some [])) := (World.putObj_heap_other (by omega)).trans hkV; have hsoft : Soft w.heap.size V (V.putObj (w.heap.size + 1) (.loop { rec .ready none with state := .busy })) := Soft.putObj _ (by omega) hlV rfl; have hz2 : (V.putObj (w.heap.size + 1) (.loop { rec .ready none with state := .busy })).heap.size = V.heap.size := by simp [World.putObj]
  have hbody := hbody0 _ hsoft hz2; refine ⟨_, run_beginRound hlV (by rw [hrec]), ?_⟩; refine wpIn_mono hbody ?_
  have fin : ∀ (jump : Option Code) (W3 : World), Turn2 S₀ N W0.heap.size (V.putObj (w.heap.size + 1) (.loop { rec .ready none with state := .busy })) W3 →
   (Instr.endRound (w.heap.size + 1) jump).run P W3 = .ok (.bool jump.isNone) (W3.putObj (w.heap.size + 1) (.loop (rec (if jump.isNone then .ready else .done) jump))) ∧
   Soft w.heap.size W3 (W3.putObj (w.heap.size + 1) (.loop (rec (if jump.isNone then .ready else .done) jump))) ∧
   (W3.putObj (w.heap.size + 1) (.loop (rec (if jump.isNone then .ready else .done) jump))).heap[w.heap.size + 1]? = some (.loop (rec (if jump.isNone then .ready else .done) jump)) ∧
   (W3.putObj (w.heap.size + 1) (.loop (rec (if jump.isNone then .ready else .done) jump))).heap[w.heap.size]? = some (.deferred (some [])) ∧ W.heap.size ≤ (W3.putObj (w.heap.size + 1) (.loop (rec (if jump.isNone then .ready else .done) jump))).heap.size ∧
   (∀ b, b < N → b ∉ S₀ → b ≠ w.heap.size + 1 → (W3.putObj (w.heap.size + 1) (.loop (rec (if jump.isNone then .ready else .done) jump))).heap[b]? = W.heap[b]?) ∧ ∀ b, W0.heap.size ≤ b → b < W.heap.size → (W3.putObj (w.heap.size + 1) (.loop (rec (if jump.isNone then .ready else .done) jump))).heap[b]? = W.heap[b]? := fun jump W3 ht => by
   have hnl : ∀ b, w.heap.size ≤ b → b ∉ S₀ := fun b hb hS => by have := hS₀ b hS; omega
   have hl3 := (ht.block _ (by omega) (hnl _ (by omega))).trans hl2; have hk3 := (ht.block _ (by omega) (hnl _ (by omega))).trans hk2; have he := run_endRound (P := P) jump hl3; have hrr : ({ ({ rec .ready none with state := .busy } : Loop) with state := if jump.isNone then .ready else .done, pending := jump } : Loop) = rec (if jump.isNone then .ready else .done) jump := by rw [hrec]
   rw [hrr] at he; have hzz : ∀ o, (W3.putObj (w.heap.size + 1) o).heap.size = W3.heap.size := fun o => by simp [World.putObj]
   refine ⟨he, Soft.putObj _ (by omega) hl3 rfl, World.putObj_heap_same (glt hl3), (World.putObj_heap_other (by omega)).trans hk3, by rw [hzz]; have := ht.size; omega, ?_, ?_⟩
   ·intro b hb hS hbl; rw [World.putObj_heap_other hbl, ht.block b hb hS, World.putObj_heap_other hbl, hVb.block b (by omega)]
   ·intro b hb hbl; have hne : b ≠ w.heap.size + 1 := by omega
    rw [World.putObj_heap_other hne, ht.fresh b hb (by rw [hz2]; omega), World.putObj_heap_other hne, hVb.block b hbl]
  rintro e a3 W3 hp; cases e with
  | normal =>
    obtain ⟨ht, hi3⟩ := hp; obtain ⟨hr, hs3, hl4, hk4, hz4, hbl⟩ := fin none W3 ht; exact ⟨_, _, hr, .inl ⟨rfl, ⟨hI _ _ _ _ hi3 hs3, hl4, hk4, hN, by omega⟩, hz4, hbl⟩⟩
  | ret =>
    obtain ⟨ht, hi3⟩ := hp; obtain ⟨hr, hs3, hl4, hk4, hz4, hbl⟩ := fin (some .ret) W3 ht; exact ⟨_, _, hr, .inr ⟨rfl, .ret, hIx _ _ _ _ _ hi3 hs3, hl4, hk4⟩⟩
  | exit id =>
    obtain ⟨ht, hi3⟩ := hp; obtain ⟨hr, hs3, hl4, hk4, hz4, hbl⟩ := fin (some (.exit id)) W3 ht; exact ⟨_, _, hr, .inr ⟨rfl, .exit id, hIx _ _ _ _ _ hi3 hs3, hl4, hk4⟩⟩
  | goto t =>
    obtain ⟨ht, hi3⟩ := hp; obtain ⟨hr, hs3, hl4, hk4, hz4, hbl⟩ := fin (some (.goto t)) W3 ht; exact ⟨_, _, hr, .inr ⟨rfl, .goto t, hIx _ _ _ _ _ hi3 hs3, hl4, hk4⟩⟩
  | panic ch => exact hp.elim
  | outgrown => exact hp.elim
 ·rintro e W2 ⟨⟨v, rfl⟩, (⟨N, xs, hS, hi, hl, hk, -, -⟩ | ⟨N, pre, hSp, c, hi, hl, hk⟩)⟩
  ·exact ⟨none, _, by have := run_endLoop (P := P) hl (by rw [hrec]; simp); rw [hrec] at this; exact this, hdone N xs _ hS (hI _ _ _ _ hi (Soft.putObj _ (by omega) hl rfl)) ((World.putObj_heap_other (by omega)).trans hk)⟩
  ·exact ⟨some c, _, by have := run_endLoop (P := P) hl (by rw [hrec]; simp); rw [hrec] at this; exact this, hstop c N pre _ hSp (hIx _ _ _ _ _ hi (Soft.putObj _ (by omega) hl rfl)) ((World.putObj_heap_other (by omega)).trans hk)⟩
end
end Go.Proofs.YtaeedepojpablaaGreatDoor

namespace Go.Proofs.YtaeedepojpablaaGreatDoor
open Go.RowKit Go.Shelf
attribute [local go_sem] Oper.semAt_some
structure LX where
 q : GTok
 bad : Bool
def tokC (q : GTok) : Value := .agg #[.int .i64 q.k, .string (bytes q.t), .int .i64 q.a]
def encL (x : LX) : Array Value := #[tokC x.q, if x.bad then .iface 89 (.int .i64 2) else .nilIface]
def seqOf (r : List GTok × Option Nat) : List LX := r.1.map (fun q => ⟨q, false⟩) ++ (match r.2 with | some p => [⟨⟨0, [], p⟩, true⟩] | none => [])
def lexS (l : List UInt8) : List GTok × Option Nat := lexA wordK 0 l
def RL (L : List LX) (pre : List LX) (x : LX) (_base : Nat) (_W : World) : Prop := (pre ++ [x]) <+: L
theorem tok_range (l : List UInt8) : 0 ≤ (tokL wordK l).1 ∧ (tokL wordK l).1 ≤ 5 := by
 have hw : ∀ t, 0 ≤ wordK t ∧ wordK t ≤ 5 := by
  intro t; unfold wordK
  split
  ·omega
  ·split
   ·omega
   ·split
    ·omega
    ·split <;> omega
 unfold tokL; split
 ·exact hw _
 ·split <;> simp
theorem tokL_le (l : List UInt8) : (tokL wordK l).2 ≤ l.length := by
 by_cases h : (tokL wordK l).1 = 0
 ·revert h
  unfold tokL; split
  ·intro _; exact runL_le l
  ·split
   ·intro h; simp at h
   ·intro _; exact Nat.zero_le _
 ·exact (tokL_len l h).2
def lexG : List Nat := [7, 5, 6, 3, 1]
theorem gPow : Tryz.prog.globalNamed "internal/strconv.uint64pow10" = some 7 := by kernel_rfl
theorem tab_lt {W : World} (h : TabW W) : 7 < W.heap.size := by
 have h0 := h W (Below.refl _ _); have h1 := World.var?_cell gPow h0 0; exact World.block_lt_of_cell? W ⟨7, 0, none⟩ (h1.trans rfl)
theorem LexW.lt {W : World} (h : LexW W) : ∀ b ∈ lexG, b < W.heap.size := by
 obtain ⟨⟨t1, p1, h1⟩, ⟨t2, p2, h2⟩⟩ := h.err; obtain ⟨t3, fr3, h3⟩ := h.keys; obtain ⟨t4, fr4, h4⟩ := h.signs; intro b hb; simp only [lexG, List.mem_cons, List.not_mem_nil, or_false] at hb; rcases hb with rfl | rfl | rfl | rfl | rfl
 ·exact tab_lt h.tab
 ·exact World.block_lt_of_cell? W ⟨5, 0, none⟩ h1
 ·exact World.block_lt_of_cell? W ⟨6, 0, none⟩ h2
 ·exact (glt h3)
 ·exact (glt h4)
theorem LexW.keep {W W' : World} (h : LexW W) (hk : ∀ b ∈ lexG, W'.heap[b]? = W.heap[b]?) : LexW W' := by
 obtain ⟨⟨t1, p1, h1⟩, ⟨t2, p2, h2⟩⟩ := h.err; obtain ⟨t3, fr3, h3⟩ := h.keys; obtain ⟨t4, fr4, h4⟩ := h.signs; refine ⟨TabW.of ?_, ⟨⟨t1, p1, ?_⟩, ⟨t2, p2, ?_⟩⟩, ⟨t3, fr3, (hk _ (by simp [lexG])).trans h3⟩, ⟨t4, fr4, (hk _ (by simp [lexG])).trans h4⟩⟩
 ·have h0 := h.tab W (Below.refl _ _); unfold Lib.TabIs World.var? at h0 ⊢; rw [gPow] at h0 ⊢; simp only [Option.bind_some] at h0 ⊢; rw [hk _ (by simp [lexG])]; exact h0
 ·unfold World.cell? at h1 ⊢; rw [hk _ (by simp [lexG])]; exact h1
 ·unfold World.cell? at h2 ⊢; rw [hk _ (by simp [lexG])]; exact h2
theorem encL_bad (a : Nat) : encL ⟨⟨0, [], a⟩, true⟩ = #[.agg #[.int .i64 0, .string ⟨#[]⟩, .int .i64 a], .iface 89 (.int .i64 2)] := rfl
theorem encL_tok (q : GTok) : encL ⟨q, false⟩ = #[.agg #[.int .i64 q.k, .string (bytes q.t), .int .i64 q.a], .nilIface] := rfl
theorem seqOf_bad {a : Nat} {l : List UInt8} (hl : l ≠ []) (hs : skipG false l = 0) (h0 : (tokL wordK l).1 = 0) : seqOf (lexA wordK a l) = [⟨⟨0, [], a⟩, true⟩] := by
 rw [lexA_at hl hs, if_pos h0]; rfl
theorem seqOf_tok {a : Nat} {l : List UInt8} (hl : l ≠ []) (hs : skipG false l = 0) (h0 : (tokL wordK l).1 ≠ 0) : seqOf (lexA wordK a l) = ⟨⟨(tokL wordK l).1, l.take (tokL wordK l).2, a⟩, false⟩ :: seqOf (lexA wordK (a + (tokL wordK l).2) (l.drop (tokL wordK l).2)) := by
 rw [lexA_at hl hs, if_neg h0]; rfl
theorem lexAll_seq {w : World} (hW : LexW w) (s : ByteArray) (hs : s.size ≤ 140737488351232) {g : Nat} (hg : w.cell? ⟨g, 0, none⟩ = some (.string s)) (S : List Nat) (hgS : g ∉ S) (hGS : ∀ b ∈ lexG, b ∉ S) :
 SeqR2 Tryz.prog 128 #[.pointer (some ⟨g, 0, none⟩)] encL (RL (seqOf (lexS s.toList))) S (fun xs => Hid (xs = seqOf (lexS s.toList))) (fun pre => Hid (pre <+: seqOf (lexS s.toList))) w := by
 intro l J Jx W hbW hl hlW hJ h0 hY; have hbW0 := hbW; have Hlen := hZ9 (ba_len s); have HW := hZ9 (hW.on hbW); have HG := hZ9 hW.lt; have cg := below_cell hbW hg; have gl : g < w.heap.size := World.block_lt_of_cell? w _ hg; have HJ := hZ9 hJ; have H0 := hZ9 h0; have HY := hZ9 hY; have hsW := hbW.size; have hglW : g < W.heap.size := by omega
 have hneq : g ≠ l := by omega
 have HSk := hZ9 (fun (a : Nat) (ha : a ≤ s.size) (W : World) => skip_any s hs a ha W); have hSk0 := hZ9 (HSk.out 0 (by omega) W); obtain ⟨L, HL⟩ : ∃ L, Hid (L = seqOf (lexS s.toList)) := ⟨_, rfl⟩
 rw [← HL.out] at HY ⊢; clear hW hg hJ h0 hY hbW; refine (callsIn_wide (n := 0)).1 ?_; refine callsIn_of_wp Tryz.func128 rfl trivial ?_ rfl; simp only [Tryz.ntmps128, List.size_toArray, List.length_cons, List.length_nil, Nat.reduceAdd, Nat.reduceSub, Array.replicate_succ, Array.replicate_zero, List.push_toArray, List.append_toArray, List.nil_append, List.cons_append]; gi_wp2_with fail
 refine ⟨trivial, rfl, (callsIn_wide.2 hSk0.out).mono ?_⟩; rintro e w1 ⟨rfl, hb1⟩; have hz1 := hb1.size; have HJ0 : Hid (J W.heap.size [] w1) := H0.out _ w1 hb1 (Nat.le_refl _) hz1; have HB1 : Hid (∀ b, b < W.heap.size → b ≠ l → b ∉ S → w1.heap[b]? = W.heap[b]?) := fun b hb _ _ => hb1.block b hb
 have Hg : Hid (∀ W' : World, W'.heap[g]? = W.heap[g]? → W'.cell? ⟨g, 0, none⟩ = some (.string s)) := fun W' h => by
  unfold World.cell? at cg ⊢; rw [h]; exact cg
 have HLt := hZ9 (fun b (hb : b ∈ lexG) => show b < W.heap.size ∧ b ≠ l ∧ b ∉ S from by
  have h1 := HG.out b hb
  exact ⟨by omega, by omega, hGS b hb⟩)
 obtain ⟨a0, Ha0⟩ : ∃ a0 : Nat, Hid (a0 = 0 + skipG false (s.toList.drop 0)) := ⟨_, rfl⟩
 have ha0 : a0 ≤ s.size := by
  have h1 := skipG_le s.toList false; rw [ba_len] at h1; rw [Ha0.out]; simpa using h1
 have HL0 : Hid (L = [] ++ seqOf (lexA wordK a0 (s.toList.drop a0))) := by
  show _ = _; rw [HL.out, Ha0.out, List.nil_append]; unfold lexS; rw [lexA_skip]; simp
 have HS0 : Hid (skipG false (s.toList.drop a0) = 0) := by
  show _ = _; rw [Ha0.out]; simpa using skip_idem s.toList false
 rw [← Ha0.out]; clear hSk0 H0 cg hb1 HG Ha0; gi_wp2_with fail
 gi_loopw [3, 4] (fun i _ wr => ∃ (a : Nat) (pre : List LX), a ≤ s.size ∧ i = .int .i64 a ∧ Hid (L = pre ++ seqOf (lexA wordK a (s.toList.drop a))) ∧ Hid (skipG false (s.toList.drop a) = 0) ∧ Hid (J W.heap.size pre wr) ∧ Hid (∀ b, b < W.heap.size → b ≠ l → b ∉ S → wr.heap[b]? = W.heap[b]?) ∧ W.heap.size ≤ wr.heap.size) (fun i _ _ => s.size - (intOf i).toNat)
 case atStart => exact ⟨a0, [], ha0, rfl, HL0, HS0, HJ0, HB1, hz1⟩
 case round =>
  obtain ⟨a, pre, ha, rfl, HLa, HSa, HJa, HBa, hNa⟩ := hrel; have i0 : (0 : Int) ≤ (a : Int) := by omega
  have cg := Hg.out wr (HBa.out g hglW hneq hgS); by_cases hlt : a < s.size
  ·have i1 : (a : Int) < (s.size : Int) := by omega
   have i2 : (a : Int) ≤ (s.size : Int) := by omega
   have hne : s.toList.drop a ≠ [] := by
    intro h; have := congrArg List.length h; simp only [List.length_drop, List.length_nil, ba_len] at this; omega
   have HWr : LexW wr := HW.out.keep (fun b hb => HBa.out b (HLt.out b hb).1 (HLt.out b hb).2.1 (HLt.out b hb).2.2); have hn := next_any (s.extract a s.size) (by simp; omega) (by simp; omega) wr HWr; rw [ba_drop] at hn; unfold tokV at hn; have hnle := tokL_le (s.toList.drop a); have hk1 := fun h => (tokL_len (wk := wordK) (s.toList.drop a) h).1
   have hsb := fun h => seqOf_bad (a := a) hne HSa.out h
   have hst := fun h => seqOf_tok (a := a) hne HSa.out h
   obtain ⟨kk, hkk⟩ : ∃ kk, kk = (tokL wordK (s.toList.drop a)).1 := ⟨_, rfl⟩
   obtain ⟨nn, hnn⟩ : ∃ nn, nn = (tokL wordK (s.toList.drop a)).2 := ⟨_, rfl⟩
   rw [← hkk, ← hnn] at hn; rw [← hnn, List.length_drop, ba_len] at hnle; rw [← hkk, ← hnn] at hk1 hst; rw [← hkk] at hsb; obtain ⟨tx, Htx⟩ : ∃ tx, Hid (tx = bytes ((s.toList.drop a).take nn)) := ⟨_, rfl⟩
   rw [← Htx.out] at hn
   have hts : tx.size = nn := by
    rw [Htx.out, ← ba_len]; unfold bytes; rw [toList_mk, List.length_take, List.length_drop, ba_len]; omega
   have HN := hZ9 hn; have HSB := hZ9 hsb; have HST := hZ9 hst; have HK1 := hZ9 hk1; clear hn hsb hst hk1 hkk hnn hne HWr; gi_wp2_with fail
   refine ⟨trivial, rfl, (callsIn_wide.2 HN.out).mono ?_⟩; rintro e w2 ⟨rfl, hb2⟩; have hz2 := hb2.size; have hrc : (w2.alloc (.cells #[.int .i64 kk, .string tx, .int .i64 a] 178)).heap[w2.heap.size]? = some (.cells #[.int .i64 kk, .string tx, .int .i64 a] 178 (0, 0)) := heapNew rfl; obtain ⟨z0, z1, z2, f0, f1, f2⟩ := three_facts hrc; have hbc : Below wr.heap.size wr (w2.alloc (.cells #[.int .i64 kk, .string tx, .int .i64 a] 178)) := belowA hb2 _; have hzc : w2.heap.size < (w2.alloc (.cells #[.int .i64 kk, .string tx, .int .i64 a] 178)).heap.size := by simp
   by_cases h0 : kk = 0
   ·have q0 : ((kk : Int) == 0) = true := by simp [h0]
    have HX : Hid (L = pre ++ [⟨⟨0, [], a⟩, true⟩]) := by show _ = _; rw [HLa.out, HSB.out h0]
    have HYs := hZ9 (fun m => HY.out m W.heap.size pre ⟨⟨0, [], a⟩, true⟩ wr _ HJa.out hbc (by rw [HX.out]; exact List.prefix_rfl)); clear HSB HST HK1 h0; obtain ⟨fn, tmps, assign, body, hy, hR⟩ := HYs.out 0; have HRR := hZ9 hR; rw [encL_bad] at hy; clear hR HYs; gi_wp2_with fail
    refine ⟨rfl, HRR.out.mono ?_⟩; rintro e w4 (⟨rfl, hj, hz4, hbl, hfr⟩ | ⟨rfl, hj⟩)
    ·have HJ4 := hZ9 hj; have HE : Hid (pre ++ [⟨⟨0, [], a⟩, true⟩] = L) := HX.out.symm; clear hj hbl hfr hy HX HLa; gi_wp2_with fail
     refine bodyPost_ret (results_none rfl _ _ _) rfl ?_; exact ⟨⟨_, rfl⟩, .inl ⟨W.heap.size, _, HE, HJ4.out⟩⟩
    ·have HJ4 := hZ9 hj; have HE : Hid (pre ++ [⟨⟨0, [], a⟩, true⟩] <+: L) := by show _ <+: _; rw [HX.out]; exact List.prefix_rfl
     clear hj hy HX HLa; gi_wp2_with fail
     refine bodyPost_ret (results_none rfl _ _ _) rfl ?_; exact ⟨⟨_, rfl⟩, .inr ⟨W.heap.size, _, HE, HJ4.out⟩⟩
   ·have q0 : ((kk : Int) == 0) = false := by simpa using h0
    have HX : Hid (L = (pre ++ [⟨⟨kk, (s.toList.drop a).take nn, a⟩, false⟩]) ++ seqOf (lexA wordK (a + nn) ((s.toList.drop a).drop nn))) := by
     show _ = _; rw [HLa.out, HST.out h0]; simp
    have hn1 := HK1.out h0; have HYs := hZ9 (fun m => HY.out m W.heap.size pre ⟨⟨kk, (s.toList.drop a).take nn, a⟩, false⟩ wr _ HJa.out hbc (by show _ <+: _; rw [HX.out]; exact List.prefix_append _ _)); have hwz : ((a : Int) + (tx.size : Int)) = ((a + nn : Nat) : Int) := by omega
    have HSk1 := hZ9 (HSk.out (a + nn) (by omega)); obtain ⟨a2, Ha2⟩ : ∃ a2 : Nat, Hid (a2 = a + nn + skipG false (s.toList.drop (a + nn))) := ⟨_, rfl⟩
    rw [← Ha2.out] at HSk1; clear HSB HST HK1 h0; obtain ⟨fn, tmps, assign, body, hy, hR⟩ := HYs.out 0; have HRR := hZ9 hR; rw [encL_tok] at hy; simp only [← Htx.out] at hy; clear hR HYs; gi_wp2_with fail
    refine ⟨rfl, HRR.out.mono ?_⟩; rintro e w4 (⟨rfl, hj, hz4, hbl, hfr⟩ | ⟨rfl, hj⟩)
    ·have HJ4 := hZ9 hj; have HB4 : Hid (∀ b, b < W.heap.size → b ≠ l → b ∉ S → w4.heap[b]? = W.heap[b]?) := fun b hb hbl' hbS => (hbl b hb hbS hbl').trans ((hbc.block b (by omega)).trans (HBa.out b hb hbl' hbS))
     have hr4 := (hfr w2.heap.size hz2 hzc).trans hrc; obtain ⟨x0, x1, x2, -, -, -⟩ := three_facts hr4; have cg5 := Hg.out w4 (HB4.out g hglW hneq hgS); have hN4 : W.heap.size ≤ w4.heap.size := by omega
     have HL4 : Hid (L = (pre ++ [⟨⟨kk, (s.toList.drop a).take nn, a⟩, false⟩]) ++ seqOf (lexA wordK a2 (s.toList.drop a2))) := by
      show _ = _; rw [HX.out, List.drop_drop, lexA_skip, List.drop_drop, ← Ha2.out]
     have HS4 : Hid (skipG false (s.toList.drop a2) = 0) := by
      show _ = _; rw [Ha2.out, ← List.drop_drop]; exact skip_idem _ _
     have ha2 : a2 ≤ s.size := by
      have h1 := skipG_le (s.toList.drop (a + nn)) false; rw [List.length_drop, ba_len] at h1; have := Ha2.out; omega
     have ha3 : a < a2 := by have := Ha2.out; omega
     clear hj hbl hfr hy HX HLa HRR hr4 hrc z0 z1 z2 f0 f1 f2 cg; gi_wp2_with fail
     refine ⟨trivial, rfl, (callsIn_wide.2 (HSk1.out w4)).mono ?_⟩; rintro e w5 ⟨rfl, hb5⟩; have hz5 := hb5.size; have HJ5 := hZ9 (HJ.out _ _ w4 w5 HJ4.out hb5); have HB5 : Hid (∀ b, b < W.heap.size → b ≠ l → b ∉ S → w5.heap[b]? = W.heap[b]?) := fun b hb hbl' hbS => (hb5.block b (by omega)).trans (HB4.out b hb hbl' hbS)
     clear HJ4 HB4 x0 x1 x2 cg5; gi_wp2_with fail
     go_roundw
     case rel => exact ⟨a2, _, ha2, rfl, HL4, HS4, HJ5, HB5, by omega⟩
     case measure => simp [intOf]; omega
    ·have HJ4 := hZ9 hj; have HE : Hid (pre ++ [⟨⟨kk, (s.toList.drop a).take nn, a⟩, false⟩] <+: L) := by show _ <+: _; rw [HX.out]; exact List.prefix_append _ _
     clear hj hy HX HLa; gi_wp2_with fail
     refine bodyPost_ret (results_none rfl _ _ _) rfl ?_; exact ⟨⟨_, rfl⟩, .inr ⟨W.heap.size, _, HE, HJ4.out⟩⟩
  ·have i1 : ¬ (a : Int) < (s.size : Int) := by omega
   have HE : Hid (pre = L) := by
    show _ = _; rw [HLa.out, List.drop_eq_nil_of_le (by rw [Hlen.out]; omega)]; simp [lexA, lexF, seqOf]
   clear HLa; gi_wp2_with fail
   go_end0
   exact ⟨⟨_, rfl⟩, .inl ⟨W.heap.size, pre, HE.out, HJa.out⟩⟩
end Go.Proofs.YtaeedepojpablaaGreatDoor

namespace Go.Proofs.YtaeedepojpablaaGreatDoor
open Go.RowKit
theorem own_out' {w w' : World} {S : List Nat} {base e sz : Nat} {v : Value} {n : Nat} {xs : List Value} (h : w.ownsRow base e sz v n xs) (ho : Out S w w') (hS : ∀ b, v.ownBlock = some b → b ∉ S) : w'.ownsRow base e sz v n xs := by
 refine ⟨h.1, ?_⟩; rcases h.2 with hn | ⟨g, cap, cur, rfl, hg, hh, r⟩
 ·exact .inl hn
 ·exact .inr ⟨g, cap, cur, rfl, hg, (ho.block g (glt hh) (hS g rfl)).trans hh, r⟩
theorem own_blk {w : World} {base e sz : Nat} {v : Value} {n : Nat} {xs : List Value} (h : w.ownsRow base e sz v n xs) {b : Nat} (hb : v.ownBlock = some b) : base ≤ b ∧ b < w.heap.size := by
 rcases h.2 with ⟨hn, _⟩ | ⟨g, cap, cur, rfl, hg, hh, r⟩
 ·rw [hn] at hb; cases hb
 ·injection hb with hb; subst hb; exact ⟨hg, (glt hh)⟩
theorem set_one {W : World} {g e : Nat} {a b v : Value} (h : W.heap[g]? = some (.cells #[a, b] e (0, 0))) : (W.setCell ⟨g, 1, none⟩ v).heap[g]? = some (.cells #[a, v] e (0, 0)) := by
 simp [World.setCell, Array.getElem?_modify, h]
theorem set_zero {W : World} {g e : Nat} {a v : Value} (h : W.heap[g]? = some (.cells #[a] e (0, 0))) : (W.setCell ⟨g, 0, none⟩ v).heap[g]? = some (.cells #[v] e (0, 0)) := by
 simp [World.setCell, Array.getElem?_modify, h]
theorem World.heap_setCells_other' {W : World} {g i b : Nat} {v : Value} (h : b ≠ g) : (W.setCell ⟨g, i, none⟩ v).heap[b]? = W.heap[b]? := by
 simp [World.setCell, Array.getElem?_modify, Ne.symm h]
theorem World.size_setCell' {W : World} {a : Addr} {v : Value} : (W.setCell a v).heap.size = W.heap.size := by
 simp [World.setCell]
theorem set_out (W : World) (g i : Nat) (v : Value) : Out [g] W (W.setCell ⟨g, i, none⟩ v) :=
 ⟨rfl, rfl, rfl, by rw [World.size_setCell']; exact Nat.le_refl _, fun b _ hb => World.heap_setCells_other' (by simpa using hb)⟩
theorem grown_out {w w' : World} {row : Option Nat} (h : w.grownBy w' row) : Out row.toList w w' :=
 ⟨h.os, h.tape, h.output, h.size, fun b hb hr => h.block b hb (fun e => hr (by simp [← e]))⟩
end Go.Proofs.YtaeedepojpablaaGreatDoor
