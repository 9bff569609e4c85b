/- Worlds that change at a few blocks, and what lies outside of these. Plain. -/
import Derived.Test.YtdbpbchhkdconaaBase
namespace Go.Proofs.Ytdbpbchhkdconaa
open Go.RowKit

/-- the world with the blocks of S emptied: what is read there lies outside of S -/
def sans (w : World) (S : List Nat) : World := { w with heap := w.heap.mapIdx fun b o => if b ∈ S then .cells #[] 0 (0, 0) else o }
theorem sans_size (w : World) (S : List Nat) : (sans w S).heap.size = w.heap.size := by simp [sans]
theorem sans_get (w : World) (S : List Nat) (b : Nat) : (sans w S).heap[b]? = (w.heap[b]?).map fun o => if b ∈ S then .cells #[] 0 (0, 0) else o := by simp [sans]
theorem sans_in {w : World} {S : List Nat} {b : Nat} {cs : Array Value} {t : TypeId} {fr : Nat × Nat} (h : (sans w S).heap[b]? = some (.cells cs t fr)) (hc : cs ≠ #[]) : b ∉ S ∧ w.heap[b]? = some (.cells cs t fr) := by
  rw [sans_get] at h
  obtain ⟨o, ho, h⟩ := Option.map_eq_some_iff.1 h
  split at h
  · injection h with h; exact absurd h.symm hc
  · exact ⟨‹_›, ho.trans (congrArg some h)⟩
theorem sans_out {w : World} {S : List Nat} {b : Nat} (h : b ∉ S) : (sans w S).heap[b]? = w.heap[b]? := by
  rw [sans_get]; simp [h]
theorem kept_up (w : World) (S : List Nat) (B : Nat) : Kept (sans w S) w B := fun _ _ _ _ _ h hc => (sans_in h hc).2

/-- a world changed at the blocks of S alone (and new ones) -/
structure Out (S : List Nat) (w w' : World) : Prop where
  os : w'.os = w.os
  tape : w'.tape = w.tape
  output : w'.output = w.output
  size : w.heap.size ≤ w'.heap.size
  block : ∀ b, b < w.heap.size → b ∉ S → w'.heap[b]? = w.heap[b]?
theorem Out.of_below {w w' : World} (h : Below w.heap.size w w') (S : List Nat) : Out S w w' := ⟨h.os, h.tape, h.output, h.size, fun b hb _ => h.block b hb⟩
theorem Out.refl (S : List Nat) (w : World) : Out S w w := ⟨rfl, rfl, rfl, Nat.le_refl _, fun _ _ _ => rfl⟩
theorem Out.trans {S T : List Nat} {w w1 w2 : World} (h : Out S w w1) (h' : Out T w1 w2) (hT : ∀ b ∈ T, b < w.heap.size → b ∈ S) : Out S w w2 :=
  ⟨h'.os.trans h.os, h'.tape.trans h.tape, h'.output.trans h.output, Nat.le_trans h.size h'.size, fun b hb hS => (h'.block b (Nat.lt_of_lt_of_le hb h.size) (fun hb' => hS (hT b hb' hb))).trans (h.block b hb hS)⟩
theorem Out.mono {S T : List Nat} {w w' : World} (h : Out S w w') (hS : ∀ b ∈ S, b < w.heap.size → b ∈ T) : Out T w w' :=
  ⟨h.os, h.tape, h.output, h.size, fun b hb hb' => h.block b hb (fun hs => hb' (hS b hs hb))⟩
/-- nothing old has changed -/
theorem Out.below {S : List Nat} {w w' : World} {B : Nat} (h : Out S w w') (hS : ∀ b ∈ S, B ≤ b) (hB : B ≤ w.heap.size) : Below B w w' :=
  ⟨h.os, h.tape, h.output, h.size, fun b hb => h.block b (by omega) (fun hs => by have := hS b hs; omega)⟩

theorem Out.kept {S T U : List Nat} {w w' : World} (h : Out S w w') (hT : ∀ b ∈ S, b < w.heap.size → b ∈ T) (hU : ∀ b ∈ U, b < w.heap.size → b ∈ T) : Kept (sans w T) (sans w' U) w.heap.size := fun b hb cs t fr hcs hc => by
  obtain ⟨hn, hw⟩ := sans_in hcs hc
  rw [sans_out (fun hu => hn (hU b hu hb)), h.block b hb (fun hs => hn (hT b hs hb)), hw]

section
variable {α : Type} {E : Enc α} {w w' : World} {A : Option Addr} {n c : Nat} {l : List α}
/-- a slice that lies outside of S -/
def SliceFar (E : Enc α) (w : World) (S : List Nat) (A : Option Addr) (n c : Nat) (l : List α) : Prop := SliceIs E (sans w S) w.heap.size A n c l
theorem SliceFar.is {S : List Nat} (h : SliceFar E w S A n c l) : SliceIs E w w.heap.size A n c l := SliceIs.mono' h (Nat.le_refl _) (kept_up w S _)
theorem SliceFar.out {S T U : List Nat} (h : SliceFar E w T A n c l) (ho : Out S w w') (hT : ∀ b ∈ S, b < w.heap.size → b ∈ T) (hU : ∀ b ∈ U, b < w.heap.size → b ∈ T) : SliceFar E w' U A n c l :=
  SliceIs.mono' h ho.size (ho.kept hT hU)
/-- the same S, nothing old changed -/
theorem SliceFar.on {S : List Nat} (h : SliceFar E w S A n c l) (hb : Below w.heap.size w w') : SliceFar E w' S A n c l :=
  h.out (Out.of_below hb S) (fun _ hb _ => hb) (fun _ hb _ => hb)
theorem SliceFar.bound {S : List Nat} (h : SliceFar E w S A n c l) : n ≤ 140737488351232 := SliceIs.bound h
/-- what is older than S lies outside of it -/
theorem SliceFar.old {S : List Nat} {B : Nat} (h : SliceIs E w B A n c l) (hB : B ≤ w.heap.size) (hS : ∀ b ∈ S, B ≤ b) : SliceFar E w S A n c l :=
  SliceIs.mono' h hB fun b hb cs t fr hcs hc => by rw [sans_out (fun hs => by have := hS b hs; omega), hcs]
theorem SliceFar.nil {S : List Nat} : SliceFar E w S none 0 0 ([] : List α) := SliceIs.nil
end
end Go.Proofs.Ytdbpbchhkdconaa
