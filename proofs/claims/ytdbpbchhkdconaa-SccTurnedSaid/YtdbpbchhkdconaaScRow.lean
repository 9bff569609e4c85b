/- Rows of cells that are told by a function of the place. -/
import Derived.Test.YtdbpbchhkdconaaScTs
import Derived.Deep.OwnRows
namespace Go.Proofs.Ytdbpbchhkdconaa
open Go.RowKit

def rowF (f : Nat → Nat) (n : Nat) : Array Value := ((List.range n).map (fun v => Value.int .i64 (f v : Int))).toArray
theorem rowF_zero (n : Nat) : madeCells #[.int .i64 0] n = rowF (fun _ => 0) n := by
  apply Array.ext'
  unfold rowF madeCells
  simp
  intro a _
  rw [Nat.mod_one]; rfl
theorem rowF_set (f : Nat → Nat) (n x i : Nat) : (rowF f n).setIfInBounds x (.int .i64 (i : Int)) = rowF (updN f x i) n := by
  apply Array.ext_getElem?
  intro j
  unfold rowF updN
  simp only [List.setIfInBounds_toArray, List.getElem?_toArray, List.getElem?_set, List.length_map, List.length_range, List.getElem?_map]
  by_cases hj : x = j
  · subst hj
    by_cases hx : x < n
    · simp [hx]
    · simp [hx]
  · rw [if_neg hj]
    by_cases hx : j < n
    · simp [hx, Ne.symm hj]
    · simp [hx]
theorem rowF_get {f : Nat → Nat} {n x : Nat} (hx : x < n) : (rowF f n)[x]? = some (.int .i64 (f x : Int)) := by
  unfold rowF; simp [hx]

def rowV (f : Nat → Value) (n : Nat) : Array Value := ((List.range n).map f).toArray
theorem rowV_made (z : Value) (n : Nat) : madeCells #[z] n = rowV (fun _ => z) n := by
  apply Array.ext'
  unfold rowV madeCells
  simp
  intro a _
  rw [Nat.mod_one]; rfl
theorem rowV_set (f : Nat → Value) (n x : Nat) (v : Value) : (rowV f n).setIfInBounds x v = rowV (fun y => if y = x then v else f y) n := by
  apply Array.ext_getElem?
  intro j
  unfold rowV
  simp only [List.setIfInBounds_toArray, List.getElem?_toArray, List.getElem?_set, List.length_map, List.length_range, List.getElem?_map]
  by_cases hj : x = j
  · subst hj
    by_cases hx : x < n
    · simp [hx]
    · simp [hx]
  · rw [if_neg hj]
    by_cases hx : j < n
    · simp [hx, Ne.symm hj]
    · simp [hx]
theorem rowV_get {f : Nat → Value} {n x : Nat} (hx : x < n) : (rowV f n)[x]? = some (f x) := by
  unfold rowV; simp [hx]
theorem rowV_congr {f g : Nat → Value} {n : Nat} (h : ∀ x, x < n → f x = g x) : rowV f n = rowV g n := by
  unfold rowV
  congr 1
  exact List.map_congr_left (fun x hx => h x (List.mem_range.1 hx))

end Go.Proofs.Ytdbpbchhkdconaa
