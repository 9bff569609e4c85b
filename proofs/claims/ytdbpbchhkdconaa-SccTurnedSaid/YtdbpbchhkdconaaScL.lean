/- Tarjan's way ends a node; slices.Index, Clone, Sort at small numbers. -/
import Derived.Test.YtdbpbchhkdconaaScE
import Derived.Test.YtdbpbchhkdconaaScSk
import Derived.Test.YtdbpbchhkdconaaShelf
namespace Go.Proofs.Ytdbpbchhkdconaa
open Go.RowKit Go.Sort

def natC (n : Nat) : Value := .int .i64 (n : Int)
set_option maxRecDepth 100000 in
set_option maxHeartbeats 1000000 in
theorem indexN_any (A : Option Addr) (n c : Nat) (l : List Nat) (x : Nat) (w : World) (h : SliceIs Enc.nat w w.heap.size A n c l) (hx : x ∈ l) : Calls Try.prog 71 #[.slice A n c, .int .i64 (x : Int)] w (fun e w' => e = .returned (.int .i64 ((l.idxOf x : Nat) : Int)) ∧ w' = w) := by
  have hn := h.bound
  have Hlen := Lib.hid h.1
  have Hx := Lib.hid hx
  obtain ⟨r, Hr⟩ : ∃ r, Hid (l.idxOf x = r) := ⟨_, rfl⟩
  rw [Hr.out]
  have HS := Lib.hid h
  clear h hx
  go_enter Try.func71, Try.ntmps71
  go_wp2_with fail
  go_loop [5, 8] (fun _ i => ∃ k : Nat, k ≤ n ∧ i = .int .i64 (k : Int) ∧ Hid (k ≤ r)) (fun _ i => n - (intOf i).toNat)
  case atStart => exact ⟨0, by omega, rfl, Nat.zero_le _⟩
  case round =>
    obtain ⟨k, hk, rfl, Hk⟩ := hrel
    have hrl : Hid (r < n) := by show _ < _; rw [← Hr.out, ← Hlen.out]; exact List.idxOf_lt_length_of_mem Hx.out
    have hlt : k < n := by have := hrl.out; have := Hk.out; omega
    obtain ⟨b, o, y, rfl, _, hy, y0, hy1⟩ := HS.out.nat_at hlt
    have i0 : (0 : Int) ≤ (k : Int) := by omega
    have i1 : (k : Int) < (n : Int) := by omega
    by_cases he : y = x
    · have z : ((x : Int) == (y : Int)) = true := by simp [he]
      have e : Hid (r = k) := by
        show r = k
        have h1 : k < l.length := by rw [Hlen.out]; exact hlt
        have h2 : l[k] = x := by have := hy.out; rw [List.getElem?_eq_getElem h1] at this; injection this with this; rw [this, he]
        have h3 : l.idxOf x ≤ k := by
          rcases Nat.lt_or_ge k (l.idxOf x) with hh | hh
          · exact absurd h2 (by have := List.not_of_lt_findIdx (xs := l) (p := fun a => a == x) (i := k) (by simpa [List.idxOf] using hh); simpa using this)
          · exact hh
        have := Hk.out
        have := Hr.out
        omega
      clear he
      go_wp2_with fail
      go_ret
      exact ⟨by simp [e.out], rfl⟩
    · have z : ((x : Int) == (y : Int)) = false := by simp; omega
      have e : Hid (k + 1 ≤ r) := by
        show _ ≤ _
        have := Hk.out
        rcases Nat.lt_or_ge k r with hh | hh
        · omega
        · exfalso
          have : r = k := by omega
          have h1 : k < l.length := by rw [Hlen.out]; exact hlt
          have h2 : l[l.idxOf x]'(List.idxOf_lt_length_of_mem Hx.out) = x := List.getElem_idxOf (List.idxOf_lt_length_of_mem Hx.out)
          have h3 := hy.out
          rw [← this, ← Hr.out, List.getElem?_eq_getElem (List.idxOf_lt_length_of_mem Hx.out), h2] at h3
          injection h3 with h3
          exact he h3.symm
      clear he
      go_wp2_with fail
      go_round
      case rel => exact ⟨k + 1, by omega, by go_num, e⟩
      case measure => simp [intOf]; omega

theorem cloneN_any (A : Option Addr) (n c : Nat) (l : List Nat) (w : World) (h : SliceIs Enc.nat w w.heap.size A n c l) (h0 : 0 < n) (hn : n ≤ 1000000) : Calls Try.prog 72 #[.slice A n c] w (fun e w' => ∃ b c', e = .returned (.slice (some ⟨b, 0, none⟩) n c') ∧ w'.ownsRow w.heap.size 3 1 (.slice (some ⟨b, 0, none⟩) n c') n (l.map natC) ∧ Below w.heap.size w w') := by
  obtain ⟨b, o, x, rfl, -, -, -, -⟩ := h.nat_at h0
  have hl := h.1
  refine (Try.slices_Clone_int b o n c (l.map Int.ofNat) w (by simp [hl]) (by omega) (fun j hj => ?_)).mono ?_
  · have hj' : j < n := by simp [hl] at hj; exact hj
    obtain ⟨b', o', y, hA, -, hy, hc, -⟩ := h.nat_at hj'
    injection hA with hA; injection hA with e1 e2; subst e1; subst e2
    rw [hc]
    have : (l.map Int.ofNat).getD j 0 = (y : Int) := by
      rw [List.getD_eq_getElem?_getD, List.getElem?_map, hy.out]; rfl
    rw [this]
  · rintro e w' ⟨v', rfl, hv, -, hb⟩
    have e1 : ((l.map Int.ofNat).take n).map (Value.int .i64) = l.map natC := by
      rw [List.take_of_length_le (by simp [hl]), List.map_map]; rfl
    rw [e1] at hv
    rcases hv.2 with ⟨-, hz⟩ | ⟨g, cap, cur, rfl, hg, r⟩
    · omega
    · exact ⟨g, cap, rfl, hv, hb⟩
theorem sortN_any (B b n c : Nat) (l : List Nat) (w : World) (h : w.ownsRow B 3 1 (.slice (some ⟨b, 0, none⟩) n c) n (l.map natC)) (hn : n ≤ 1000000) : Calls Try.prog 73 #[.slice (some ⟨b, 0, none⟩) n c] w
    (fun e w' => e = .returned (.tuple #[]) ∧ ∃ q : List Nat, q.Perm l ∧ q.Pairwise (· ≤ ·) ∧ w'.ownsRow B 3 1 (.slice (some ⟨b, 0, none⟩) n c) n (q.map natC) ∧ Out [b] w w') := by
  have hl : (l.map Int.ofNat).length = n := by have := h.1; simpa using this
  have hcs : (l.map Int.ofNat).toArray.toList.map (Value.int .i64) = l.map natC := by rw [List.toList_toArray, List.map_map]; rfl
  have hH := own_holds (enc := Value.int .i64) (d := (l.map Int.ofNat).toArray) h hcs
  have hb : b < w.heap.size := (own_blk h rfl).2
  have hS := Try.slices_Sort_int b 0 c (l.map Int.ofNat) w hH hb (by omega)
  rw [hl] at hS
  refine hS.mono ?_
  rintro e w' ⟨rfl, k, os, rfl⟩
  refine ⟨rfl, ((l.map Int.ofNat).mergeSort fun x y => decide (x ≤ y)).map Int.toNat, ?_, ?_, ?_⟩
  · have h1 := (List.mergeSort_perm (l.map Int.ofNat) (fun x y => decide (x ≤ y))).map Int.toNat
    rw [List.map_map] at h1
    have e1 : l.map (Int.toNat ∘ Int.ofNat) = l := by
      conv => rhs; rw [← List.map_id l]
      exact List.map_congr_left (fun x _ => by simp)
    rw [e1] at h1
    exact h1
  · have h2 := List.pairwise_mergeSort (le := fun (x y : Int) => decide (x ≤ y)) (by intro a b c h1 h2; simp at *; omega) (by intro a b; simp; omega) (l.map Int.ofNat)
    rw [List.pairwise_map]
    exact h2.imp (fun hh => by simp at hh; omega)
  · have hsz : ((l.map Int.ofNat).mergeSort fun x y => decide (x ≤ y)).toArray.size = n := by simp [List.length_mergeSort]; have := h.1; simpa using this
    have h3 := own_sorted (enc := Value.int .i64) (d := ((l.map Int.ofNat).mergeSort fun x y => decide (x ≤ y)).toArray) (k := k) (os := os) h hsz
    have e2 : (((l.map Int.ofNat).mergeSort fun x y => decide (x ≤ y)).map Int.toNat).map natC = ((l.map Int.ofNat).mergeSort fun x y => decide (x ≤ y)).toArray.toList.map (Value.int .i64) := by
      rw [List.map_map, List.toList_toArray]
      apply List.map_congr_left
      intro x hx
      obtain ⟨y, -, rfl⟩ := List.mem_map.1 ((List.mergeSort_perm _ _).mem_iff.1 hx)
      rfl
    rw [e2]
    exact h3
end Go.Proofs.Ytdbpbchhkdconaa
