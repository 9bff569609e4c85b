/- value.Compare and the document's Less; value.Of, Symbol: what each computes. -/
import Derived.Test.YtgomfmfaoeojkaaBytes
import Derived.Test.YtgomfmfaoeojkaaName
import Derived.Deep.RegionHeld3
namespace Go.Proofs.Ytgomfmfaoeojkaa
open Go.RowKit

def cmpN (x y : Int) : Int := if x < y then -1 else if y < x then 1 else 0
def cmpB (x y : List UInt8) : Int := if Op.bytesLess x y then -1 else if Op.bytesLess y x then 1 else 0
def RetSame (n : Int) (w : World) (e : Ending) (w' : World) : Prop := e = .returned (.int .i64 n) ∧ w' = w

set_option maxRecDepth 100000 in
set_option maxHeartbeats 400000 in
theorem cmpK_any (x y : Int) (w : World) : Calls Try.prog 82 #[.int .i64 x, .int .i64 y] w (RetSame (cmpN x y) w) := by
  by_cases h1 : x < y
  · rw [show cmpN x y = -1 by simp [cmpN, h1]]
    go_enter Try.func82, Try.ntmps82
    go_wp2
    go_ret
    exact ⟨rfl, rfl⟩
  · by_cases h2 : y < x
    · rw [show cmpN x y = 1 by simp [cmpN, h1, h2]]
      go_enter Try.func82, Try.ntmps82
      go_wp2
      go_ret
      exact ⟨rfl, rfl⟩
    · rw [show cmpN x y = 0 by simp [cmpN, h1, h2]]
      go_enter Try.func82, Try.ntmps82
      go_wp2
      go_ret
      exact ⟨rfl, rfl⟩

set_option maxRecDepth 100000 in
set_option maxHeartbeats 400000 in
theorem cmpI_any (x y : Int) (w : World) : Calls Try.prog 83 #[.int .i64 x, .int .i64 y] w (RetSame (cmpN x y) w) := by
  by_cases h1 : x < y
  · rw [show cmpN x y = -1 by simp [cmpN, h1]]
    go_enter Try.func83, Try.ntmps83
    go_wp2
    go_ret
    exact ⟨rfl, rfl⟩
  · by_cases h2 : y < x
    · rw [show cmpN x y = 1 by simp [cmpN, h1, h2]]
      go_enter Try.func83, Try.ntmps83
      go_wp2
      go_ret
      exact ⟨rfl, rfl⟩
    · rw [show cmpN x y = 0 by simp [cmpN, h1, h2]]
      go_enter Try.func83, Try.ntmps83
      go_wp2
      go_ret
      exact ⟨rfl, rfl⟩

set_option maxRecDepth 100000 in
set_option maxHeartbeats 400000 in
theorem cmpS_any (x y : ByteArray) (w : World) : Calls Try.prog 84 #[.string x, .string y] w (RetSame (cmpB x.toList y.toList) w) := by
  cases h1 : Op.bytesLess x.toList y.toList with
  | true =>
    rw [show cmpB x.toList y.toList = -1 by simp [cmpB, h1]]
    go_enter Try.func84, Try.ntmps84
    go_wp2
    go_ret
    exact ⟨rfl, rfl⟩
  | false =>
    cases h2 : Op.bytesLess y.toList x.toList with
    | true =>
      rw [show cmpB x.toList y.toList = 1 by simp [cmpB, h1, h2]]
      have h3 : (x.toList == y.toList) = false := by
        rw [Bool.eq_false_iff]
        intro h
        rw [beq_iff_eq] at h
        rw [h, bl_irrefl] at h2
        cases h2
      go_enter Try.func84, Try.ntmps84
      go_wp2
      go_ret
      exact ⟨rfl, rfl⟩
    | false =>
      rw [show cmpB x.toList y.toList = 0 by simp [cmpB, h1, h2]]
      have h3 : (x.toList == y.toList) = true := by simpa using bl_total _ _ h1 h2
      go_enter Try.func84, Try.ntmps84
      go_wp2
      go_ret
      exact ⟨rfl, rfl⟩

/-- the first that is not nought -/
def firstNZ : List Int → Int
  | [] => 0
  | x :: l => if x = 0 then firstNZ l else x
theorem firstNZ_take {L : List Int} {k : Nat} {x : Int} (hx : L[k]? = some x) (h : ∀ y ∈ L.take k, y = 0) (hx0 : x ≠ 0) : firstNZ L = x := by
  induction L generalizing k with
  | nil => simp at hx
  | cons a L ih =>
    cases k with
    | zero => simp at hx; subst hx; simp [firstNZ, hx0]
    | succ k =>
      simp at hx
      have ha : a = 0 := h a (by simp)
      simp only [firstNZ, if_pos ha]
      exact ih hx (fun y hy => h y (by simp [hy]))
theorem firstNZ_all {L : List Int} (h : ∀ y ∈ L, y = 0) : firstNZ L = 0 := by
  induction L with
  | nil => rfl
  | cons a L ih =>
    simp only [firstNZ, if_pos (h a (by simp))]
    exact ih (fun y hy => h y (by simp [hy]))

set_option maxRecDepth 100000 in
set_option maxHeartbeats 1000000 in
theorem or_any (A : Option Addr) (n c : Nat) (L : List Int) (w : World) (hl : SliceIs Enc.int w w.heap.size A n c L) :
    Calls Try.prog 81 #[.slice A n c] w (RetSame (firstNZ L) w) := by
  have hn := hl.bound
  have hlen := Lib.hid hl.1
  obtain ⟨r, hr⟩ : ∃ r, firstNZ L = r := ⟨_, rfl⟩
  rw [hr]
  have Hr := Lib.hid hr
  clear hr
  go_enter Try.func81, Try.ntmps81
  go_wp2_with fail
  go_loop [5, 8] (fun _ i => ∃ k : Nat, k ≤ n ∧ i = .int .i64 k ∧ Hid (∀ y ∈ L.take k, y = 0)) (fun _ i => n - (intOf i).toNat)
  case atStart => exact ⟨0, by omega, rfl, fun y hy => by simp at hy⟩
  case round =>
    obtain ⟨k, hk, rfl, hpre⟩ := hrel
    by_cases hlt : k < n
    · obtain ⟨b, o, x, rfl, _, hx, hc, hf⟩ := hl.int_at hlt
      have i0 : (0 : Int) ≤ (k : Int) := by omega
      have i1 : (k : Int) < (n : Int) := by omega
      clear hl
      by_cases hx0 : x = 0
      · subst hx0
        go_wp2_with fail
        go_round
        case rel =>
          refine ⟨k + 1, by omega, by go_num, fun y hy => ?_⟩
          rw [List.take_add_one, hx.out] at hy
          rcases List.mem_append.1 hy with hy | hy
          · exact hpre.out y hy
          · simpa using hy
        case measure => simp [intOf]; omega
      · have e : r = x := by rw [← Hr.out]; exact firstNZ_take hx.out hpre.out hx0
        subst e
        go_wp2_with fail
        go_ret
        exact ⟨rfl, rfl⟩
    · have e : r = 0 := by
        rw [← Hr.out]
        refine firstNZ_all fun y hy => hpre.out y ?_
        rw [List.take_of_length_le (by have := hlen.out; omega)]
        exact hy
      subst e
      have i1 : ¬ (k : Int) < (n : Int) := by omega
      go_wp2_with fail
      go_ret
      exact ⟨rfl, rfl⟩

theorem cmpV_first (a b : GV) : firstNZ [cmpN a.k b.k, cmpN a.n b.n, cmpB a.s.toList b.s.toList] = cmpV a b := by
  have z1 : (cmpN a.k b.k = 0) ↔ a.k = b.k := by unfold cmpN; split <;> (try split) <;> omega
  have z2 : (cmpN a.n b.n = 0) ↔ a.n = b.n := by unfold cmpN; split <;> (try split) <;> omega
  by_cases h1 : a.k = b.k
  · have e1 : cmpN a.k b.k = 0 := z1.2 h1
    by_cases h2 : a.n = b.n
    · have e2 : cmpN a.n b.n = 0 := z2.2 h2
      simp only [firstNZ, if_pos e1, if_pos e2]
      unfold cmpV lessV
      rw [if_pos h1, if_pos h2, if_pos h1.symm, if_pos h2.symm]
      unfold cmpB
      cases h3 : Op.bytesLess a.s.toList b.s.toList with
      | true => rw [bl_asymm _ _ h3]; simp
      | false => cases h4 : Op.bytesLess b.s.toList a.s.toList <;> simp
    · have e2 : ¬ cmpN a.n b.n = 0 := fun h => h2 (z2.1 h)
      simp only [firstNZ, if_pos e1, if_neg e2]
      unfold cmpV lessV
      rw [if_pos h1, if_neg h2, if_pos h1.symm, if_neg (Ne.symm h2)]
      unfold cmpN
      by_cases h3 : a.n < b.n
      · have h4 : ¬ b.n < a.n := by omega
        simp [h3, h4]
      · have h4 : b.n < a.n := by omega
        simp [h3, h4]
  · have e1 : ¬ cmpN a.k b.k = 0 := fun h => h1 (z1.1 h)
    simp only [firstNZ, if_neg e1]
    unfold cmpV lessV
    rw [if_neg h1, if_neg (Ne.symm h1)]
    unfold cmpN
    by_cases h3 : a.k < b.k
    · have h4 : ¬ b.k < a.k := by omega
      simp [h3, h4]
    · have h4 : b.k < a.k := by omega
      simp [h3, h4]

theorem ints3 {W : World} {p q r : Int} (hp : fits p) (hq : fits q) (hr : fits r) : SliceIs Enc.int (W.alloc (.cells #[.int .i64 p, .int .i64 q, .int .i64 r] 3)) (W.alloc (.cells #[.int .i64 p, .int .i64 q, .int .i64 r] 3)).heap.size (some ⟨W.heap.size, 0, none⟩) 3 3 [p, q, r] :=
  SliceIs.of_block (fun n => [.int .i64 n]) (fun _ => rfl) (Go.heap_alloc_new W _) rfl (by simp [reachN]) (fun x hx => ⟨rfl, by
    simp only [List.mem_cons, List.not_mem_nil, or_false] at hx
    rcases hx with rfl | rfl | rfl <;> assumption⟩)
theorem cmpN_fits (x y : Int) : fits (cmpN x y) := by unfold cmpN; split <;> (try split) <;> (unfold fits; decide)
theorem cmpB_fits (x y : List UInt8) : fits (cmpB x y) := by unfold cmpB; split <;> (try split) <;> (unfold fits; decide)

set_option maxRecDepth 100000 in
set_option maxHeartbeats 1000000 in
theorem compare_any (a b : GV) (w : World) : Calls Try.prog 73 #[a.v, b.v] w (RetInt (cmpV a b) w) := by
  rw [← cmpV_first]
  have hK := Lib.hid (fun w => cmpK_any a.k b.k w)
  have hI := Lib.hid (fun w => cmpI_any a.n b.n w)
  have hS := Lib.hid (fun w => cmpS_any a.s b.s w)
  have f1 := cmpN_fits a.k b.k
  have f2 := cmpN_fits a.n b.n
  have f3 := cmpB_fits a.s.toList b.s.toList
  generalize cmpN a.k b.k = p at *
  generalize cmpN a.n b.n = q at *
  generalize cmpB a.s.toList b.s.toList = r at *
  have hO := Lib.hid (fun W => or_any (some ⟨W.heap.size, 0, none⟩) 3 3 [p, q, r] (W.alloc (.cells #[.int .i64 p, .int .i64 q, .int .i64 r] 3)).drew (ints3 (W := W) f1 f2 f3))
  generalize firstNZ [p, q, r] = res at hO ⊢
  clear f1 f2 f3
  go_enter Try.func73, Try.ntmps73
  go_wp2_with fail
  have hbw : Below w.heap.size w ((w.alloc (.cells #[.int .i64 a.k, .int .i64 a.n, .string a.s] 56)).alloc (.cells #[.int .i64 b.k, .int .i64 b.n, .string b.s] 56)) := belowA (belowA (Below.refl _ _) _) _
  have hg0 : ((w.alloc (.cells #[.int .i64 a.k, .int .i64 a.n, .string a.s] 56)).alloc (.cells #[.int .i64 b.k, .int .i64 b.n, .string b.s] 56)).heap[w.heap.size]? = some (.cells #[.int .i64 a.k, .int .i64 a.n, .string a.s] 56 (0, 0)) := heapOld (heapNew rfl)
  have hg1 : ((w.alloc (.cells #[.int .i64 a.k, .int .i64 a.n, .string a.s] 56)).alloc (.cells #[.int .i64 b.k, .int .i64 b.n, .string b.s] 56)).heap[w.heap.size + 1]? = some (.cells #[.int .i64 b.k, .int .i64 b.n, .string b.s] 56 (0, 0)) := heapNew (by simp)
  generalize (w.alloc (.cells #[.int .i64 a.k, .int .i64 a.n, .string a.s] 56)).alloc (.cells #[.int .i64 b.k, .int .i64 b.n, .string b.s] 56) = wb at hbw hg0 hg1 ⊢
  have hl0 := (Array.getElem?_eq_some_iff.1 hg0).1
  have hl1 := (Array.getElem?_eq_some_iff.1 hg1).1
  have Hk := Lib.hid (fun W (h : Below wb.heap.size wb W) => show W.cell? ⟨w.heap.size, 0, none⟩ = some (.int .i64 a.k) ∧ W.cell? ⟨w.heap.size, 1, none⟩ = some (.int .i64 a.n) ∧ W.cell? ⟨w.heap.size, 2, none⟩ = some (.string a.s) ∧ W.cell? ⟨w.heap.size + 1, 0, none⟩ = some (.int .i64 b.k) ∧ W.cell? ⟨w.heap.size + 1, 1, none⟩ = some (.int .i64 b.n) ∧ W.cell? ⟨w.heap.size + 1, 2, none⟩ = some (.string b.s) from
    ⟨(cell_of_row _ _ 0 _ _ _ ((h.block _ hl0).trans hg0)).trans rfl, (cell_of_row _ _ 1 _ _ _ ((h.block _ hl0).trans hg0)).trans rfl, (cell_of_row _ _ 2 _ _ _ ((h.block _ hl0).trans hg0)).trans rfl, (cell_of_row _ _ 0 _ _ _ ((h.block _ hl1).trans hg1)).trans rfl, (cell_of_row _ _ 1 _ _ _ ((h.block _ hl1).trans hg1)).trans rfl, (cell_of_row _ _ 2 _ _ _ ((h.block _ hl1).trans hg1)).trans rfl⟩)
  clear hg0 hg1 hl0 hl1
  go_region_held3 (fun w' => w'.cell? ⟨w.heap.size, 0, none⟩ = some (.int .i64 a.k) ∧ w'.cell? ⟨w.heap.size, 1, none⟩ = some (.int .i64 a.n) ∧ w'.cell? ⟨w.heap.size, 2, none⟩ = some (.string a.s) ∧ w'.cell? ⟨w.heap.size + 1, 0, none⟩ = some (.int .i64 b.k) ∧ w'.cell? ⟨w.heap.size + 1, 1, none⟩ = some (.int .i64 b.n) ∧ w'.cell? ⟨w.heap.size + 1, 2, none⟩ = some (.string b.s))
    (first
      | (refine Hk.out _ ?_; (repeat (first | with_reducible exact Below.refl _ _ | with_reducible assumption | with_reducible refine Below.drew ?_ | with_reducible refine belowA ?_ _)))
      | go_keep)
    ((first
      | (go_at_call 82
         refine (hK.out _).mono ?_
         rintro e w1 ⟨rfl, rfl⟩)
      | (go_at_call 83
         refine (hI.out _).mono ?_
         rintro e w1 ⟨rfl, rfl⟩)
      | (go_at_call 84
         refine (hS.out _).mono ?_
         rintro e w1 ⟨rfl, rfl⟩)
      | (go_at_call 81
         refine (hO.out _).mono ?_
         rintro e w1 ⟨rfl, rfl⟩)))
  all_goals
    go_wp2_with fail
    go_ret
    refine ⟨by simp, hbw.trans (Below.mono ?_ hbw.size)⟩
    repeat (first | with_reducible exact Below.refl _ _ | with_reducible assumption | with_reducible refine Below.drew ?_ | with_reducible refine belowA ?_ _)

def VBox (W : World) (g : Nat) (v : GV) : Prop := W.cell? ⟨g, 0, none⟩ = some (.int .i64 v.k) ∧ W.cell? ⟨g, 1, none⟩ = some (.int .i64 v.n) ∧ W.cell? ⟨g, 2, none⟩ = some (.string v.s)
theorem VBox.on {W W' : World} {g : Nat} {v : GV} (h : VBox W g v) (hb : Below W.heap.size W W') : VBox W' g v := ⟨below_cell hb h.1, below_cell hb h.2.1, below_cell hb h.2.2⟩
theorem VBox.old {W : World} {g : Nat} {v : GV} (h : VBox W g v) (o : Obj) : VBox (W.alloc o) g v := ⟨cellA h.1, cellA h.2.1, cellA h.2.2⟩
theorem VBox.new (W : World) (v : GV) : VBox (W.alloc (.cells #[.int .i64 v.k, .int .i64 v.n, .string v.s] 56)) W.heap.size v :=
  ⟨(cell_of_row _ _ 0 _ _ _ (Go.heap_alloc_new W _)).trans rfl, (cell_of_row _ _ 1 _ _ _ (Go.heap_alloc_new W _)).trans rfl, (cell_of_row _ _ 2 _ _ _ (Go.heap_alloc_new W _)).trans rfl⟩

set_option maxRecDepth 100000 in
set_option maxHeartbeats 400000 in
theorem less_any (a b : GV) (w : World) : Calls Try.prog 78 #[a.v, b.v] w (RetBool (lessV a b) w) := by
  by_cases h1 : a.k = b.k
  · by_cases h2 : a.n = b.n
    · rw [show lessV a b = Op.bytesLess a.s.toList b.s.toList by unfold lessV; rw [if_pos h1, if_pos h2]]
      have z1 : (a.k != b.k) = false := by simp [h1]
      have z2 : (a.n != b.n) = false := by simp [h2]
      clear h1 h2
      go_enter Try.func78, Try.ntmps78
      go_wp2
      go_ret
      exact ⟨rfl, belowA (belowA (Below.refl _ _) _) _⟩
    · rw [show lessV a b = decide (a.n < b.n) by unfold lessV; rw [if_pos h1, if_neg h2]]
      have z1 : (a.k != b.k) = false := by simp [h1]
      have z2 : (a.n != b.n) = true := by simp [h2]
      clear h1 h2
      go_enter Try.func78, Try.ntmps78
      go_wp2
      go_ret
      exact ⟨rfl, belowA (belowA (Below.refl _ _) _) _⟩
  · rw [show lessV a b = decide (a.k < b.k) by unfold lessV; rw [if_neg h1]]
    have z1 : (a.k != b.k) = true := by simp [h1]
    clear h1
    go_enter Try.func78, Try.ntmps78
    go_wp2
    go_ret
    exact ⟨rfl, belowA (belowA (Below.refl _ _) _) _⟩

end Go.Proofs.Ytgomfmfaoeojkaa
