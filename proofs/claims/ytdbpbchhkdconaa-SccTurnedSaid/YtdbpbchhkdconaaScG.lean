/- Graphs: edges and their order; which are right; on both sides. -/
import Derived.Test.YtdbpbchhkdconaaNum
import Derived.Test.YtdbpbchhkdconaaKeep0
import Derived.Test.YtdbpbchhkdconaaSans
import Derived.Deep.RegionHeld3
namespace Go.Proofs.Ytdbpbchhkdconaa
open Go.RowKit

/-- an edge -/
structure GEdge where
  a : Int
  b : Int
  n : Bool
instance : DecidableEq GEdge := fun x y => if h : x.a = y.a ∧ x.b = y.b ∧ x.n = y.n then isTrue (by cases x; cases y; simp at h; simp [h]) else isFalse (fun e => h (by rw [e]; exact ⟨rfl, rfl, rfl⟩))
abbrev GEdge.v (e : GEdge) : Value := .agg #[.int .i64 e.a, .int .i64 e.b, .bool e.n]
def GEdge.cells (e : GEdge) : List Value := [.int .i64 e.a, .int .i64 e.b, .bool e.n]
def GEdge.ok (e : GEdge) : Prop := fits e.a ∧ fits e.b
def Enc.edge : Enc GEdge where
  sz := 3
  ok _ _ cs e := cs = e.cells ∧ e.ok
  mono _ _ h := h
  len h := by rw [h.1]; rfl
theorem SliceIs.edge_at {w : World} {B : Nat} {A : Option Addr} {n c : Nat} {l : List GEdge} (h : SliceIs Enc.edge w B A n c l) {i : Nat} (hi : i < n) :
    ∃ b o x, A = some ⟨b, o, none⟩ ∧ b < B ∧ Hid (l[i]? = some x) ∧ w.cell? ⟨b, o + i * 3, none⟩ = some (.int .i64 x.a) ∧ w.cell? ⟨b, o + i * 3 + 1, none⟩ = some (.int .i64 x.b) ∧
      w.cell? ⟨b, o + i * 3 + 2, none⟩ = some (.bool x.n) ∧ x.ok := by
  obtain ⟨b, o, x, cs, hA, hb, hx, ⟨rfl, hf⟩, hc⟩ := h.at_ hi
  exact ⟨b, o, x, hA, hb, hx, by simpa [Enc.edge] using hc 0 _ rfl, by simpa [Enc.edge] using hc 1 _ rfl, by simpa [Enc.edge] using hc 2 _ rfl, hf⟩

def RetSame (n : Int) (w : World) (e : Ending) (w' : World) : Prop := e = .returned (.int .i64 n) ∧ w' = w
def cmpN (x y : Int) : Int := if x < y then -1 else if y < x then 1 else 0
theorem cmpN_fits (x y : Int) : fits (cmpN x y) := by unfold cmpN; split <;> (try split) <;> (unfold fits; decide)
def firstNZ : List Int → Int
  | [] => 0
  | x :: l => if x = 0 then firstNZ l else x
theorem firstNZ_take {L : List Int} {k : Nat} {x : Int} (hx : L[k]? = some x) (h : ∀ y ∈ L.take k, y = 0) (hx0 : x ≠ 0) : firstNZ L = x := by
  induction L generalizing k with
  | nil => simp at hx
  | cons a L ih =>
    cases k with
    | zero => simp at hx; subst hx; simp [firstNZ, hx0]
    | succ k =>
      simp at hx
      have ha : a = 0 := h a (by simp)
      simp only [firstNZ, if_pos ha]
      exact ih hx (fun y hy => h y (by simp [hy]))
theorem firstNZ_all {L : List Int} (h : ∀ y ∈ L, y = 0) : firstNZ L = 0 := by
  induction L with
  | nil => rfl
  | cons a L ih =>
    simp only [firstNZ, if_pos (h a (by simp))]
    exact ih (fun y hy => h y (by simp [hy]))

def numB (b : Bool) : Int := if b then 1 else 0
/-- edges in order: by where from, where to, not or not -/
def lessE (x y : GEdge) : Bool := if x.a = y.a then (if x.b = y.b then !x.n && y.n else decide (x.b < y.b)) else decide (x.a < y.a)
def ordE (x y : GEdge) : Int := if lessE x y = true then -1 else if lessE y x = true then 1 else 0
theorem ordE_first (x y : GEdge) : firstNZ [cmpN x.a y.a, cmpN x.b y.b, cmpN (numB x.n) (numB y.n)] = ordE x y := by
  have z (p q : Int) : (cmpN p q = 0) ↔ p = q := by unfold cmpN; split <;> (try split) <;> omega
  by_cases h1 : x.a = y.a
  · have e1 := (z x.a y.a).2 h1
    by_cases h2 : x.b = y.b
    · have e2 := (z x.b y.b).2 h2
      simp only [firstNZ, if_pos e1, if_pos e2]
      unfold ordE lessE
      rw [if_pos h1, if_pos h2, if_pos h1.symm, if_pos h2.symm]
      cases x.n <;> cases y.n <;> simp [numB, cmpN]
    · have e2 : ¬ cmpN x.b y.b = 0 := fun h => h2 ((z _ _).1 h)
      simp only [firstNZ, if_pos e1, if_neg e2]
      unfold ordE lessE cmpN
      rw [if_pos h1, if_neg h2, if_pos h1.symm, if_neg (Ne.symm h2)]
      by_cases h3 : x.b < y.b
      · simp [h3]
      · have h4 : y.b < x.b := by omega
        simp [h3, h4]
  · have e1 : ¬ cmpN x.a y.a = 0 := fun h => h1 ((z _ _).1 h)
    simp only [firstNZ, if_neg e1]
    unfold ordE lessE cmpN
    rw [if_neg h1, if_neg (Ne.symm h1)]
    by_cases h3 : x.a < y.a
    · simp [h3]
    · have h4 : y.a < x.a := by omega
      simp [h3, h4]

set_option maxRecDepth 100000 in
set_option maxHeartbeats 400000 in
theorem cmpI_any (x y : Int) (w : World) : Calls Try.prog 42 #[.int .i64 x, .int .i64 y] w (RetSame (cmpN x y) w) := by
  by_cases h1 : x < y
  · rw [show cmpN x y = -1 by simp [cmpN, h1]]
    go_enter Try.func42, Try.ntmps42
    go_wp2
    go_ret
    exact ⟨rfl, rfl⟩
  · by_cases h2 : y < x
    · rw [show cmpN x y = 1 by simp [cmpN, h1, h2]]
      go_enter Try.func42, Try.ntmps42
      go_wp2
      go_ret
      exact ⟨rfl, rfl⟩
    · rw [show cmpN x y = 0 by simp [cmpN, h1, h2]]
      go_enter Try.func42, Try.ntmps42
      go_wp2
      go_ret
      exact ⟨rfl, rfl⟩

set_option maxRecDepth 100000 in
set_option maxHeartbeats 1000000 in
theorem or_any (A : Option Addr) (n c : Nat) (L : List Int) (w : World) (hl : SliceIs Enc.int w w.heap.size A n c L) :
    Calls Try.prog 41 #[.slice A n c] w (RetSame (firstNZ L) w) := by
  have hn := hl.bound
  have hlen := Lib.hid hl.1
  obtain ⟨r, hr⟩ : ∃ r, firstNZ L = r := ⟨_, rfl⟩
  rw [hr]
  have Hr := Lib.hid hr
  clear hr
  go_enter Try.func41, Try.ntmps41
  go_wp2_with fail
  go_loop [5, 8] (fun _ i => ∃ k : Nat, k ≤ n ∧ i = .int .i64 k ∧ Hid (∀ y ∈ L.take k, y = 0)) (fun _ i => n - (intOf i).toNat)
  case atStart => exact ⟨0, by omega, rfl, fun y hy => by simp at hy⟩
  case round =>
    obtain ⟨k, hk, rfl, hpre⟩ := hrel
    by_cases hlt : k < n
    · obtain ⟨b, o, x, rfl, _, hx, hc, hf⟩ := hl.int_at hlt
      have i0 : (0 : Int) ≤ (k : Int) := by omega
      have i1 : (k : Int) < (n : Int) := by omega
      clear hl
      by_cases hx0 : x = 0
      · subst hx0
        go_wp2_with fail
        go_round
        case rel =>
          refine ⟨k + 1, by omega, by go_num, fun y hy => ?_⟩
          rw [List.take_add_one, hx.out] at hy
          rcases List.mem_append.1 hy with hy | hy
          · exact hpre.out y hy
          · simpa using hy
        case measure => simp [intOf]; omega
      · have e : r = x := by rw [← Hr.out]; exact firstNZ_take hx.out hpre.out hx0
        subst e
        go_wp2_with fail
        go_ret
        exact ⟨rfl, rfl⟩
    · have e : r = 0 := by
        rw [← Hr.out]
        refine firstNZ_all fun y hy => hpre.out y ?_
        rw [List.take_of_length_le (by have := hlen.out; omega)]
        exact hy
      subst e
      have i1 : ¬ (k : Int) < (n : Int) := by omega
      go_wp2_with fail
      go_ret
      exact ⟨rfl, rfl⟩

set_option maxRecDepth 100000 in
theorem number_any (b : Bool) (w : World) : Calls Try.prog 43 #[.bool b] w (RetSame (numB b) w) := by
  cases b <;>
  · go_enter Try.func43, Try.ntmps43
    go_wp2
    go_ret
    exact ⟨rfl, rfl⟩

theorem ints3 {W : World} {p q r : Int} (hp : fits p) (hq : fits q) (hr : fits r) : SliceIs Enc.int (W.alloc (.cells #[.int .i64 p, .int .i64 q, .int .i64 r] 3)) (W.alloc (.cells #[.int .i64 p, .int .i64 q, .int .i64 r] 3)).heap.size (some ⟨W.heap.size, 0, none⟩) 3 3 [p, q, r] :=
  SliceIs.of_block (fun n => [.int .i64 n]) (fun _ => rfl) (Go.heap_alloc_new W _) rfl (by simp [reachN]) (fun x hx => ⟨rfl, by
    simp only [List.mem_cons, List.not_mem_nil, or_false] at hx
    rcases hx with rfl | rfl | rfl <;> assumption⟩)

set_option maxRecDepth 100000 in
set_option maxHeartbeats 1000000 in
theorem order_any (x y : GEdge) (w : World) : Calls Try.prog 25 #[x.v, y.v] w (RetInt (ordE x y) w) := by
  rw [← ordE_first]
  have hK := Lib.hid (fun p q w => cmpI_any p q w)
  have hI := Lib.hid (fun b w => number_any b w)
  have f1 := cmpN_fits x.a y.a
  have f2 := cmpN_fits x.b y.b
  have f3 := cmpN_fits (numB x.n) (numB y.n)
  have hO := Lib.hid (fun W => or_any (some ⟨W.heap.size, 0, none⟩) 3 3 [cmpN x.a y.a, cmpN x.b y.b, cmpN (numB x.n) (numB y.n)] (W.alloc (.cells #[.int .i64 (cmpN x.a y.a), .int .i64 (cmpN x.b y.b), .int .i64 (cmpN (numB x.n) (numB y.n))] 3)).drew (ints3 (W := W) f1 f2 f3))
  generalize firstNZ [cmpN x.a y.a, cmpN x.b y.b, cmpN (numB x.n) (numB y.n)] = res at hO ⊢
  clear f1 f2 f3
  go_enter Try.func25, Try.ntmps25
  go_wp2_with fail
  have hbw : Below w.heap.size w ((w.alloc (.cells #[.int .i64 x.a, .int .i64 x.b, .bool x.n] 32)).alloc (.cells #[.int .i64 y.a, .int .i64 y.b, .bool y.n] 32)) := belowA (belowA (Below.refl _ _) _) _
  have hg0 : ((w.alloc (.cells #[.int .i64 x.a, .int .i64 x.b, .bool x.n] 32)).alloc (.cells #[.int .i64 y.a, .int .i64 y.b, .bool y.n] 32)).heap[w.heap.size]? = some (.cells #[.int .i64 x.a, .int .i64 x.b, .bool x.n] 32 (0, 0)) := heapOld (heapNew rfl)
  have hg1 : ((w.alloc (.cells #[.int .i64 x.a, .int .i64 x.b, .bool x.n] 32)).alloc (.cells #[.int .i64 y.a, .int .i64 y.b, .bool y.n] 32)).heap[w.heap.size + 1]? = some (.cells #[.int .i64 y.a, .int .i64 y.b, .bool y.n] 32 (0, 0)) := heapNew (by simp)
  generalize (w.alloc (.cells #[.int .i64 x.a, .int .i64 x.b, .bool x.n] 32)).alloc (.cells #[.int .i64 y.a, .int .i64 y.b, .bool y.n] 32) = wb at hbw hg0 hg1 ⊢
  have hl0 := (Array.getElem?_eq_some_iff.1 hg0).1
  have hl1 := (Array.getElem?_eq_some_iff.1 hg1).1
  have Hk := Lib.hid (fun W (h : Below wb.heap.size wb W) => show W.cell? ⟨w.heap.size, 0, none⟩ = some (.int .i64 x.a) ∧ W.cell? ⟨w.heap.size, 1, none⟩ = some (.int .i64 x.b) ∧ W.cell? ⟨w.heap.size, 2, none⟩ = some (.bool x.n) ∧ W.cell? ⟨w.heap.size + 1, 0, none⟩ = some (.int .i64 y.a) ∧ W.cell? ⟨w.heap.size + 1, 1, none⟩ = some (.int .i64 y.b) ∧ W.cell? ⟨w.heap.size + 1, 2, none⟩ = some (.bool y.n) from
    ⟨(cell_of_row _ _ 0 _ _ _ ((h.block _ hl0).trans hg0)).trans rfl, (cell_of_row _ _ 1 _ _ _ ((h.block _ hl0).trans hg0)).trans rfl, (cell_of_row _ _ 2 _ _ _ ((h.block _ hl0).trans hg0)).trans rfl, (cell_of_row _ _ 0 _ _ _ ((h.block _ hl1).trans hg1)).trans rfl, (cell_of_row _ _ 1 _ _ _ ((h.block _ hl1).trans hg1)).trans rfl, (cell_of_row _ _ 2 _ _ _ ((h.block _ hl1).trans hg1)).trans rfl⟩)
  clear hg0 hg1 hl0 hl1
  go_region_held3 (fun w' => w'.cell? ⟨w.heap.size, 0, none⟩ = some (.int .i64 x.a) ∧ w'.cell? ⟨w.heap.size, 1, none⟩ = some (.int .i64 x.b) ∧ w'.cell? ⟨w.heap.size, 2, none⟩ = some (.bool x.n) ∧ w'.cell? ⟨w.heap.size + 1, 0, none⟩ = some (.int .i64 y.a) ∧ w'.cell? ⟨w.heap.size + 1, 1, none⟩ = some (.int .i64 y.b) ∧ w'.cell? ⟨w.heap.size + 1, 2, none⟩ = some (.bool y.n))
    (first
      | (refine Hk.out _ ?_; (repeat (first | with_reducible exact Below.refl _ _ | with_reducible assumption | with_reducible refine Below.drew ?_ | with_reducible refine belowA ?_ _)))
      | go_keep)
    ((first
      | (go_at_call 42
         refine (hK.out _ _ _).mono ?_
         rintro e w1 ⟨rfl, rfl⟩)
      | (go_at_call 43
         refine (hI.out _ _).mono ?_
         rintro e w1 ⟨rfl, rfl⟩)
      | (go_at_call 41
         refine (hO.out _).mono ?_
         rintro e w1 ⟨rfl, rfl⟩)))
  all_goals
    go_wp2_with fail
    go_ret
    refine ⟨by simp, hbw.trans (Below.mono ?_ hbw.size)⟩
    repeat (first | with_reducible exact Below.refl _ _ | with_reducible assumption | with_reducible refine Below.drew ?_ | with_reducible refine belowA ?_ _)

def withinE (e : GEdge) (n : Int) : Bool := decide (0 ≤ e.a) && decide (e.a < n) && decide (0 ≤ e.b) && decide (e.b < n)
set_option maxRecDepth 100000 in
set_option maxHeartbeats 1000000 in
theorem within_any (x : GEdge) (n : Int) (w : World) : Calls Try.prog 24 #[x.v, .int .i64 n] w (RetBool (withinE x n) w) := by
  by_cases h1 : (0 : Int) ≤ x.a
  · by_cases h2 : x.a < n
    · by_cases h3 : (0 : Int) ≤ x.b
      · by_cases h4 : x.b < n <;>
        · rw [show withinE x n = decide (x.b < n) by simp [withinE, h1, h2, h3]]
          simp only [h4, decide_true, decide_false]
          go_enter Try.func24, Try.ntmps24
          go_wp2_with fail
          go_ret
          exact ⟨by simp, belowA (Below.refl _ _) _⟩
      · rw [show withinE x n = false by simp [withinE, h3]]
        go_enter Try.func24, Try.ntmps24
        go_wp2_with fail
        go_ret
        exact ⟨by simp, belowA (Below.refl _ _) _⟩
    · rw [show withinE x n = false by simp [withinE, h2]]
      go_enter Try.func24, Try.ntmps24
      go_wp2_with fail
      go_ret
      exact ⟨by simp, belowA (Below.refl _ _) _⟩
  · rw [show withinE x n = false by simp [withinE, h1]]
    go_enter Try.func24, Try.ntmps24
    go_wp2_with fail
    go_ret
    exact ⟨by simp, belowA (Below.refl _ _) _⟩
set_option maxRecDepth 100000 in
set_option maxHeartbeats 1000000 in
theorem refWithin_any (x : GEdge) (n : Int) (w : World) : Calls Try.prog 31 #[x.v, .int .i64 n] w (RetBool (withinE x n) w) := by
  by_cases h1 : (0 : Int) ≤ x.a
  · by_cases h2 : x.a < n
    · by_cases h3 : (0 : Int) ≤ x.b
      · by_cases h4 : x.b < n <;>
        · rw [show withinE x n = decide (x.b < n) by simp [withinE, h1, h2, h3]]
          simp only [h4, decide_true, decide_false]
          go_enter Try.func31, Try.ntmps31
          go_wp2_with fail
          go_ret
          exact ⟨by simp, belowA (Below.refl _ _) _⟩
      · rw [show withinE x n = false by simp [withinE, h3]]
        go_enter Try.func31, Try.ntmps31
        go_wp2_with fail
        go_ret
        exact ⟨by simp, belowA (Below.refl _ _) _⟩
    · rw [show withinE x n = false by simp [withinE, h2]]
      by_cases h3 : (0 : Int) ≤ x.b <;>
      · go_enter Try.func31, Try.ntmps31
        go_wp2_with fail
        go_ret
        exact ⟨by simp, belowA (Below.refl _ _) _⟩
  · rw [show withinE x n = false by simp [withinE, h1]]
    go_enter Try.func31, Try.ntmps31
    go_wp2_with fail
    go_ret
    exact ⟨by simp, belowA (Below.refl _ _) _⟩
set_option maxRecDepth 100000 in
set_option maxHeartbeats 1000000 in
theorem refLess_any (x y : GEdge) (w : World) : Calls Try.prog 32 #[x.v, y.v] w (RetBool (lessE x y) w) := by
  by_cases h1 : x.a = y.a
  · have z1 : (x.a != y.a) = false := by simp [h1]
    by_cases h2 : x.b = y.b
    · have z2 : (x.b != y.b) = false := by simp [h2]
      have e : lessE x y = (!x.n && y.n) := by simp [lessE, h1, h2]
      rw [e]
      clear e h1 h2
      cases hx : x.n <;> cases hy : y.n <;>
      · go_enter Try.func32, Try.ntmps32
        go_wp2_with fail
        go_ret
        exact ⟨by simp, belowA (belowA (Below.refl _ _) _) _⟩
    · have z2 : (x.b != y.b) = true := by simp [h2]
      have e : lessE x y = decide (x.b < y.b) := by simp [lessE, h1, h2]
      rw [e]
      clear e h1 h2
      go_enter Try.func32, Try.ntmps32
      go_wp2_with fail
      go_ret
      exact ⟨by simp, belowA (belowA (Below.refl _ _) _) _⟩
  · have z1 : (x.a != y.a) = true := by simp [h1]
    have e : lessE x y = decide (x.a < y.a) := by simp [lessE, h1]
    rw [e]
    clear e h1
    go_enter Try.func32, Try.ntmps32
    go_wp2_with fail
    go_ret
    exact ⟨by simp, belowA (belowA (Below.refl _ _) _) _⟩
end Go.Proofs.Ytdbpbchhkdconaa
