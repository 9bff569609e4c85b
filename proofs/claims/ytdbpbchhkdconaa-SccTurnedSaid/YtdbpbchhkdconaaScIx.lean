/- slices.Clone and slices.DeleteFunc at edges, over Inside's closure. -/
import Derived.Test.YtdbpbchhkdconaaScIn
import Derived.Test.YtdbpbchhkdconaaScTs
import Derived.Test.YtdbpbchhkdconaaSans
import Derived.Lib.SliceRun
namespace Go.Proofs.Ytdbpbchhkdconaa
open Go.RowKit

theorem info_edge : (Try.prog.info? 32).map (fun i => (i.zero, i.size, i.bytes)) = some (some (.agg #[.int .i64 0, .int .i64 0, .bool false]), 3, 24) := by kernel_rfl
theorem edge_one (x : GEdge) : ∀ u ∈ x.cells, u.oneCell' = true := by
  intro u hu
  simp [GEdge.cells] at hu
  rcases hu with rfl | rfl | rfl <;> rfl
def CloneEPost (m : Nat) (l : List GEdge) (w : World) (e : Ending) (w' : World) : Prop :=
  ∃ A2 c2, e = .returned (.slice A2 m c2) ∧ w'.ownsRow w.heap.size 32 3 (.slice A2 m c2) m (l.flatMap GEdge.cells) ∧ Below w.heap.size w w'

set_option maxRecDepth 100000 in
set_option maxHeartbeats 2000000 in
theorem cloneE_any (A : Option Addr) (m c : Nat) (l : List GEdge) (w : World) (h : SliceIs Enc.edge w w.heap.size A m c l) (hm : m ≤ 10000) : Calls Try.prog 34 #[.slice A m c] w (CloneEPost m l w) := by
  have hlm : l.length = m := h.1
  have hq := fun W => Lib.run_eql_slice_nil (P := Try.prog) W 22 32 A m c 0 0 Try.underlying22
  cases A with
  | none =>
    have hl0 : l = [] ∧ m = 0 := by
      rcases h.2.2.2.2 with h5 | ⟨b, o, hA, _⟩
      · exact ⟨h5, by rw [← hlm, h5]; rfl⟩
      · cases hA
    obtain ⟨rfl, rfl⟩ := hl0
    have HE : Hid (CloneEPost 0 [] w (.returned (.slice none 0 0)) w) := ⟨none, 0, rfl, World.ownsRow_nil _ _ _ _, Below.refl _ _⟩
    simp only [Option.isNone_none] at hq
    clear h hlm
    go_enter Try.func34, Try.ntmps34
    go_wp2_with fail
    go_ret
    exact HE.out
  | some a =>
    obtain ⟨v', w', h1, h2, h3, h4⟩ := run_append_slice (P := Try.prog) (E := Enc.edge) (B := w.heap.size) (ty := 22) GEdge.cells (fun _ => rfl) (fun h => h.1) edge_one (w.alloc (.cells #[] 32)) (base := w.heap.size) Try.underlying22 info_edge rfl (by decide)
      (own_empty (Nat.le_refl _) (Go.heap_alloc_new w _)) (h.below (belowA (Below.refl _ _) _)) (by simp [maxLen]; omega) (by omega) (by simp)
    obtain ⟨A', c', rfl⟩ := own_form h2
    rw [Nat.zero_add] at h1 h2
    have U := Lib.hid h1
    have HE : Hid (CloneEPost m l w (.returned (.slice A' m c')) w') := ⟨A', c', rfl, by rw [List.nil_append] at h2; exact h2, (belowA (Below.refl _ _) _ : Below w.heap.size w _).trans h4⟩
    simp only [Option.isNone_some] at hq
    clear h h1 h2 h3 h4 hlm
    go_enter Try.func34, Try.ntmps34
    go_wp2_with (at_builtin; refine wpList_append_run (o := ⟨some 7, _, _, _, _, _⟩) rfl _ _ _ rfl _ _ rfl rfl U.out ?_)
    go_ret
    exact HE.out

/-- the first that is told -/
def FirstE (p : GEdge → Bool) (L : List GEdge) (w : World) (e : Ending) (w' : World) : Prop := Below w.heap.size w w' ∧ ((e = .returned (.int .i64 (-1)) ∧ ∀ x ∈ L, p x = false) ∨ ∃ (k : Nat) (x : GEdge), e = .returned (.int .i64 k) ∧ L[k]? = some x ∧ p x = true ∧ ∀ y ∈ L.take k, p y = false)

set_option maxRecDepth 100000 in
set_option maxHeartbeats 2000000 in
theorem indexE1_any (gp : Nat) (p : GEdge → Bool) (A : Option Addr) (n c : Nat) (L : List GEdge) (w : World) (hl : SliceIs Enc.edge w w.heap.size A n c L)
    (hC : ∀ x ∈ L, ∀ W, Below w.heap.size w W → Calls Try.prog 35 #[x.v, .pointer (some ⟨gp, 0, none⟩)] W (RetBool (p x) W)) :
    Calls Try.prog 47 #[.slice A n c, .func (.func 35) #[] #[.pointer (some ⟨gp, 0, none⟩)]] w (FirstE p L w) := by
  have hn := hl.bound
  have hlen := Lib.hid hl.1
  have HC := Lib.hid hC
  have HL := Lib.hid hl
  clear hC hl
  go_enter Try.func47, Try.ntmps47
  go_wp2_with fail
  go_loopw [5, 8] (fun _ i wr => ∃ k : Nat, k ≤ n ∧ i = .int .i64 (k : Int) ∧ Hid (∀ y ∈ L.take k, p y = false) ∧ Hid (Below w.heap.size w wr)) (fun _ i _ => n - (intOf i).toNat)
  case atStart => exact ⟨0, by omega, rfl, (fun y hy => by simp at hy), Below.refl _ _⟩
  case round =>
    obtain ⟨k, hk, rfl, Hp, HB⟩ := hrel
    have i0 : (0 : Int) ≤ (k : Int) := by omega
    by_cases hlt : k < n
    · have i1 : (k : Int) < (n : Int) := by omega
      obtain ⟨b, o, x, rfl, -, hx, x0, x1, x2, -⟩ := (HL.out.below HB.out).edge_at hlt
      have HCx := Lib.hid (HC.out x (List.mem_of_getElem? hx.out) wr HB.out)
      cases hm : p x with
      | true =>
        rw [hm] at HCx
        have HE : Hid (∀ w2, Below wr.heap.size wr w2 → FirstE p L w (.returned (.int .i64 (k : Int))) w2) := fun w2 h2 => ⟨HB.out.trans (h2.mono HB.out.size), .inr ⟨k, x, rfl, hx.out, hm, Hp.out⟩⟩
        clear hm hx
        go_wp2_with fail
        refine HCx.out.mono ?_
        rintro e w2 ⟨rfl, hb2⟩
        have HE2 := Lib.hid (HE.out w2 hb2)
        clear hb2
        go_wp2_with fail
        go_ret
        exact HE2.out
      | false =>
        rw [hm] at HCx
        have Hp2 : Hid (∀ y ∈ L.take (k + 1), p y = false) := fun y hy => by
          rw [List.take_add_one, hx.out] at hy
          rcases List.mem_append.1 hy with hy | hy
          · exact Hp.out y hy
          · simp at hy; subst hy; exact hm
        clear hm hx
        go_wp2_with fail
        refine HCx.out.mono ?_
        rintro e w2 ⟨rfl, hb2⟩
        have HB2 : Hid (Below w.heap.size w w2) := HB.out.trans (hb2.mono HB.out.size)
        clear hb2
        go_wp2_with fail
        go_roundw
        case rel => exact ⟨k + 1, by omega, by go_num, Hp2, HB2⟩
        case measure => simp [intOf]; omega
    · have i1 : ¬ (k : Int) < (n : Int) := by omega
      have HE : Hid (FirstE p L w (.returned (.int .i64 (-1))) wr) := ⟨HB.out, .inl ⟨rfl, fun x hx => Hp.out x (by rw [List.take_of_length_le (by have := hlen.out; omega)]; exact hx)⟩⟩
      go_wp2_with fail
      go_ret
      exact HE.out

set_option maxRecDepth 100000 in
set_option maxHeartbeats 2000000 in
theorem indexE2_any (gp gq : Nat) (p : GEdge → Bool) (A : Option Addr) (n c : Nat) (L : List GEdge) (w : World) (hl : SliceIs Enc.edge w w.heap.size A n c L)
    (hC : ∀ x ∈ L, ∀ W, Below w.heap.size w W → Calls Try.prog 38 #[x.v, .pointer (some ⟨gp, 0, none⟩), .pointer (some ⟨gq, 0, none⟩)] W (RetBool (p x) W)) :
    Calls Try.prog 47 #[.slice A n c, .func (.func 38) #[] #[.pointer (some ⟨gp, 0, none⟩), .pointer (some ⟨gq, 0, none⟩)]] w (FirstE p L w) := by
  have hn := hl.bound
  have hlen := Lib.hid hl.1
  have HC := Lib.hid hC
  have HL := Lib.hid hl
  clear hC hl
  go_enter Try.func47, Try.ntmps47
  go_wp2_with fail
  go_loopw [5, 8] (fun _ i wr => ∃ k : Nat, k ≤ n ∧ i = .int .i64 (k : Int) ∧ Hid (∀ y ∈ L.take k, p y = false) ∧ Hid (Below w.heap.size w wr)) (fun _ i _ => n - (intOf i).toNat)
  case atStart => exact ⟨0, by omega, rfl, (fun y hy => by simp at hy), Below.refl _ _⟩
  case round =>
    obtain ⟨k, hk, rfl, Hp, HB⟩ := hrel
    have i0 : (0 : Int) ≤ (k : Int) := by omega
    by_cases hlt : k < n
    · have i1 : (k : Int) < (n : Int) := by omega
      obtain ⟨b, o, x, rfl, -, hx, x0, x1, x2, -⟩ := (HL.out.below HB.out).edge_at hlt
      have HCx := Lib.hid (HC.out x (List.mem_of_getElem? hx.out) wr HB.out)
      cases hm : p x with
      | true =>
        rw [hm] at HCx
        have HE : Hid (∀ w2, Below wr.heap.size wr w2 → FirstE p L w (.returned (.int .i64 (k : Int))) w2) := fun w2 h2 => ⟨HB.out.trans (h2.mono HB.out.size), .inr ⟨k, x, rfl, hx.out, hm, Hp.out⟩⟩
        clear hm hx
        go_wp2_with fail
        refine HCx.out.mono ?_
        rintro e w2 ⟨rfl, hb2⟩
        have HE2 := Lib.hid (HE.out w2 hb2)
        clear hb2
        go_wp2_with fail
        go_ret
        exact HE2.out
      | false =>
        rw [hm] at HCx
        have Hp2 : Hid (∀ y ∈ L.take (k + 1), p y = false) := fun y hy => by
          rw [List.take_add_one, hx.out] at hy
          rcases List.mem_append.1 hy with hy | hy
          · exact Hp.out y hy
          · simp at hy; subst hy; exact hm
        clear hm hx
        go_wp2_with fail
        refine HCx.out.mono ?_
        rintro e w2 ⟨rfl, hb2⟩
        have HB2 : Hid (Below w.heap.size w w2) := HB.out.trans (hb2.mono HB.out.size)
        clear hb2
        go_wp2_with fail
        go_roundw
        case rel => exact ⟨k + 1, by omega, by go_num, Hp2, HB2⟩
        case measure => simp [intOf]; omega
    · have i1 : ¬ (k : Int) < (n : Int) := by omega
      have HE : Hid (FirstE p L w (.returned (.int .i64 (-1))) wr) := ⟨HB.out, .inl ⟨rfl, fun x hx => Hp.out x (by rw [List.take_of_length_le (by have := hlen.out; omega)]; exact hx)⟩⟩
      go_wp2_with fail
      go_ret
      exact HE.out
/-- the row while it is rewritten: i kept so far of the first j; the rest as it was -/
structure RewE (p : GEdge → Bool) (L : List GEdge) (g n i j : Nat) (R : List GEdge) (tl : List Value) (w : World) : Prop where
  heap : w.heap[g]? = some (.cells (R.flatMap GEdge.cells ++ tl).toArray 32 (0, 0))
  len : R.length = n
  kept : R.take i = (L.take j).filter (fun e => !p e)
  num : ((L.take j).filter (fun e => !p e)).length = i
  high : ∀ t x, j ≤ t → L[t]? = some x → R[t]? = some x
  lt : i < j
theorem flat3_get : ∀ (R : List GEdge) (tl : List Value) (t u : Nat) (x : GEdge), R[t]? = some x → u < 3 → (R.flatMap GEdge.cells ++ tl)[t * 3 + u]? = x.cells[u]?
  | [], _, _, _, _, h, _ => by simp at h
  | y :: R, tl, 0, u, x, h, hu => by
    simp at h; subst h
    rw [List.flatMap_cons, List.append_assoc, List.getElem?_append_left (by show 0 * 3 + u < y.cells.length; show _ < 3; omega), Nat.zero_mul, Nat.zero_add]
  | y :: R, tl, t + 1, u, x, h, hu => by
    rw [List.flatMap_cons, List.append_assoc, List.getElem?_append_right (by show y.cells.length ≤ _; show 3 ≤ _; omega)]
    have e : (t + 1) * 3 + u - y.cells.length = t * 3 + u := by show (t + 1) * 3 + u - 3 = _; omega
    rw [e]
    exact flat3_get R tl t u x (by simpa using h) hu
theorem flat3_set : ∀ (R : List GEdge) (tl : List Value) (t : Nat) (x : GEdge), t < R.length → (((R.flatMap GEdge.cells ++ tl).set (t * 3) (.int .i64 x.a)).set (t * 3 + 1) (.int .i64 x.b)).set (t * 3 + 2) (.bool x.n) = (R.set t x).flatMap GEdge.cells ++ tl
  | [], _, _, _, h => by simp at h
  | y :: R, tl, 0, x, _ => by simp [GEdge.cells]
  | y :: R, tl, t + 1, x, h => by
    have ih := flat3_set R tl t x (by simpa using h)
    have e : (t + 1) * 3 = t * 3 + 1 + 1 + 1 := by omega
    rw [e]
    simp only [List.flatMap_cons, GEdge.cells, List.cons_append, List.nil_append, List.set_cons_succ]
    rw [ih]
theorem RewE.cell {p : GEdge → Bool} {L R : List GEdge} {g n i j t u : Nat} {tl : List Value} {w : World} (h : RewE p L g n i j R tl w) {x : GEdge} (hx : R[t]? = some x) (hu : u < 3) : w.cell? ⟨g, t * 3 + u, none⟩ = x.cells[u]? := by
  rw [cell_of_row _ _ _ _ _ _ h.heap]
  simpa using flat3_get R tl t u x hx hu
theorem RewE.frozen {p : GEdge → Bool} {L R : List GEdge} {g n i j o : Nat} {tl : List Value} {w : World} (h : RewE p L g n i j R tl w) : w.frozen? ⟨g, o, none⟩ = false := frozen_of_row _ _ _ _ _ h.heap
theorem RewE.below {p : GEdge → Bool} {L R : List GEdge} {g n i j : Nat} {tl : List Value} {w w' : World} (h : RewE p L g n i j R tl w) (hb : Below w.heap.size w w') : RewE p L g n i j R tl w' :=
  ⟨(hb.block g (Array.getElem?_eq_some_iff.1 h.heap).1).trans h.heap, h.len, h.kept, h.num, h.high, h.lt⟩
theorem filt_take {p : GEdge → Bool} {L : List GEdge} {k : Nat} {x : GEdge} (hx : L[k]? = some x) : (L.take (k + 1)).filter (fun e => !p e) = if p x then (L.take k).filter (fun e => !p e) else (L.take k).filter (fun e => !p e) ++ [x] := by
  rw [List.take_add_one, hx]
  by_cases h : p x = true
  · simp [h]
  · simp at h; simp [h]
theorem RewE.skip {p : GEdge → Bool} {L R : List GEdge} {g n i j : Nat} {tl : List Value} {w : World} (h : RewE p L g n i j R tl w) {x : GEdge} (hx : L[j]? = some x) (hm : p x = true) : RewE p L g n i (j + 1) R tl w :=
  ⟨h.heap, h.len, by rw [filt_take hx, if_pos hm]; exact h.kept, by rw [filt_take hx, if_pos hm]; exact h.num, fun t y ht hy => h.high t y (by omega) hy, by have := h.lt; omega⟩
theorem RewE.keep {p : GEdge → Bool} {L R : List GEdge} {g n i j : Nat} {tl : List Value} {w : World} (h : RewE p L g n i j R tl w) {x : GEdge} (hx : L[j]? = some x) (hm : p x = false) (hi : i < n) : RewE p L g n (i + 1) (j + 1) (R.set i x) tl (((w.setCell ⟨g, i * 3, none⟩ (.int .i64 x.a)).setCell ⟨g, i * 3 + 1, none⟩ (.int .i64 x.b)).setCell ⟨g, i * 3 + 2, none⟩ (.bool x.n)) := by
  have hlt := h.lt
  have hs := h.len
  refine ⟨?_, by simpa using hs, ?_, by rw [filt_take hx, if_neg (by simp [hm])]; simp [h.num], fun t y ht hy => ?_, by omega⟩
  · rw [set_cell8 (set_cell8 (set_cell8 h.heap))]
    simp only [List.setIfInBounds_toArray]
    rw [flat3_set R tl i x (by omega)]
  · rw [filt_take hx, if_neg (by simp [hm]), ← h.kept, List.take_add_one]
    rw [List.take_set_of_le (by omega), List.getElem?_set_self (by omega)]
    rfl
  · rw [List.getElem?_set_ne (by omega)]
    exact h.high t y (by omega) hy
theorem run_clear_edges (w : World) (ty : TypeId) (b o n c : Nat) (hn : 0 < n) (hc : ∀ j, j < n * 3 → (w.cell? ⟨b, o + j, none⟩).isSome = true) (hf : ∀ j, j < n * 3 → w.frozen? ⟨b, o + j, none⟩ = false) :
    ∃ Z : List Value, (Builtin.clear_ #[22] ty #[.slice (some ⟨b, o, none⟩) n c]).run Try.prog w = .ok (.tuple #[]) (w.setCells b o Z) := by
  have hv : ∀ w, (zeroValue 32).run Try.prog w = .ok (.agg #[.int .i64 0, .int .i64 0, .bool false]) w := fun w => by kernel_rfl
  refine ⟨(Builtin.zeroCells #[.int .i64 0, .int .i64 0, .bool false] n).toList, ?_⟩
  have hlen : (Builtin.zeroCells #[Value.int .i64 0, .int .i64 0, .bool false] n).toList.length = n * 3 := by simp [Builtin.zeroCells]
  have hone : ∀ v ∈ (Builtin.zeroCells #[Value.int .i64 0, .int .i64 0, .bool false] n).toList, v.oneCell' = true := by
    intro v hv
    simp only [Builtin.zeroCells, Array.toList_map, List.mem_map] at hv
    obtain ⟨i, -, rfl⟩ := hv
    have : i % 3 = 0 ∨ i % 3 = 1 ∨ i % 3 = 2 := by omega
    rcases this with h | h | h <;> · show (#[Value.int .i64 0, .int .i64 0, .bool false][i % 3]!).oneCell' = true; rw [h]; rfl
  have hst := run_storeCells_cells (P := Try.prog) b o (Builtin.zeroCells #[Value.int .i64 0, .int .i64 0, .bool false] n).toList 0 w (by rw [hlen]; simpa using hc) (by rw [hlen]; simpa using hf) hone
  simp only [Nat.add_zero] at hst
  obtain ⟨m, rfl⟩ : ∃ m, n = m + 1 := ⟨n - 1, by omega⟩
  simp [Builtin.clear_, run_underlying Try.underlying22, hv, Value.cells, hst]
theorem below_cells (B g : Nat) (hg : B ≤ g) : ∀ (vs : List Value) (o : Nat) (w : World), Below B w (w.setCells g o vs)
  | [], _, _ => Below.refl _ _
  | v :: vs, o, w => ((Below.refl B w).setCell (p := ⟨g, o, none⟩) hg v).trans (below_cells B g hg vs (o + 1) _)

set_option maxRecDepth 100000 in
set_option maxHeartbeats 4000000 in
theorem deleteE_any (B gp : Nat) (p : GEdge → Bool) (A : Option Addr) (n c : Nat) (L : List GEdge) (w : World) (hB : B ≤ w.heap.size) (hl : SliceIs Enc.edge w w.heap.size A n c L) (hown : w.ownsRow B 32 3 (.slice A n c) n (L.flatMap GEdge.cells)) (hn2 : n ≤ 10000)
    (hC : ∀ x ∈ L, ∀ W, Below B w W → Calls Try.prog 35 #[x.v, .pointer (some ⟨gp, 0, none⟩)] W (RetBool (p x) W)) :
    Calls Try.prog 33 #[.slice A n c, .func (.func 35) #[] #[.pointer (some ⟨gp, 0, none⟩)]] w (fun e w' => ∃ A' m c', e = .returned (.slice A' m c') ∧ SliceIs Enc.edge w' w'.heap.size A' m c' (L.filter (fun e => !p e)) ∧ Below B w w') := by
  have hlen := Lib.hid hl.1
  have HI := Lib.hid (indexE1_any gp p A n c L w hl (fun x hx W hW => hC x hx W (hW.mono hB)))
  have HC := Lib.hid hC
  have HL := Lib.hid hl
  have Hown := Lib.hid hown
  have Hok : Hid (∀ x ∈ L, x.ok) := fun x hx => by
    obtain ⟨i, hi, rfl⟩ := List.mem_iff_getElem.1 hx
    obtain ⟨b, o, y, -, -, hy, -, -, -, hok⟩ := hl.edge_at (i := i) (by rw [← hl.1]; exact hi)
    have : L[i] = y := by have := hy.out; rw [List.getElem?_eq_getElem hi] at this; simpa using this
    rw [this]; exact hok
  clear hl hown hC
  go_enter Try.func33, Try.ntmps33
  go_wp2_with fail
  refine HI.out.mono ?_
  rintro e w1 ⟨hb1, (⟨rfl, hall⟩ | ⟨k, x, rfl, hx, hxv, hbef⟩)⟩
  · have HE : Hid (SliceIs Enc.edge w1 w1.heap.size A n c (L.filter (fun e => !p e)) ∧ Below B w w1) := by
      rw [List.filter_eq_self.2 (fun x hx => by simp [hall x hx])]
      exact ⟨HL.out.keep hb1, hb1.mono hB⟩
    clear hall hb1
    go_wp2_with fail
    go_ret
    exact ⟨A, n, c, rfl, HE.out.1, HE.out.2⟩
  · have hkn : k < n := by have := (List.getElem?_eq_some_iff.1 hx).1; have := hlen.out; omega
    have hk1 : ((k : Int) == -1) = false := beq_eq_false_iff_ne.2 (by omega)
    obtain ⟨hz, hrow⟩ := Hown.out
    rcases hrow with ⟨hv, h0⟩ | ⟨gr, cap, cur, hv, hg, hh, hnc, hcm, hcs, htk⟩
    · omega
    · simp only [Value.slice.injEq] at hv
      obtain ⟨rfl, -, rfl⟩ := hv
      have hgl : gr < w.heap.size := (Array.getElem?_eq_some_iff.1 hh).1
      have hR : RewE p L gr n k (k + 1) L (cur.toList.drop (n * 3)) w1 := by
        have hkeep : (L.take k).filter (fun e => !p e) = L.take k := List.filter_eq_self.2 (fun y hy => by simp [hbef y hy])
        have hL := hlen.out
        have hlk : (L.take k).length = k := by simp; omega
        refine ⟨?_, hL, ?_, ?_, fun t y _ hy => hy, by omega⟩
        · rw [hb1.block gr hgl, hh]
          refine congrArg some (congrArg (fun x => Obj.cells x 32 (0, 0)) ?_)
          rw [← htk, List.take_append_drop]
        · rw [filt_take hx, if_pos hxv, hkeep]
        · rw [filt_take hx, if_pos hxv, hkeep, hlk]
      have HR := Lib.hid hR
      have HB1 := Lib.hid (hb1.mono hB)
      have hz1 := hb1.size
      clear hR hx hxv hbef htk hz hb1
      go_wp2_with fail
      go_loopw [5, 6, 7] (fun vi vj _ wr => ∃ (i j : Nat) (R : List GEdge), vi = .int .i64 (i : Int) ∧ vj = .int .i64 (j : Int) ∧ j ≤ n ∧ i < j ∧ Hid (RewE p L gr n i j R (cur.toList.drop (n * 3)) wr) ∧ Hid (Below B w wr) ∧ w.heap.size ≤ wr.heap.size) (fun _ vj _ _ => n - (intOf vj).toNat)
      case atStart => exact ⟨k, k + 1, _, rfl, by go_num, by omega, by omega, HR, HB1, hz1⟩
      case round =>
        obtain ⟨i, j, R, rfl, rfl, hjn, hij, HR2, HB2, hzr⟩ := hrel
        by_cases hlt : j < n
        · obtain ⟨x, hx⟩ : ∃ x, L[j]? = some x := ⟨_, List.getElem?_eq_getElem (by have := hlen.out; omega)⟩
          have hRj := HR2.out.high j x (Nat.le_refl _) hx
          have x0 : wr.cell? ⟨gr, j * 3, none⟩ = some (.int .i64 x.a) := HR2.out.cell (u := 0) hRj (by omega)
          have x1 : wr.cell? ⟨gr, j * 3 + 1, none⟩ = some (.int .i64 x.b) := HR2.out.cell (u := 1) hRj (by omega)
          have x2 : wr.cell? ⟨gr, j * 3 + 2, none⟩ = some (.bool x.n) := HR2.out.cell (u := 2) hRj (by omega)
          have i0 : (0 : Int) ≤ (j : Int) := by omega
          have i1 : (j : Int) < (n : Int) := by omega
          have i2 : (0 : Int) ≤ (i : Int) := by omega
          have i3 : (i : Int) < (n : Int) := by omega
          have HX := Lib.hid hx
          have HR3 := Lib.hid (HR2.out.below (belowA (Below.refl wr.heap.size wr) (.cells #[.int .i64 x.a, .int .i64 x.b, .bool x.n] 32)))
          have HB3 : Hid (Below B w (wr.alloc (.cells #[.int .i64 x.a, .int .i64 x.b, .bool x.n] 32))) := HB2.out.alloc (by omega) _
          have hcall := Lib.hid (HC.out x (List.mem_of_getElem? hx) _ HB3.out)
          have y0 : (wr.alloc (.cells #[.int .i64 x.a, .int .i64 x.b, .bool x.n] 32)).cell? ⟨wr.heap.size, 0, none⟩ = some (.int .i64 x.a) := (cell_of_row _ _ 0 _ _ _ (heapNew (w := wr) rfl)).trans rfl
          have y1 : (wr.alloc (.cells #[.int .i64 x.a, .int .i64 x.b, .bool x.n] 32)).cell? ⟨wr.heap.size, 1, none⟩ = some (.int .i64 x.b) := (cell_of_row _ _ 1 _ _ _ (heapNew (w := wr) rfl)).trans rfl
          have y2 : (wr.alloc (.cells #[.int .i64 x.a, .int .i64 x.b, .bool x.n] 32)).cell? ⟨wr.heap.size, 2, none⟩ = some (.bool x.n) := (cell_of_row _ _ 2 _ _ _ (heapNew (w := wr) rfl)).trans rfl
          clear hx hRj
          cases hm : p x with
          | true =>
            rw [hm] at hcall
            have HM := Lib.hid hm
            clear hm
            go_wp2_with fail
            refine hcall.out.mono ?_
            rintro e w2 ⟨rfl, hb2⟩
            have HR4 : Hid (RewE p L gr n i (j + 1) R (cur.toList.drop (n * 3)) w2) := (HR3.out.below hb2).skip HX.out HM.out
            have HB4 : Hid (Below B w w2) := HB3.out.trans (hb2.mono (by simp; omega))
            have hz4 : w.heap.size ≤ w2.heap.size := by have := hb2.size; simp at this; omega
            clear hb2 HR2 HR3 HB3 HB2
            go_wp2_with fail
            go_roundw
            case rel => exact ⟨i, j + 1, R, rfl, by go_num, by omega, by omega, HR4, HB4, hz4⟩
            case measure => simp [intOf]; omega
          | false =>
            rw [hm] at hcall
            have HM := Lib.hid hm
            clear hm
            go_wp2_with fail
            refine hcall.out.mono ?_
            rintro e w2 ⟨rfl, hb2⟩
            have hR4 := HR3.out.below hb2
            have HR5 := Lib.hid (hR4.keep HX.out HM.out (show i < n by omega))
            have HB5 : Hid (Below B w (((w2.setCell ⟨gr, i * 3, none⟩ (.int .i64 x.a)).setCell ⟨gr, i * 3 + 1, none⟩ (.int .i64 x.b)).setCell ⟨gr, i * 3 + 2, none⟩ (.bool x.n))) := (((HB3.out.trans (hb2.mono (by simp; omega))).setCell (show B ≤ gr from hg) _).setCell (show B ≤ gr from hg) _).setCell (show B ≤ gr from hg) _
            have hz5 : w.heap.size ≤ (((w2.setCell ⟨gr, i * 3, none⟩ (.int .i64 x.a)).setCell ⟨gr, i * 3 + 1, none⟩ (.int .i64 x.b)).setCell ⟨gr, i * 3 + 2, none⟩ (.bool x.n)).heap.size := by have := hb2.size; simp at this ⊢; omega
            have hRi : i < R.length := by have := hR4.len; omega
            have hci := List.getElem?_eq_getElem hRi
            have q0 : w2.cell? ⟨gr, i * 3, none⟩ = some (.int .i64 R[i].a) := hR4.cell (u := 0) hci (by omega)
            have q1 : w2.cell? ⟨gr, i * 3 + 1, none⟩ = some (.int .i64 R[i].b) := hR4.cell (u := 1) hci (by omega)
            have q2 : w2.cell? ⟨gr, i * 3 + 2, none⟩ = some (.bool R[i].n) := hR4.cell (u := 2) hci (by omega)
            have qf : ∀ o, w2.frozen? ⟨gr, o, none⟩ = false := fun o => hR4.frozen
            have qf0 := qf (i * 3)
            have qf1 := qf (i * 3 + 1)
            have qf2 := qf (i * 3 + 2)
            have z0 := below_cell hb2 y0
            have z1 := below_cell hb2 y1
            have z2 := below_cell hb2 y2
            generalize R[i].a = ra at *
            generalize R[i].b = rb at *
            generalize R[i].n = rn at *
            clear hb2 HR2 HR3 HB3 HB2 hR4 hci hRi qf x0 x1 x2 y0 y1 y2
            go_wp2_with fail
            go_roundw
            case rel => exact ⟨i + 1, j + 1, R.set i x, by go_num, by go_num, by omega, by omega, HR5, HB5, hz5⟩
            case measure => simp [intOf]; omega
        · obtain rfl : j = n := by omega
          have hR := HR2.out
          have hRl := hR.len
          obtain ⟨Z, hcl⟩ := run_clear_edges wr 0 gr (i * 3) (j - i) (c - i) (by omega)
            (fun t ht => by
              have h1 : i + t / 3 < R.length := by omega
              have h2 := hR.cell (u := t % 3) (List.getElem?_eq_getElem h1) (Nat.mod_lt _ (by omega))
              have e : (i + t / 3) * 3 + t % 3 = i * 3 + t := by omega
              rw [e] at h2
              rw [h2]
              have : t % 3 = 0 ∨ t % 3 = 1 ∨ t % 3 = 2 := by omega
              rcases this with h | h | h <;> rw [h] <;> rfl)
            (fun t _ => hR.frozen)
          have hcl2 : ∀ ty, (Builtin.clear_ #[22] ty #[.slice (some ⟨gr, i * 3, none⟩) (j - i) (c - i)]).run Try.prog wr = .ok (.tuple #[]) (wr.setCells gr (i * 3) Z) := fun ty => hcl
          have i0 : (0 : Int) ≤ (i : Int) := by omega
          have i1 : (i : Int) ≤ (j : Int) := by omega
          have i2 : (i : Int) ≤ (c : Int) := by omega
          have i3 : (j : Int) ≤ (c : Int) := by omega
          have i4 : ¬ (j : Int) < (j : Int) := by omega
          have HE : Hid (SliceIs Enc.edge (wr.setCells gr (i * 3) Z) (wr.setCells gr (i * 3) Z).heap.size (some ⟨gr, 0, none⟩) i c (L.filter (fun e => !p e)) ∧ Below B w (wr.setCells gr (i * 3) Z)) := by
            have hLt : L.take j = L := List.take_of_length_le (by have := hlen.out; omega)
            have hkept := hR.kept
            have hnum := hR.num
            rw [hLt] at hkept hnum
            have hbl := below_cells B gr hg Z (i * 3) wr
            refine ⟨⟨hnum, by omega, hcm, by simp [reachN]; omega, .inr ⟨gr, 0, rfl, ?_, fun t x hx => ?_⟩⟩, HB2.out.trans hbl⟩
            · have h1 := (Array.getElem?_eq_some_iff.1 hR.heap).1
              have h2 := hbl.size
              omega
            · have hxL : x ∈ L := (List.mem_filter.1 (List.mem_of_getElem? hx)).1
              have ht : t < i := by have := (List.getElem?_eq_some_iff.1 hx).1; omega
              have hRt : R[t]? = some x := by
                have h1 : (R.take i)[t]? = some x := by rw [hkept]; exact hx
                rw [List.getElem?_take_of_lt ht] at h1
                exact h1
              refine ⟨x.cells, ⟨rfl, Hok.out x hxL⟩, fun u v hv => ?_⟩
              have hu : u < 3 := (List.getElem?_eq_some_iff.1 hv).1
              show World.cell? _ ⟨gr, 0 + t * 3 + u, none⟩ = some v
              rw [Nat.zero_add, World.cell?_setCells_out gr _ (i * 3) wr ⟨gr, t * 3 + u, none⟩ (fun _ _ => .inl (show t * 3 + u < i * 3 by omega)), hR.cell hRt hu, hv]
          clear hR hcl HR2 HB2
          go_wp2_with fail
          go_ret
          exact ⟨_, i, c, rfl, HE.out.1, HE.out.2⟩
end Go.Proofs.Ytdbpbchhkdconaa
