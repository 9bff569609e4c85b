/- scc.Inside, scc.Round. -/
import Derived.Test.YtdbpbchhkdconaaScIx
import Derived.Test.YtdbpbchhkdconaaScTo
import Derived.Test.YtdbpbchhkdconaaScDi
namespace Go.Proofs.Ytdbpbchhkdconaa
open Go.RowKit

def outP (N : Nat) (l : List GEdge) (x : GEdge) : Bool := !decide (plN N l x.a.toNat = plN N l x.b.toNat)
theorem ins_filter {N : Nat} {l : List GEdge} (hw : ∀ e ∈ l, withinE e (N : Int) = true) : l.filter (fun e => !outP N l e) = insL N l := by
  unfold insL
  refine List.filter_congr fun e he => ?_
  have h := eN_in hw (e.a.toNat, e.b.toNat) (List.mem_map.2 ⟨e, he, rfl⟩)
  unfold outP
  rw [Bool.not_not, Bool.eq_iff_iff, decide_eq_true_eq]
  exact plN_tog hw h.1 h.2
theorem within_nat {N : Nat} {x : GEdge} (h : withinE x (N : Int) = true) : ∃ ua ub : Nat, x.a = (ua : Int) ∧ x.b = (ub : Int) ∧ ua < N ∧ ub < N := by
  simp only [withinE, Bool.and_eq_true, decide_eq_true_eq] at h
  exact ⟨x.a.toNat, x.b.toNat, by omega, by omega, by omega, by omega⟩

set_option maxRecDepth 100000 in
set_option maxHeartbeats 4000000 in
theorem inside_any (N : Nat) (hN : N ≤ 32) (A : Option Addr) (m c : Nat) (l : List GEdge) (w : World) (h : SliceIs Enc.edge w w.heap.size A m c l) (hm : m ≤ 10000) (hr : rightG (N : Int) l = true) :
    Calls Try.prog 15 #[graphV (N : Int) A m c] w (InsPost (insL N l) w) := by
  obtain ⟨hb0, c0, c1⟩ := boxG (N : Int) A m c w
  have HP := Lib.hid (places_any N hN A m c l _ (h.mono hb0.size hb0.block) hm hr)
  have HB0 := Lib.hid hb0
  have HS := Lib.hid (fun (W : World) (hW : Below w.heap.size w W) => h.mono hW.size hW.block)
  have hw := right_in hr
  have Hw := Lib.hid hw
  have HF := Lib.hid (ins_filter hw)
  have hlen := h.1
  have HPl : Hid (ofG 0 (compsF N (eN l) (togN N (hasN l)) N (fun _ => false)) (fun _ => 0) = plN N l) := rfl
  unfold PlPost at HP
  rw [HPl.out] at HP
  obtain ⟨P, HPe⟩ : ∃ P : Ending → World → Prop, Hid (P = InsPost (insL N l) w) := ⟨_, rfl⟩
  rw [← HPe.out]
  clear h hb0 hr hw HPl
  go_enter Try.func15, Try.ntmps15
  go_wp2_with fail
  refine HP.out.mono ?_
  rintro e w1 ⟨R, rfl, hR, hrow, hb1⟩
  have HB1 : Hid (Below w.heap.size w w1) := HB0.out.trans (hb1.mono HB0.out.size)
  have HB2 : Hid (Below w.heap.size w (w1.alloc (.cells #[.slice (some ⟨R, 0, none⟩) N N] 29))) := HB1.out.alloc HB1.out.size _
  have hRl := (Array.getElem?_eq_some_iff.1 hrow).1
  have hrow2 : (w1.alloc (.cells #[.slice (some ⟨R, 0, none⟩) N N] 29)).heap[R]? = some (.cells (rowF (plN N l) N) 3 (0, 0)) := heapOld hrow
  have hbox : (w1.alloc (.cells #[.slice (some ⟨R, 0, none⟩) N N] 29)).heap[w1.heap.size]? = some (.cells #[.slice (some ⟨R, 0, none⟩) N N] 29 (0, 0)) := heapNew rfl
  have d0 : (w1.alloc (.cells #[.slice (some ⟨R, 0, none⟩) N N] 29)).cell? ⟨w1.heap.size, 0, none⟩ = some (.slice (some ⟨R, 0, none⟩) N N) := (cell_of_row _ _ 0 _ _ _ hbox).trans rfl
  have d1 : (w1.alloc (.cells #[.slice (some ⟨R, 0, none⟩) N N] 29)).cell? ⟨w.heap.size, 1, none⟩ = some (.slice A m c) := cellA (below_cell hb1 c1)
  have hz2 : w1.heap.size < (w1.alloc (.cells #[.slice (some ⟨R, 0, none⟩) N N] 29)).heap.size := by simp
  have HRow := Lib.hid hrow2
  have HBox := Lib.hid hbox
  clear hb1 hrow hrow2 hbox c0 c1 hR
  by_cases hN0 : N = 0
  · subst hN0
    have hl : l = [] := by
      cases l with
      | nil => rfl
      | cons x t =>
        have := Hw.out x (List.mem_cons_self ..)
        simp only [withinE, Bool.and_eq_true, decide_eq_true_eq] at this
        omega
    have HE : Hid (P (.returned (.slice none 0 0)) (w1.alloc (.cells #[.slice (some ⟨R, 0, none⟩) 0 0] 29))) := by
      show P _ _
      rw [HPe.out, hl]
      exact ⟨none, 0, 0, rfl, SliceIs.nil, HB2.out⟩
    go_wp2_with fail
    exact HE.out
  · have z : ((N : Int) == 0) = false := by simp; omega
    have HCl := Lib.hid (fun (W : World) (hW : Below w.heap.size w W) => cloneE_any A m c l W (HS.out W hW) hm)
    clear HB1
    go_wp2_with fail
    generalize w1.alloc (.cells #[.slice (some ⟨R, 0, none⟩) N N] 29) = w2 at *
    have hgp := (Array.getElem?_eq_some_iff.1 HBox.out).1
    have hR2 := (Array.getElem?_eq_some_iff.1 HRow.out).1
    generalize w1.heap.size = gp at *
    refine (HCl.out w2 HB2.out).mono ?_
    rintro e w3 ⟨A3, c3, rfl, hown, hb3⟩
    have hown2 := hown
    have hsl : SliceIs Enc.edge w3 w3.heap.size A3 m c3 l := SliceIs.of_flat (E := Enc.edge) GEdge.cells (fun _ => rfl) hown hlen (by simp [reachN]; omega) (fun x hx => ⟨rfl, by
      obtain ⟨i, hi, rfl⟩ := List.mem_iff_getElem.1 hx
      obtain ⟨b, o, y, -, -, hy, -, -, -, hok⟩ := (HS.out w2 HB2.out).edge_at (i := i) (by omega)
      have : l[i] = y := by have := hy.out; rw [List.getElem?_eq_getElem hi] at this; simpa using this
      rw [this]; exact hok⟩)
    have HD := Lib.hid (deleteE_any w2.heap.size gp (outP N l) A3 m c3 l w3 hb3.size hsl hown2 hm (fun x hx W hW => by
      obtain ⟨ua, ub, e1, e2, hua, hub⟩ := within_nat (Hw.out x hx)
      have hB : Below w2.heap.size w2 W := hb3.trans hW
      have k0 : W.cell? ⟨gp, 0, none⟩ = some (.slice (some ⟨R, 0, none⟩) N N) := (cell_of_row _ _ 0 _ _ _ ((hB.block _ hgp).trans HBox.out)).trans rfl
      have hrw := (hB.block _ hR2).trans HRow.out
      have k1 : W.cell? ⟨R, ua, none⟩ = some (.int .i64 (plN N l ua : Int)) := by rw [cell_of_row _ _ _ _ _ _ hrw, rowF_get hua]
      have k2 : W.cell? ⟨R, ub, none⟩ = some (.int .i64 (plN N l ub : Int)) := by rw [cell_of_row _ _ _ _ _ _ hrw, rowF_get hub]
      have := inside1_any W gp R N N ua ub (plN N l ua) (plN N l ub) x.n k0 hua hub k1 k2
      show Calls _ _ #[.agg #[.int .i64 x.a, .int .i64 x.b, .bool x.n], .pointer (some ⟨gp, 0, none⟩)] _ _
      unfold outP
      rw [e1, e2]
      exact this))
    have HB3 : Hid (Below w.heap.size w w3) := HB2.out.trans (hb3.mono HB2.out.size)
    have hz3 := HB2.out.size
    clear hown hown2 hb3 hsl d0 d1 z
    go_wp2_with fail
    refine HD.out.mono ?_
    rintro e w4 ⟨A4, k4, c4, rfl, hs4, hb4⟩
    have HE : Hid (P (.returned (.slice A4 k4 c4)) w4) := by
      show P _ _
      rw [HPe.out]
      rw [HF.out] at hs4
      exact ⟨A4, k4, c4, rfl, hs4, HB3.out.trans (hb4.mono hz3)⟩
    clear hs4 hb4
    go_wp2_with fail
    exact HE.out

set_option maxRecDepth 100000 in
set_option maxHeartbeats 4000000 in
theorem round1_any (w : World) (g gq b n c ua ub un pa pn : Nat) (ne : Bool) (hg : w.cell? ⟨g, 0, none⟩ = some (.slice (some ⟨b, 0, none⟩) n c)) (hq : w.cell? ⟨gq, 0, none⟩ = some (.int .i64 (un : Int))) (ha : ua < n) (hn : un < n) (hpa : w.cell? ⟨b, ua, none⟩ = some (.int .i64 (pa : Int))) (hpn : w.cell? ⟨b, un, none⟩ = some (.int .i64 (pn : Int))) :
    Calls Try.prog 38 #[.agg #[.int .i64 (ua : Int), .int .i64 (ub : Int), .bool ne], .pointer (some ⟨g, 0, none⟩), .pointer (some ⟨gq, 0, none⟩)] w (RetBool (decide (pa = pn)) w) := by
  have mixed : Try.prog.follows .mixedOrders = true := by kernel_rfl
  have a0 : (0 : Int) ≤ (ua : Int) := by omega
  have a1 : (ua : Int) < (n : Int) := by omega
  have b0 : (0 : Int) ≤ (un : Int) := by omega
  have b1 : (un : Int) < (n : Int) := by omega
  have c0 := cellA (o := .cells #[.int .i64 (ua : Int), .int .i64 (ub : Int), .bool ne] 32) hg
  have c1 := cellA (o := .cells #[.int .i64 (ua : Int), .int .i64 (ub : Int), .bool ne] 32) hpa
  have c2 := cellA (o := .cells #[.int .i64 (ua : Int), .int .i64 (ub : Int), .bool ne] 32) hpn
  have c5 := cellA (o := .cells #[.int .i64 (ua : Int), .int .i64 (ub : Int), .bool ne] 32) hq
  have c3 : (w.alloc (.cells #[.int .i64 (ua : Int), .int .i64 (ub : Int), .bool ne] 32)).cell? ⟨w.heap.size, 0, none⟩ = some (.int .i64 (ua : Int)) := (cell_of_row _ _ 0 _ _ _ (heapNew (w := w) rfl)).trans rfl
  have hbw : Hid (Below w.heap.size w (w.alloc (.cells #[.int .i64 (ua : Int), .int .i64 (ub : Int), .bool ne] 32)).drew) := Below.drew (belowA (Below.refl _ _) _)
  clear hg hpa hpn hq
  go_enter Try.func38, Try.ntmps38
  go_wp2_with fail
  generalize w.alloc (.cells #[.int .i64 (ua : Int), .int .i64 (ub : Int), .bool ne] 32) = V1 at *
  refine drawnS mixed _ (fun W => W = V1.drew) rfl (by kernel_rfl) rfl rfl ?_
  iterate 11
    apply seqS_op
    · rintro W rfl
      go_wp2_with fail
      exact ⟨rfl, rfl, fun d hd => by cases hd; simp only [List.getElem?_toArray, List.getElem?_cons_succ, List.getElem?_cons_zero]; rfl, rfl⟩
    simp only [Act.put, List.setIfInBounds_toArray, List.set_cons_succ, List.set_cons_zero]
  apply seqS_end
  rintro W rfl
  go_wp2_with fail
  go_ret
  exact ⟨by simp [BEq.beq] <;> omega, hbw.out⟩

theorem round_plain {N : Nat} {l : List GEdge} (hw : ∀ e ∈ l, withinE e (N : Int) = true) {u : Nat} (hu : u < N) : (insL N l).any (fun e => decide (plN N l e.a.toNat = plN N l u)) = roundR N l (u : Int) := by
  unfold roundR
  rw [Bool.eq_iff_iff, List.any_eq_true, List.any_eq_true]
  have key : ∀ e ∈ insL N l, (decide (plN N l e.a.toNat = plN N l u) = true ↔ togR N l e.a (u : Int) = true) := fun e he => by
    have hel := (List.mem_filter.1 he).1
    obtain ⟨ua, ub, e1, e2, hua, hub⟩ := within_nat (hw e hel)
    rw [e1, togR_nat, Int.toNat_natCast, decide_eq_true_eq]
    exact plN_tog hw hua hu
  constructor
  · rintro ⟨e, he, h⟩
    exact ⟨e, he, (key e he).1 h⟩
  · rintro ⟨e, he, h⟩
    exact ⟨e, he, (key e he).2 h⟩
theorem round_out {N : Nat} {l : List GEdge} {n : Int} (h : n < 0 ∨ (N : Int) ≤ n) : roundR N l n = false := by
  unfold roundR
  rw [List.any_eq_false]
  intro e _
  unfold togR
  rcases h with h | h
  · have : ¬ 0 ≤ n := by omega
    simp [this]
  · have : ¬ n < (N : Int) := by omega
    simp [this]

set_option maxRecDepth 100000 in
set_option maxHeartbeats 8000000 in
theorem round_any (N : Nat) (hN : N ≤ 32) (A : Option Addr) (m c : Nat) (l : List GEdge) (n : Int) (w : World) (h : SliceIs Enc.edge w w.heap.size A m c l) (hm : m ≤ 10000) (hr : rightG (N : Int) l = true) :
    Calls Try.prog 19 #[graphV (N : Int) A m c, .int .i64 n] w (RetBool (roundR N l n) w) := by
  have hyu : undef = Value.tuple #[] := rfl
  have hb0 : Below w.heap.size w ((w.alloc (.cells #[.int .i64 (N : Int), .slice A m c] 24)).alloc (.cells #[.int .i64 n] 3)) := belowA (belowA (Below.refl _ _) _) _
  have c0 : ((w.alloc (.cells #[.int .i64 (N : Int), .slice A m c] 24)).alloc (.cells #[.int .i64 n] 3)).cell? ⟨w.heap.size, 0, none⟩ = some (.int .i64 (N : Int)) := cellA ((cell_of_row _ _ 0 _ _ _ (heapNew (w := w) rfl)).trans rfl)
  have c1 : ((w.alloc (.cells #[.int .i64 (N : Int), .slice A m c] 24)).alloc (.cells #[.int .i64 n] 3)).cell? ⟨w.heap.size, 1, none⟩ = some (.slice A m c) := cellA ((cell_of_row _ _ 1 _ _ _ (heapNew (w := w) rfl)).trans rfl)
  have c2 : ((w.alloc (.cells #[.int .i64 (N : Int), .slice A m c] 24)).alloc (.cells #[.int .i64 n] 3)).cell? ⟨w.heap.size + 1, 0, none⟩ = some (.int .i64 n) := (cell_of_row _ _ 0 _ _ _ (heapNew (by simp))).trans rfl
  have HP := Lib.hid (places_any N hN A m c l _ (h.mono hb0.size hb0.block) hm hr)
  have HB0 := Lib.hid hb0
  have HIn := Lib.hid (fun (W : World) (hW : Below w.heap.size w W) => inside_any N hN A m c l W (h.mono hW.size hW.block) hm hr)
  have Hw := Lib.hid (right_in hr)
  have HPl : Hid (ofG 0 (compsF N (eN l) (togN N (hasN l)) N (fun _ => false)) (fun _ => 0) = plN N l) := rfl
  unfold PlPost at HP
  rw [HPl.out] at HP
  clear h hb0 hr HPl
  go_enter Try.func19, Try.ntmps19
  go_wp2_with fail
  refine HP.out.mono ?_
  rintro e w1 ⟨R, rfl, hR, hrow, hb1⟩
  have HB1 : Hid (Below w.heap.size w w1) := HB0.out.trans (hb1.mono HB0.out.size)
  have HB2 : Hid (Below w.heap.size w (w1.alloc (.cells #[.slice (some ⟨R, 0, none⟩) N N] 29))) := HB1.out.alloc HB1.out.size _
  have hrow2 : (w1.alloc (.cells #[.slice (some ⟨R, 0, none⟩) N N] 29)).heap[R]? = some (.cells (rowF (plN N l) N) 3 (0, 0)) := heapOld hrow
  have hbox : (w1.alloc (.cells #[.slice (some ⟨R, 0, none⟩) N N] 29)).heap[w1.heap.size]? = some (.cells #[.slice (some ⟨R, 0, none⟩) N N] 29 (0, 0)) := heapNew rfl
  have d0 : (w1.alloc (.cells #[.slice (some ⟨R, 0, none⟩) N N] 29)).cell? ⟨w1.heap.size, 0, none⟩ = some (.slice (some ⟨R, 0, none⟩) N N) := (cell_of_row _ _ 0 _ _ _ hbox).trans rfl
  have d1 : (w1.alloc (.cells #[.slice (some ⟨R, 0, none⟩) N N] 29)).cell? ⟨w.heap.size, 1, none⟩ = some (.slice A m c) := cellA (below_cell hb1 c1)
  have d2 : (w1.alloc (.cells #[.slice (some ⟨R, 0, none⟩) N N] 29)).cell? ⟨w.heap.size, 0, none⟩ = some (.int .i64 (N : Int)) := cellA (below_cell hb1 c0)
  have d3 : (w1.alloc (.cells #[.slice (some ⟨R, 0, none⟩) N N] 29)).cell? ⟨w.heap.size + 1, 0, none⟩ = some (.int .i64 n) := cellA (below_cell hb1 c2)
  have HRow := Lib.hid hrow2
  have HBox := Lib.hid hbox
  clear hb1 hrow hrow2 hbox c0 c1 c2 hR HB1
  by_cases hn0 : n < 0
  · have hro := round_out (l := l) (.inl hn0 : n < 0 ∨ (N : Int) ≤ n)
    have i0 : ¬ (0 : Int) ≤ n := by omega
    go_wp2_with fail
    go_ret
    exact ⟨by simp, HB2.out⟩
  have i0 : (0 : Int) ≤ n := by omega
  by_cases hn1 : (N : Int) ≤ n
  · have hro := round_out (l := l) (.inr hn1 : n < 0 ∨ (N : Int) ≤ n)
    have i1 : ¬ n < (N : Int) := by omega
    go_wp2_with fail
    go_ret
    exact ⟨by simp, HB2.out⟩
  have i1 : n < (N : Int) := by omega
  obtain ⟨u, rfl⟩ : ∃ u : Nat, n = (u : Int) := ⟨n.toNat, by omega⟩
  have hu : u < N := by omega
  have HRp := Lib.hid (round_plain Hw.out hu)
  obtain ⟨r, Hr⟩ : ∃ r, Hid (roundR N l (u : Int) = r) := ⟨_, rfl⟩
  rw [Hr.out] at HRp
  go_wp2_with fail
  clear hyu
  generalize w1.alloc (.cells #[.slice (some ⟨R, 0, none⟩) N N] 29) = w2 at *
  have hgp := (Array.getElem?_eq_some_iff.1 HBox.out).1
  have hR2 := (Array.getElem?_eq_some_iff.1 HRow.out).1
  generalize w1.heap.size = gp at *
  have hgq := World.block_lt_of_cell? w2 _ d3
  refine (HIn.out w2 HB2.out).mono ?_
  rintro e w3 ⟨A3, k3, c3, rfl, hs3, hb3⟩
  have HB3 : Hid (Below w.heap.size w w3) := HB2.out.trans (hb3.mono HB2.out.size)
  have HIx := Lib.hid (indexE2_any gp (w.heap.size + 1) (fun e => decide (plN N l e.a.toNat = plN N l u)) A3 k3 c3 (insL N l) w3 hs3 (fun x hx W hW => by
    obtain ⟨ua, ub, e1, e2, hua, hub⟩ := within_nat (Hw.out x (List.mem_filter.1 hx).1)
    have hB : Below w2.heap.size w2 W := hb3.trans (hW.mono hb3.size)
    have k0 : W.cell? ⟨gp, 0, none⟩ = some (.slice (some ⟨R, 0, none⟩) N N) := (cell_of_row _ _ 0 _ _ _ ((hB.block _ hgp).trans HBox.out)).trans rfl
    have hrw := (hB.block _ hR2).trans HRow.out
    have k1 : W.cell? ⟨R, ua, none⟩ = some (.int .i64 (plN N l ua : Int)) := by rw [cell_of_row _ _ _ _ _ _ hrw, rowF_get hua]
    have k2 : W.cell? ⟨R, u, none⟩ = some (.int .i64 (plN N l u : Int)) := by rw [cell_of_row _ _ _ _ _ _ hrw, rowF_get hu]
    have k3 : W.cell? ⟨w.heap.size + 1, 0, none⟩ = some (.int .i64 (u : Int)) := below_cell hB d3
    have := round1_any W gp (w.heap.size + 1) R N N ua ub u (plN N l ua) (plN N l u) x.n k0 k3 hua hu k1 k2
    show Calls _ _ #[.agg #[.int .i64 x.a, .int .i64 x.b, .bool x.n], .pointer (some ⟨gp, 0, none⟩), .pointer (some ⟨w.heap.size + 1, 0, none⟩)] _ _
    rw [e1, e2]
    exact this))
  have HCf : Hid (∀ W1 : World, W1 = w3 → Calls Try.prog 37 #[.slice A3 k3 c3, .func (.func 38) #[] #[.pointer (some ⟨gp, 0, none⟩), .pointer (some ⟨w.heap.size + 1, 0, none⟩)]] W1 (RetBool r w3)) := by
    rintro W1 rfl
    have HRr : Hid (∀ e w', FirstE (fun e => decide (plN N l e.a.toNat = plN N l u)) (insL N l) W1 e w' → ∃ k : Int, e = .returned (.int .i64 k) ∧ decide (0 ≤ k) = r ∧ Below W1.heap.size W1 w') := by
      rintro e w' ⟨hb, (⟨rfl, hall⟩ | ⟨k, x, rfl, hx, hp, -⟩)⟩
      · refine ⟨_, rfl, ?_, hb⟩
        rw [← HRp.out]
        symm
        rw [show decide ((0 : Int) ≤ -1) = false from rfl, List.any_eq_false]
        exact fun x hx h2 => Bool.false_ne_true ((hall x hx).symm.trans h2)
      · refine ⟨_, rfl, ?_, hb⟩
        rw [← HRp.out]
        symm
        rw [decide_eq_true (show (0 : Int) ≤ (k : Int) by omega), List.any_eq_true]
        exact ⟨x, List.mem_of_getElem? hx, hp⟩
    clear HIn HP
    go_enter Try.func37, Try.ntmps37
    go_wp2_with fail
    refine HIx.out.mono ?_
    intro e w4 hh
    obtain ⟨k, rfl, hk, hb4⟩ := HRr.out e w4 hh
    have Hk := Lib.hid hk
    clear hh hk
    go_wp2_with fail
    go_ret
    exact ⟨by rw [← Hk.out]; rfl, hb4⟩
  have hz3 := HB2.out.size
  have hz4 := hb3.size
  clear hs3 hb3 d0 d1 d2 d3
  go_wp2_with fail
  refine (HCf.out w3 rfl).mono ?_
  rintro e w5 ⟨rfl, hb5⟩
  have HE : Hid (Below w.heap.size w w5) := HB3.out.trans (hb5.mono HB3.out.size)
  clear hb5
  go_wp2_with fail
  go_ret
  exact ⟨by simp [Hr.out], HE.out⟩
end Go.Proofs.Ytdbpbchhkdconaa
