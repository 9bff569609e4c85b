/- The document's Places. -/
import Derived.Test.YtdbpbchhkdconaaScDd
import Derived.Test.YtdbpbchhkdconaaScOf
import Derived.Test.YtdbpbchhkdconaaMa1
namespace Go.Proofs.Ytdbpbchhkdconaa
open Go.RowKit

def PlPost (L : List (List Nat)) (n : Nat) (w : World) (e : Ending) (w' : World) : Prop :=
  ∃ R, e = .returned (.slice (some ⟨R, 0, none⟩) n n) ∧ w.heap.size ≤ R ∧ w'.heap[R]? = some (.cells (rowF (ofG 0 L (fun _ => 0)) n) 3 (0, 0)) ∧ Below w.heap.size w w'
theorem comps_in {N : Nat} {edges : List (Nat × Nat)} {tog : Nat → Nat → Bool} {f : Nat} {d : Nat → Bool} : ∀ p ∈ compsF N edges tog f d, ∀ x ∈ p, x < N := by
  intro p hp x hx
  obtain ⟨a, ha, -, rfl⟩ := comps_cls f d p hp
  exact (cls_mem.1 hx).1

set_option maxRecDepth 100000 in
set_option maxHeartbeats 8000000 in
theorem refPlaces_any (N : Nat) (hN : N ≤ 1000) (A : Option Addr) (m c : Nat) (l : List GEdge) (w : World) (h : SliceIs Enc.edge w w.heap.size A m c l) (hw : ∀ e ∈ l, withinE e (N : Int) = true) :
    Calls Try.prog 18 #[.agg #[.int .i64 (N : Int), .slice A m c]] w (PlPost (compsF N (eN l) (togN N (hasN l)) N (fun _ => false)) N w) := by
  have hmk := run_make_row' (P := Try.prog) 29 3 (.int .i64 0) 8 Try.underlying29 info_nat rfl .i64 .i64 N (by omega) (by omega) (w.alloc (.cells #[.int .i64 (N : Int), .slice A m c] 36))
  rw [rowF_zero] at hmk
  have cg0 : (w.alloc (.cells #[.int .i64 (N : Int), .slice A m c] 36)).cell? ⟨w.heap.size, 0, none⟩ = some (.int .i64 (N : Int)) := (cell_of_row _ _ 0 _ _ _ (heapNew (w := w) rfl)).trans rfl
  have cg1 : ((w.alloc (.cells #[.int .i64 (N : Int), .slice A m c] 36)).alloc (.cells (rowF (fun _ => 0) N) 3)).cell? ⟨w.heap.size, 0, none⟩ = some (.int .i64 (N : Int)) := cellA cg0
  have cg2 : ((w.alloc (.cells #[.int .i64 (N : Int), .slice A m c] 36)).alloc (.cells (rowF (fun _ => 0) N) 3)).cell? ⟨w.heap.size, 1, none⟩ = some (.slice A m c) := cellA ((cell_of_row _ _ 1 _ _ _ (heapNew (w := w) rfl)).trans rfl)
  have hb0 : Below w.heap.size w ((w.alloc (.cells #[.int .i64 (N : Int), .slice A m c] 36)).alloc (.cells (rowF (fun _ => 0) N) 3)) := belowA (belowA (Below.refl _ _) _) _
  have HC := Lib.hid (refComps_any N hN A m c l _ (h.mono hb0.size hb0.block) hw)
  have hr0 : ((w.alloc (.cells #[.int .i64 (N : Int), .slice A m c] 36)).alloc (.cells (rowF (fun _ => 0) N) 3)).heap[w.heap.size + 1]? = some (.cells (rowF (fun _ => 0) N) 3 (0, 0)) := heapNew (by simp)
  have HB0 := Lib.hid hb0
  have HR0 := Lib.hid hr0
  have hL := comps_in (N := N) (edges := eN l) (tog := togN N (hasN l)) (f := N) (d := fun _ => false)
  obtain ⟨L, HLe⟩ : ∃ L, Hid (L = compsF N (eN l) (togN N (hasN l)) N (fun _ => false)) := ⟨_, rfl⟩
  unfold CompsPost at HC
  rw [← HLe.out] at hL HC ⊢
  obtain ⟨P, HP⟩ : ∃ P : Ending → World → Prop, Hid (P = PlPost L N w) := ⟨_, rfl⟩
  rw [← HP.out]
  have HL := Lib.hid hL
  clear h hw hb0 hr0 hL HLe
  go_enter Try.func18, Try.ntmps18
  go_wp2_with fail
  refine HC.out.mono ?_
  rintro e w1 ⟨At, k, ct, rfl, hst, hb1⟩
  have hz0 : w.heap.size + 1 < w1.heap.size := by have := hb1.size; simp at this; omega
  have hr1 := (hb1.block (w.heap.size + 1) (by simp)).trans HR0.out
  have HR1 := Lib.hid hr1
  have hkl : L.length = k := SliceIs.len_eq hst
  have hkb := hst.bound
  have hsl : SliceFar (Enc.slice Enc.nat) w1 [w.heap.size + 1] At k ct L := SliceFar.out hst (Out.refl [] w1) (fun b hb _ => by cases hb) (fun b hb _ => by simp at hb; simp; omega)
  have HS := Lib.hid hsl
  have Hlen := Lib.hid hkl
  have HB1 : Hid (Below w.heap.size w w1) := HB0.out.trans (hb1.mono HB0.out.size)
  clear hst hb1 hr1 hsl hkl HR0 HB0 cg0 cg1 cg2 hmk HC
  go_wp2_with fail
  have hRw : w.heap.size ≤ w.heap.size + 1 := by omega
  have hRz := hz0
  generalize w.heap.size + 1 = R at *
  go_loopw [5, 6] (fun i _ wr => ∃ j : Nat, j ≤ k ∧ i = .int .i64 (j : Int) ∧ Hid (wr.heap[R]? = some (.cells (rowF (ofG 0 (L.take j) (fun _ => 0)) N) 3 (0, 0))) ∧ Hid (Out [R] w1 wr)) (fun i _ _ => k - (intOf i).toNat)
  case atStart => exact ⟨0, by omega, rfl, by rw [List.take_zero]; exact HR1, Out.refl _ _⟩
  case round =>
    obtain ⟨j, hj, rfl, HG, HO⟩ := hrel
    have i0 : (0 : Int) ≤ (j : Int) := by omega
    by_cases hlt : j < k
    · have i1 : (j : Int) < (k : Int) := by omega
      go_wp2_with fail
      obtain ⟨W0, hW0⟩ : ∃ X, X = wr := ⟨_, rfl⟩
      subst hW0
      obtain ⟨part, hpt⟩ : ∃ part, L[j]? = some part := ⟨_, List.getElem?_eq_getElem (by rw [Hlen.out]; exact hlt)⟩
      have Hpt := Lib.hid hpt
      clear hpt
      go_loopw [6] (fun i wr => ∃ q : Nat, q ≤ part.length ∧ i = .int .i64 (q : Int) ∧ Hid (wr.heap[R]? = some (.cells (rowF (asg (ofG 0 (L.take j) (fun _ => 0)) j (part.take q)) N) 3 (0, 0))) ∧ Hid (Out [R] w1 wr)) (fun i _ => part.length - (intOf i).toNat)
      case atStart =>
        refine ⟨0, by omega, rfl, ?_, HO⟩
        have : asg (ofG 0 (L.take j) (fun _ => 0)) j (part.take 0) = ofG 0 (L.take j) (fun _ => 0) := by funext v; simp [asg]
        rw [this]; exact HG
      case round =>
        obtain ⟨q, hq, rfl, HGq, HOq⟩ := hrel
        have q0 : (0 : Int) ≤ (q : Int) := by omega
        have hsl : SliceFar (Enc.slice Enc.nat) wr [R] At k ct L := HS.out.out HOq.out (fun b hb _ => hb) (fun b hb _ => hb)
        obtain ⟨b, o, part', A', n', c', rfl, hb, hx, x0, hp⟩ := SliceIs.slice_at hsl hlt
        obtain rfl : part = part' := by have := Hpt.out.symm.trans hx.out; injection this
        have hpn : part.length = n' := hp.1
        subst hpn
        have hpb := hp.bound
        have x00 : wr.cell? ⟨b, o + j, none⟩ = some (.slice A' part.length c') := (kept_up wr [R] wr.heap.size).cell hb x0
        by_cases hlq : q < part.length
        · have q1 : (q : Int) < (part.length : Int) := by omega
          obtain ⟨b2, o2, x, rfl, hb2, hx2, y0, -⟩ := hp.nat_at hlq
          have y00 : wr.cell? ⟨b2, o2 + q, none⟩ = some (.int .i64 (x : Int)) := (kept_up wr [R] wr.heap.size).cell hb2 y0
          have hxn : x < N := HL.out part (List.mem_of_getElem? hx.out) x (List.mem_of_getElem? hx2.out)
          have c0 : wr.cell? ⟨R, x, none⟩ = some (.int .i64 (asg (ofG 0 (L.take j) (fun _ => 0)) j (part.take q) x : Int)) := by
            rw [cell_of_row _ _ _ _ _ _ HGq.out, rowF_get hxn]
          have f0 : wr.frozen? ⟨R, x, none⟩ = false := frozen_of_row _ _ _ _ _ HGq.out
          have HG9 : Hid ((wr.setCell ⟨R, x, none⟩ (.int .i64 (j : Int))).heap[R]? = some (.cells (rowF (asg (ofG 0 (L.take j) (fun _ => 0)) j (part.take (q + 1))) N) 3 (0, 0))) := by
            show _ = _
            rw [set_cell8 HGq.out, rowF_set]
            congr 2
            have : updN (asg (ofG 0 (L.take j) (fun _ => 0)) j (part.take q)) x j = asg (ofG 0 (L.take j) (fun _ => 0)) j (part.take (q + 1)) := by
              funext v
              unfold updN asg
              rw [List.take_add_one, hx2.out]
              by_cases hv : v = x
              · subst hv; simp
              · rw [if_neg hv]
                by_cases hm : v ∈ part.take q
                · rw [if_pos hm, if_pos (List.mem_append_left _ hm)]
                · rw [if_neg hm, if_neg]
                  intro hh
                  rcases List.mem_append.1 hh with hh | hh
                  · exact hm hh
                  · simp at hh; exact hv hh
            rw [this]
          have HO9 : Hid (Out [R] w1 (wr.setCell ⟨R, x, none⟩ (.int .i64 (j : Int)))) := HOq.out.trans (set_out wr R x _) (fun b hb _ => hb)
          have x1 : (0 : Int) ≤ (x : Int) := by omega
          have x2 : (x : Int) < (N : Int) := by omega
          generalize (asg (ofG 0 (L.take j) (fun _ => 0)) j (part.take q) x : Int) = old at c0
          clear hsl hp x0 y0 hx hx2 HGq HOq hb hb2
          go_wp2_with fail
          go_roundw
          case rel => exact ⟨q + 1, by omega, by go_num, HG9, HO9⟩
          case measure => simp [intOf]; omega
        · have q1 : ¬ (q : Int) < (part.length : Int) := by omega
          have HG9 : Hid (wr.heap[R]? = some (.cells (rowF (ofG 0 (L.take (j + 1)) (fun _ => 0)) N) 3 (0, 0))) := by
            have e : L.take (j + 1) = L.take j ++ [part] := by rw [List.take_add_one, hx.out]; rfl
            have hlj : (L.take j).length = j := by rw [List.length_take, Hlen.out]; omega
            show _ = _
            rw [e, ofG_snoc, hlj, Nat.zero_add, HGq.out, show part.take q = part from List.take_of_length_le (by omega)]
          clear hsl hp x0 hx HGq hb
          go_wp2_with fail
          go_roundw
          case rel => exact ⟨j + 1, by omega, by go_num, HG9, HOq⟩
          case measure => simp [intOf]; omega
    · have i1 : ¬ (j : Int) < (k : Int) := by omega
      have HE : Hid (P (.returned (.slice (some ⟨R, 0, none⟩) N N)) wr) := by
        show P _ _
        rw [HP.out]
        refine ⟨R, rfl, hRw, ?_, HB1.out.trans (HO.out.below (fun b hb => by simp at hb; omega) (by omega))⟩
        have := HG.out
        rw [List.take_of_length_le (by rw [Hlen.out]; omega)] at this
        exact this
      go_wp2_with fail
      first
        | exact HE.out
        | (go_ret; exact HE.out)
end Go.Proofs.Ytdbpbchhkdconaa
