/- scc.of: which of some components has each node. -/
import Derived.Test.YtdbpbchhkdconaaScP
import Derived.Test.YtdbpbchhkdconaaScRow
import Derived.Deep.OwnRows
namespace Go.Proofs.Ytdbpbchhkdconaa
open Go.RowKit

/-- the last part that holds a node; 0: none does -/
def ofF (L : List (List Nat)) (v : Nat) : Nat := ((List.range L.length).reverse.find? (fun i => (L.getD i []).contains v)).getD 0
def asg (f : Nat → Nat) (i : Nat) (part : List Nat) : Nat → Nat := fun v => if v ∈ part then i else f v
def ofG : Nat → List (List Nat) → (Nat → Nat) → Nat → Nat
  | _, [], f => f
  | i, p :: L, f => ofG (i + 1) L (asg f i p)
theorem ofG_snoc : ∀ (L : List (List Nat)) (i : Nat) (f : Nat → Nat) (p : List Nat), ofG i (L ++ [p]) f = asg (ofG i L f) (i + L.length) p
  | [], i, f, p => by simp [ofG]
  | q :: L, i, f, p => by
    show ofG (i + 1) (L ++ [p]) (asg f i q) = _
    rw [ofG_snoc L (i + 1) _ p]
    show _ = asg (ofG (i + 1) L (asg f i q)) (i + (q :: L).length) p
    rw [show i + (q :: L).length = i + 1 + L.length by simp; omega]

def OfPost (L : List (List Nat)) (n : Nat) (w : World) (e : Ending) (w' : World) : Prop :=
  e = .returned (.slice (some ⟨w.heap.size, 0, none⟩) n n) ∧ w'.heap[w.heap.size]? = some (.cells (rowF (ofG 0 L (fun _ => 0)) n) 3 (0, 0)) ∧ Below w.heap.size w w'

set_option maxRecDepth 100000 in
set_option maxHeartbeats 8000000 in
theorem of_any (A : Option Addr) (k c : Nat) (L : List (List Nat)) (n : Nat) (hn : n ≤ 1000) (w : World) (h : SliceIs (Enc.slice Enc.nat) w w.heap.size A k c L) (hL : ∀ p ∈ L, ∀ x ∈ p, x < n) : Calls Try.prog 30 #[.slice A k c, .int .i64 (n : Int)] w (OfPost L n w) := by
  have hmk := run_make_row' (P := Try.prog) 29 3 (.int .i64 0) 8 Try.underlying29 info_nat rfl .i64 .i64 n (by omega) (by omega) w
  rw [rowF_zero] at hmk
  have HS := Lib.hid h
  have Hlen := Lib.hid h.1
  have hkb := h.bound
  obtain ⟨P, HP⟩ : ∃ P : Ending → World → Prop, Hid (P = OfPost L n w) := ⟨_, rfl⟩
  rw [← HP.out]
  clear h
  go_enter Try.func30, Try.ntmps30
  go_wp2_with fail
  have hb0 : Below w.heap.size w (w.alloc (.cells (rowF (fun _ => 0) n) 3)) := belowA (Below.refl _ _) _
  have hg0 : (w.alloc (.cells (rowF (fun _ => 0) n) 3)).heap[w.heap.size]? = some (.cells (rowF (fun _ => 0) n) 3 (0, 0)) := heapNew rfl
  generalize w.alloc (.cells (rowF (fun _ => 0) n) 3) = V at hb0 hg0 hmk ⊢
  have HB0 := Lib.hid hb0
  have HG0 := Lib.hid hg0
  clear hb0 hg0 hmk
  go_loopw [6, 7, 9, 14] (fun _ _ _ i wr => ∃ j : Nat, j ≤ k ∧ i = .int .i64 (j : Int) ∧ Hid (wr.heap[w.heap.size]? = some (.cells (rowF (ofG 0 (L.take j) (fun _ => 0)) n) 3 (0, 0))) ∧ Hid (Below w.heap.size w wr)) (fun _ _ _ i _ => k - (intOf i).toNat)
  case atStart => exact ⟨0, by omega, rfl, by rw [List.take_zero]; exact HG0, HB0⟩
  case round =>
    obtain ⟨j, hj, rfl, HG, HB⟩ := hrel
    have i0 : (0 : Int) ≤ (j : Int) := by omega
    by_cases hlt : j < k
    · have i1 : (j : Int) < (k : Int) := by omega
      obtain ⟨b, o, part, A', n', c', rfl, hb, hx, x00, hp⟩ := HS.out.slice_at hlt
      have x0 := below_cell HB.out x00
      have hpn : part.length = n' := hp.1
      have hpb := hp.bound
      go_wp2_with fail
      obtain ⟨V1, hV1⟩ : ∃ X, X = wr := ⟨_, rfl⟩
      subst hV1
      have Hp := Lib.hid hp
      have Hpn := Lib.hid hpn
      clear x0 x00 hp hpn hb
      go_loopw [9, 21] (fun _ i wr => ∃ q : Nat, q ≤ n' ∧ i = .int .i64 (q : Int) ∧ Hid (wr.heap[w.heap.size]? = some (.cells (rowF (asg (ofG 0 (L.take j) (fun _ => 0)) j (part.take q)) n) 3 (0, 0))) ∧ Hid (Below w.heap.size w wr)) (fun _ i _ => n' - (intOf i).toNat)
      case atStart =>
        refine ⟨0, by omega, rfl, ?_, HB⟩
        have : asg (ofG 0 (L.take j) (fun _ => 0)) j (part.take 0) = ofG 0 (L.take j) (fun _ => 0) := by funext v; simp [asg]
        rw [this]; exact HG
      case round =>
        obtain ⟨q, hq, rfl, HGq, HBq⟩ := hrel
        have q0 : (0 : Int) ≤ (q : Int) := by omega
        by_cases hlq : q < n'
        · have q1 : (q : Int) < (n' : Int) := by omega
          obtain ⟨b2, o2, x, rfl, -, hx2, y0, -⟩ := (Hp.out.below HBq.out).nat_at hlq
          have hxn : x < n := hL part (List.mem_of_getElem? hx.out) x (List.mem_of_getElem? hx2.out)
          have c0 : wr.cell? ⟨w.heap.size, x, none⟩ = some (.int .i64 (asg (ofG 0 (L.take j) (fun _ => 0)) j (part.take q) x : Int)) := by
            rw [cell_of_row _ _ _ _ _ _ HGq.out, rowF_get hxn]
          have f0 : wr.frozen? ⟨w.heap.size, x, none⟩ = false := frozen_of_row _ _ _ _ _ HGq.out
          have HG9 : Hid ((wr.setCell ⟨w.heap.size, x, none⟩ (.int .i64 (j : Int))).heap[w.heap.size]? = some (.cells (rowF (asg (ofG 0 (L.take j) (fun _ => 0)) j (part.take (q + 1))) n) 3 (0, 0))) := by
            show _ = _
            rw [set_cell8 HGq.out, rowF_set]
            congr 2
            have : updN (asg (ofG 0 (L.take j) (fun _ => 0)) j (part.take q)) x j = asg (ofG 0 (L.take j) (fun _ => 0)) j (part.take (q + 1)) := by
              funext v
              unfold updN asg
              rw [List.take_add_one, hx2.out]
              by_cases hv : v = x
              · subst hv; simp
              · rw [if_neg hv]
                by_cases hm : v ∈ part.take q
                · rw [if_pos hm, if_pos (List.mem_append_left _ hm)]
                · rw [if_neg hm, if_neg]
                  intro hh
                  rcases List.mem_append.1 hh with hh | hh
                  · exact hm hh
                  · simp at hh; exact hv hh
            rw [this]
          have HB9 : Hid (Below w.heap.size w (wr.setCell ⟨w.heap.size, x, none⟩ (.int .i64 (j : Int)))) := HBq.out.setCell (Nat.le_refl _) _
          have x1 : (0 : Int) ≤ (x : Int) := by omega
          have x2 : (x : Int) < (n : Int) := by omega
          generalize (asg (ofG 0 (L.take j) (fun _ => 0)) j (part.take q) x : Int) = old at c0
          go_wp2_with fail
          go_roundw
          case rel => exact ⟨q + 1, by omega, by go_num, HG9, HB9⟩
          case measure => simp [intOf]; omega
        · have q1 : ¬ (q : Int) < (n' : Int) := by omega
          have HG9 : Hid (wr.heap[w.heap.size]? = some (.cells (rowF (ofG 0 (L.take (j + 1)) (fun _ => 0)) n) 3 (0, 0))) := by
            have e : L.take (j + 1) = L.take j ++ [part] := by rw [List.take_add_one, hx.out]; rfl
            have hlj : (L.take j).length = j := by rw [List.length_take, Hlen.out]; omega
            show _ = _
            rw [e, ofG_snoc, hlj, Nat.zero_add, HGq.out, show part.take q = part from List.take_of_length_le (by rw [Hpn.out]; omega)]
          go_wp2_with fail
          go_roundw
          case rel => exact ⟨j + 1, by omega, by go_num, HG9, HBq⟩
          case measure => simp [intOf]; omega
    · have i1 : ¬ (j : Int) < (k : Int) := by omega
      have HE : Hid (P (.returned (.slice (some ⟨w.heap.size, 0, none⟩) n n)) wr) := by
        show P _ _
        rw [HP.out]
        refine ⟨rfl, ?_, HB.out⟩
        have := HG.out
        rw [List.take_of_length_le (by rw [Hlen.out]; omega)] at this
        exact this
      go_wp2_with fail
      first
        | exact HE.out
        | (go_ret; exact HE.out)
end Go.Proofs.Ytdbpbchhkdconaa
