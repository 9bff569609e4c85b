/- bind.Told and the document's Columns: the columns that are told. -/
import Derived.Test.YtggbfpjpkfhaeaaHas
namespace Go.Proofs.Ytggbfpjpkfhaeaa
open Go.RowKit

def isTold (vars : List ByteArray) (t : GTold) : Bool := t.x.toList.isEmpty || decide (t.x ∈ vars)
def colsTo (vars : List ByteArray) (l : List GTold) : Nat → List Int
  | 0 => []
  | k + 1 => if (l[k]?).any (isTold vars) then colsTo vars l k ++ [(k : Int)] else colsTo vars l k
theorem colsTo_len (vars : List ByteArray) (l : List GTold) (k : Nat) : (colsTo vars l k).length ≤ k := by
  induction k with
  | zero => simp [colsTo]
  | succ k ih =>
    simp only [colsTo]
    split
    · simp only [List.length_append, List.length_cons, List.length_nil]; omega
    · omega
theorem colsTo_le (vars : List ByteArray) (l : List GTold) (k : Nat) : ∀ x ∈ colsTo vars l k, 0 ≤ x ∧ x < k := by
  induction k with
  | zero => simp [colsTo]
  | succ k ih =>
    intro x hx
    simp only [colsTo] at hx
    split at hx
    · rcases List.mem_append.1 hx with h | h
      · have := ih x h; omega
      · simp at h; omega
    · have := ih x hx; omega
def intC (n : Int) : List Value := [.int .i64 n]
theorem int_info : (Try.prog.info? 3).map (fun i => (i.zero, i.size, i.bytes)) = some (some (.int .i64 0), 1, 8) := by kernel_rfl
def IntsPost (L : List Int) (w : World) (e : Ending) (w' : World) : Prop := ∃ A m c, e = .returned (.slice A m c) ∧ SliceIs Enc.int w' w'.heap.size A m c L ∧ Below w.heap.size w w'
theorem fits_small {x : Int} (h : 0 ≤ x ∧ x < 1000000) : fits x := by
  show (Lit.int .i64 x).wf = true
  simp [Lit.wf, IntKind.min, IntKind.max, IntKind.signed, IntKind.bits]; omega

set_option maxRecDepth 100000 in
set_option maxHeartbeats 1000000 in
theorem told_any (rel : ByteArray) (A : Option Addr) (n c : Nat) (l : List GTold) (A1 : Option Addr) (n1 c1 : Nat) (vars : List ByteArray) (w : World) (hn2 : n ≤ 200) (hl : SliceIs Enc.told w w.heap.size A n c l) (hv : SliceIs Enc.str w w.heap.size A1 n1 c1 vars) :
    Calls Try.prog 28 #[.agg #[.string rel, .slice A n c], .slice A1 n1 c1] w (IntsPost (colsTo vars l n) w) := by
  have Hv := Lib.hid hv
  have hn := hl.bound
  clear hv
  go_enter Try.func28, Try.ntmps28
  go_wp2
  go_loopw [5, 6, 7, 11] (fun v _ _ i wr => ∃ (k m : Nat) (L : List Int), k ≤ n ∧ i = .int .i64 k ∧ Hid (colsTo vars l k = L) ∧ L.length = m ∧ m ≤ k ∧ wr.ownsRow w.heap.size 3 1 v m (L.flatMap intC) ∧ Below w.heap.size w wr) (fun _ _ _ i _ => n - (intOf i).toNat)
  case atStart => exact ⟨0, 0, [], by omega, rfl, rfl, rfl, by omega, World.ownsRow_nil _ _ _ _, belowA (Below.refl _ _) _⟩
  case round =>
    obtain ⟨k, m, L, hk, rfl, hL, hLm, hmk, hown, hbr⟩ := hrel
    have HLm := Lib.hid hLm
    clear hLm
    by_cases hlt : k < n
    · obtain ⟨b, o, x, rfl, _, hx, x1, x2, x3, x4, _⟩ := (hl.below hbr).told_at hlt
      clear hl
      have hbx := belowA hbr (.cells #[.string x.x, .int .i64 x.v.k, .int .i64 x.v.n, .string x.v.s] 78)
      have hC := Lib.hid (contains_any A1 n1 c1 vars x.x (wr.alloc (.cells #[.string x.x, .int .i64 x.v.k, .int .i64 x.v.n, .string x.v.s] 78)) (Hv.out.keep hbx))
      have HE : Hid (colsTo vars l (k + 1) = if isTold vars x then L ++ [(k : Int)] else L) := by
        show colsTo vars l (k + 1) = _
        simp only [colsTo, hx.out, Option.any_some, hL.out]
      cases he : x.x.toList.isEmpty with
      | true =>
        have HT : Hid (colsTo vars l (k + 1) = L ++ [(k : Int)]) := by rw [HE.out]; simp [isTold, he, Hid]
        obtain ⟨v2, w3, hrun, hown2, hb3⟩ := run_push (P := Try.prog) (wr.alloc (.cells #[.string x.x, .int .i64 x.v.k, .int .i64 x.v.n, .string x.v.s] 78)) (wr.heap.size + 1) (by simp) (ty := 68) Try.underlying68 int_info rfl (by omega) (hown.alloc _)
          (intC k) rfl (by intro u hu; simp [intC] at hu; subst hu; rfl) (by simp [maxLen]; omega) (by omega) (by have := hbr.size; simp; omega)
        have HRun := Lib.hid hrun
        clear hrun
        go_wp2_with (at_builtin; refine wpList_append_run rfl _ _ _ rfl _ _ rfl rfl HRun ?_)
        go_roundw
        case rel => exact ⟨k + 1, m + 1, L ++ [(k : Int)], by omega, by go_num, HT, by have := HLm.out; simp; omega, by omega, by simpa [intC] using hown2, hbx.trans hb3⟩
        case measure => simp [intOf]; omega
      | false =>
        cases hm : decide (x.x ∈ vars) with
        | true =>
          have HT : Hid (colsTo vars l (k + 1) = L ++ [(k : Int)]) := by rw [HE.out]; simp only [isTold, he, hm, Bool.false_or, if_true]; exact trivial
          have hC := hC.out
          rw [hm] at hC
          have hC := Lib.hid hC
          clear hm
          go_wp2_with fail
          refine hC.out.mono ?_
          rintro e w1 ⟨rfl, hb1⟩
          obtain ⟨v2, w3, hrun, hown2, hb3⟩ := run_push (P := Try.prog) w1 w1.heap.size rfl (ty := 68) Try.underlying68 int_info rfl (by omega) (own_below (hown.alloc _) hb1)
            (intC k) rfl (by intro u hu; simp [intC] at hu; subst hu; rfl) (by simp [maxLen]; omega) (by omega) (by have := hbr.size; have := hb1.size; simp only [World.size_alloc] at *; omega)
          have HRun := Lib.hid hrun
          clear hrun
          go_wp2_with (at_builtin; refine wpList_append_run rfl _ _ _ rfl _ _ rfl rfl HRun ?_)
          go_roundw
          case rel => exact ⟨k + 1, m + 1, L ++ [(k : Int)], by omega, by go_num, HT, by have := HLm.out; simp; omega, by omega, by simpa [intC] using hown2, (below_next hbx hb1).trans hb3⟩
          case measure => simp [intOf]; omega
        | false =>
          have HT : Hid (colsTo vars l (k + 1) = L) := by rw [HE.out]; simp only [isTold, he, hm, Bool.false_or, Bool.false_eq_true, if_false]; exact trivial
          have hC := hC.out
          rw [hm] at hC
          have hC := Lib.hid hC
          clear hm
          go_wp2_with fail
          refine hC.out.mono ?_
          rintro e w1 ⟨rfl, hb1⟩
          go_wp2_with fail
          go_roundw
          case rel => exact ⟨k + 1, m, L, by omega, by go_num, HT, HLm.out, by omega, own_below (hown.alloc _) hb1, below_next hbx hb1⟩
          case measure => simp [intOf]; omega
    · obtain ⟨A2, c2, rfl⟩ := own_form hown
      have hkn : k = n := by omega
      subst hkn
      go_wp2
      go_ret
      refine ⟨A2, _, c2, rfl, ?_, hbr⟩
      rw [hL.out]
      exact SliceIs.of_flat (E := Enc.int) intC (fun _ => rfl) hown HLm.out (by simp [reachN]; omega) (fun x hx => ⟨rfl, fits_small (by have := colsTo_le vars l k x (by rw [hL.out]; exact hx); omega)⟩)

set_option maxRecDepth 100000 in
set_option maxHeartbeats 1000000 in
theorem columns_any (rel : ByteArray) (A : Option Addr) (n c : Nat) (l : List GTold) (A1 : Option Addr) (n1 c1 : Nat) (vars : List ByteArray) (w : World) (hn2 : n ≤ 200) (hl : SliceIs Enc.told w w.heap.size A n c l) (hv : SliceIs Enc.str w w.heap.size A1 n1 c1 vars) :
    Calls Try.prog 29 #[.agg #[.string rel, .slice A n c], .slice A1 n1 c1] w (IntsPost (colsTo vars l n) w) := by
  have Hv := Lib.hid hv
  have hn := hl.bound
  clear hv
  go_enter Try.func29, Try.ntmps29
  go_wp2
  go_loopw [5, 6] (fun v i wr => ∃ (k m : Nat) (L : List Int), k ≤ n ∧ i = .int .i64 k ∧ Hid (colsTo vars l k = L) ∧ L.length = m ∧ m ≤ k ∧ wr.ownsRow (w.heap.size + 1) 3 1 v m (L.flatMap intC) ∧ Below (w.heap.size + 1) (w.alloc (.cells #[.string rel, .slice A n c] 53)) wr) (fun _ i _ => n - (intOf i).toNat)
  case atStart => exact ⟨0, 0, [], by omega, rfl, rfl, rfl, by omega, World.ownsRow_nil _ _ _ _, Below.refl _ _⟩
  case round =>
    obtain ⟨k, m, L, hk, rfl, hL, hLm, hmk, hown, hbr0⟩ := hrel
    have HLm := Lib.hid hLm
    clear hLm
    have hbr : Below w.heap.size w wr := (belowA (Below.refl _ _) _).trans (hbr0.mono (by simp))
    have hc1 : wr.cell? ⟨w.heap.size, 1, none⟩ = some (.slice A n c) := (hbr0.cell (p := ⟨w.heap.size, 1, none⟩) (by simp)).trans (by simp)
    have hz0 : w.heap.size < wr.heap.size := by have := hbr0.size; simp at this; omega
    have Hbr0 := Lib.hid hbr0
    clear hbr0
    by_cases hlt : k < n
    · obtain ⟨b, o, x, rfl, _, hx, x1, x2, x3, x4, _⟩ := (hl.below hbr).told_at hlt
      clear hl
      have i0 : (0 : Int) ≤ (k : Int) := by omega
      have i1 : (k : Int) < (n : Int) := by omega
      have hC := Lib.hid (has_any A1 n1 c1 vars x.x wr (Hv.out.keep hbr))
      have HE : Hid (colsTo vars l (k + 1) = if isTold vars x then L ++ [(k : Int)] else L) := by
        show colsTo vars l (k + 1) = _
        simp only [colsTo, hx.out, Option.any_some, hL.out]
      cases he : ((x.x.size : Int) == 0) with
      | true =>
        have HT : Hid (colsTo vars l (k + 1) = L ++ [(k : Int)]) := by
          rw [HE.out]
          have : x.x.toList.isEmpty = true := by
            rw [ByteArray.toList_eq]; simp only [beq_iff_eq] at he
            have h0 : x.x.size = 0 := by omega
            rw [List.eq_nil_of_length_eq_zero (l := x.x.data.toList) h0]; rfl
          simp [isTold, this, Hid]
        obtain ⟨v2, w3, hrun, hown2, hb3⟩ := run_push (P := Try.prog) wr wr.heap.size rfl (ty := 68) Try.underlying68 int_info rfl (by omega) hown
          (intC k) rfl (by intro u hu; simp [intC] at hu; subst hu; rfl) (by simp [maxLen]; omega) (by omega) hz0
        have HRun := Lib.hid hrun
        clear hrun
        go_wp2_with (at_builtin; refine wpList_append_run rfl _ _ _ rfl _ _ rfl rfl HRun ?_)
        go_roundw
        case rel => exact ⟨k + 1, m + 1, L ++ [(k : Int)], by omega, by go_num, HT, by have := HLm.out; simp; omega, by omega, by simpa [intC] using hown2, Hbr0.out.trans hb3⟩
        case measure => simp [intOf]; omega
      | false =>
        have he2 : x.x.toList.isEmpty = false := by
          cases h : x.x.toList.isEmpty with
          | false => rfl
          | true =>
            have h0 := congrArg List.length (List.isEmpty_iff.1 h)
            rw [ByteArray.toList_eq] at h0
            have h0 : x.x.size = 0 := h0
            simp [h0] at he
        have He2 := Lib.hid he2
        clear he2
        cases hm : decide (x.x ∈ vars) with
        | true =>
          have HT : Hid (colsTo vars l (k + 1) = L ++ [(k : Int)]) := by rw [HE.out]; simp only [isTold, He2.out, hm, Bool.false_or, if_true]; exact trivial
          have hC := hC.out
          rw [hm] at hC
          have hC := Lib.hid hC
          clear hm
          go_wp2_with fail
          refine hC.out.mono ?_
          rintro e w1 ⟨rfl, hb1⟩
          obtain ⟨v2, w3, hrun, hown2, hb3⟩ := run_push (P := Try.prog) w1 w1.heap.size rfl (ty := 68) Try.underlying68 int_info rfl (by omega) (own_below hown hb1)
            (intC k) rfl (by intro u hu; simp [intC] at hu; subst hu; rfl) (by simp [maxLen]; omega) (by omega) (by have := hb1.size; omega)
          have HRun := Lib.hid hrun
          clear hrun
          go_wp2_with (at_builtin; refine wpList_append_run rfl _ _ _ rfl _ _ rfl rfl HRun ?_)
          go_roundw
          case rel => exact ⟨k + 1, m + 1, L ++ [(k : Int)], by omega, by go_num, HT, by have := HLm.out; simp; omega, by omega, by simpa [intC] using hown2, (Hbr0.out.trans (hb1.mono hz0)).trans hb3⟩
          case measure => simp [intOf]; omega
        | false =>
          have HT : Hid (colsTo vars l (k + 1) = L) := by rw [HE.out]; simp only [isTold, He2.out, hm, Bool.false_or, Bool.false_eq_true, if_false]; exact trivial
          have hC := hC.out
          rw [hm] at hC
          have hC := Lib.hid hC
          clear hm
          go_wp2_with fail
          refine hC.out.mono ?_
          rintro e w1 ⟨rfl, hb1⟩
          go_wp2_with fail
          go_roundw
          case rel => exact ⟨k + 1, m, L, by omega, by go_num, HT, HLm.out, by omega, own_below hown hb1, Hbr0.out.trans (hb1.mono hz0)⟩
          case measure => simp [intOf]; omega
    · obtain ⟨A2, c2, rfl⟩ := own_form hown
      have hkn : k = n := by omega
      subst hkn
      go_wp2
      go_ret
      refine ⟨A2, _, c2, rfl, ?_, hbr⟩
      rw [hL.out]
      exact SliceIs.of_flat (E := Enc.int) intC (fun _ => rfl) hown HLm.out (by simp [reachN]; omega) (fun x hx => ⟨rfl, fits_small (by have := colsTo_le vars l k x (by rw [hL.out]; exact hx); omega)⟩)
end Go.Proofs.Ytggbfpjpkfhaeaa
