/- the document's Free: the variables of an atom that are not told. -/
import Derived.Test.YtggbfpjpkfhaeaaPut
namespace Go.Proofs.Ytggbfpjpkfhaeaa
open Go.RowKit

def free1 (vars : List ByteArray) (acc : List ByteArray) (t : GTold) : List ByteArray := if t.x.toList.isEmpty || decide (t.x ∈ vars) || decide (t.x ∈ acc) then acc else acc ++ [t.x]
def freeL (vars : List ByteArray) (acc : List ByteArray) (l : List GTold) : List ByteArray := l.foldl (free1 vars) acc
theorem free_put (vars : List ByteArray) (l : List GTold) : ∀ acc, freeL vars (acc.filter fun s => !decide (s ∈ vars)) l = (putL acc l).filter fun s => !decide (s ∈ vars) := by
  induction l with
  | nil => intro acc; rfl
  | cons t l ih =>
    intro acc
    show freeL vars (free1 vars _ t) l = _
    have : free1 vars (acc.filter fun s => !decide (s ∈ vars)) t = (put1 acc t).filter fun s => !decide (s ∈ vars) := by
      unfold free1 put1
      by_cases he : t.x.toList.isEmpty = true
      · simp [he]
      · by_cases hv : t.x ∈ vars
        · by_cases ha : t.x ∈ acc <;> simp [he, hv, ha, List.filter_append]
        · by_cases ha : t.x ∈ acc <;> simp [he, hv, ha, List.filter_append]
    rw [this, ih]
    rfl
theorem freeL_take {vars : List ByteArray} {l : List GTold} {k : Nat} {t : GTold} {acc : List ByteArray} (hx : l[k]? = some t) : freeL vars acc (l.take (k + 1)) = free1 vars (freeL vars acc (l.take k)) t := by
  rw [List.take_add_one, hx]; simp [freeL, List.foldl_append]
theorem freeL_mem {vars : List ByteArray} {l : List GTold} {s : ByteArray} (h : s ∈ freeL vars [] l) : ∃ t ∈ l, t.x = s := by
  have := free_put vars l []
  simp only [List.filter_nil] at this
  rw [this, List.mem_filter] at h
  exact putL_mem h.1
theorem freeB {vars L : List ByteArray} {t : GTold} (b1 b2 b3 : Bool) (h1 : t.x.toList.isEmpty = b1) (h2 : decide (t.x ∈ vars) = b2) (h3 : decide (t.x ∈ L) = b3) : free1 vars L t = if b1 || b2 || b3 then L else L ++ [t.x] := by
  unfold free1; rw [h1, h2, h3]
theorem size_empty {s : ByteArray} : s.toList.isEmpty = decide (s.size = 0) := by
  rw [ByteArray.toList_eq, Bool.eq_iff_iff]
  simp only [List.isEmpty_iff, decide_eq_true_eq]
  exact ⟨fun h => congrArg List.length h, fun h => List.eq_nil_of_length_eq_zero h⟩

set_option maxRecDepth 100000 in
set_option maxHeartbeats 1000000 in
theorem refFree_any (rel : ByteArray) (A : Option Addr) (n c : Nat) (l : List GTold) (A1 : Option Addr) (n1 c1 : Nat) (vars : List ByteArray) (w : World) (hn2 : n ≤ 200) (hl : SliceIs Enc.told w w.heap.size A n c l) (hv : SliceIs Enc.str w w.heap.size A1 n1 c1 vars) :
    Calls Try.prog 32 #[.agg #[.string rel, .slice A n c], .slice A1 n1 c1] w (fun e w' => ∃ A m c, e = .returned (.slice A m c) ∧ SliceIs Enc.str w' w'.heap.size A m c (freeL vars [] l) ∧ Below w.heap.size w w') := by
  have Hv := Lib.hid hv
  have hn := hl.bound
  have hlen := Lib.hid hl.1
  have Htold := Lib.hid (fun t h => told_ok hl t h)
  clear hv
  go_enter Try.func32, Try.ntmps32
  go_wp2
  go_loopw [5, 6, 7] (fun v i _ wr => ∃ (k m c' : Nat) (A' : Option Addr) (L : List ByteArray), k ≤ n ∧ i = .int .i64 k ∧ v = .slice A' m c' ∧ Hid (freeL vars [] (l.take k) = L) ∧ m ≤ k ∧ SliceIs Enc.str wr wr.heap.size A' m c' L ∧ wr.ownsRow (w.heap.size + 1) 9 1 (.slice A' m c') m (L.flatMap strC) ∧ Below (w.heap.size + 1) (w.alloc (.cells #[.string rel, .slice A n c] 53)) wr) (fun _ i _ _ => n - (intOf i).toNat)
  case atStart => exact ⟨0, 0, 0, none, [], by omega, rfl, rfl, rfl, by omega, SliceIs.nil, World.ownsRow_nil _ _ _ _, Below.refl _ _⟩
  case round =>
    obtain ⟨k, m, c', A', L, hk, rfl, rfl, hL, hmk, hs, hown, hbr0⟩ := hrel
    have hbr : Below w.heap.size w wr := (belowA (Below.refl _ _) _).trans (hbr0.mono (by simp))
    have hc1 : wr.cell? ⟨w.heap.size, 1, none⟩ = some (.slice A n c) := (hbr0.cell (p := ⟨w.heap.size, 1, none⟩) (by simp)).trans (by simp)
    have hz0 : w.heap.size < wr.heap.size := by have := hbr0.size; simp at this; omega
    have Hbr0 := Lib.hid hbr0
    have Hs := Lib.hid hs
    clear hbr0
    by_cases hlt : k < n
    · obtain ⟨b, o, x, rfl, _, hx, x1, x2, x3, x4, hxs, _⟩ := (hl.below hbr).told_at hlt
      clear hl hs
      have i0 : (0 : Int) ≤ (k : Int) := by omega
      have i1 : (k : Int) < (n : Int) := by omega
      have hC := Lib.hid (has_any A1 n1 c1 vars x.x wr (Hv.out.keep hbr))
      have HE : Hid (freeL vars [] (l.take (k + 1)) = free1 vars L x) := by
        show freeL vars [] (l.take (k + 1)) = free1 vars L x
        rw [freeL_take hx.out, hL.out]
      have Hxs := Lib.hid hxs
      cases he : decide (0 < (x.x.size : Int)) with
      | false =>
        have hne : ¬ (0 : Int) < (x.x.size : Int) := by simpa using he
        have HT : Hid (freeL vars [] (l.take (k + 1)) = L) := by
          rw [HE.out]
          have : x.x.toList.isEmpty = true := by rw [size_empty]; exact decide_eq_true (by omega)
          simp [free1, this, Hid]
        clear he
        go_wp2_with fail
        go_roundw
        case rel => exact ⟨k + 1, m, c', A', L, by omega, by go_num, rfl, HT, by omega, Hs.out, hown, Hbr0.out⟩
        case measure => simp [intOf]; omega
      | true =>
        have hpo : (0 : Int) < (x.x.size : Int) := by simpa using he
        have He : Hid (x.x.toList.isEmpty = false) := by show _ = _; rw [size_empty]; exact decide_eq_false (by omega)
        clear he
        cases hm : decide (x.x ∈ vars) with
        | true =>
          have HT : Hid (freeL vars [] (l.take (k + 1)) = L) := by rw [HE.out]; simp only [free1, He.out, hm, Bool.false_or, Bool.true_or, if_true]; exact trivial
          have hC := hC.out
          rw [hm] at hC
          have hC := Lib.hid hC
          clear hm
          go_wp2_with fail
          refine hC.out.mono ?_
          rintro e w1 ⟨rfl, hb1⟩
          go_wp2_with fail
          go_roundw
          case rel => exact ⟨k + 1, m, c', A', L, by omega, by go_num, rfl, HT, by omega, Hs.out.keep hb1, own_below hown hb1, Hbr0.out.trans (hb1.mono hz0)⟩
          case measure => simp [intOf]; omega
        | false =>
          have hC := hC.out
          rw [hm] at hC
          have hC := Lib.hid hC
          have Hm := Lib.hid hm
          clear hm
          have hH := Lib.hid (fun W (h : Below wr.heap.size wr W) => has_any A' m c' L x.x W (Hs.out.keep h))
          cases hq : decide (x.x ∈ L) with
          | true =>
            have HT : Hid (freeL vars [] (l.take (k + 1)) = L) := by rw [HE.out]; simp only [free1, He.out, Hm.out, hq, Bool.false_or, if_true]; exact trivial
            have hH := hH.out
            rw [hq] at hH
            have hH := Lib.hid hH
            clear hq
            go_wp2_with fail
            refine hC.out.mono ?_
            rintro e w1 ⟨rfl, hb1⟩
            go_wp2_with fail
            refine (hH.out w1 hb1).mono ?_
            rintro e w2 ⟨rfl, hb2⟩
            have hb2 := below_next hb1 hb2
            go_wp2_with fail
            go_roundw
            case rel => exact ⟨k + 1, m, c', A', L, by omega, by go_num, rfl, HT, by omega, Hs.out.keep hb2, own_below hown hb2, Hbr0.out.trans (hb2.mono hz0)⟩
            case measure => simp [intOf]; omega
          | false =>
            have HT : Hid (freeL vars [] (l.take (k + 1)) = L ++ [x.x]) := by rw [HE.out]; simp only [free1, He.out, Hm.out, hq, Bool.false_or, Bool.false_eq_true, if_false]; exact trivial
            have HLs : Hid (∀ s ∈ L, s.size ≤ reachN) := fun s h => by
              rw [← hL.out] at h
              obtain ⟨t, ht, e⟩ := freeL_mem h
              exact e ▸ (Htold.out t (List.mem_of_mem_take ht)).1
            have Hlm := Lib.hid Hs.out.1
            have hH := hH.out
            rw [hq] at hH
            have hH := Lib.hid hH
            clear hq
            go_wp2_with fail
            refine hC.out.mono ?_
            rintro e w1 ⟨rfl, hb1⟩
            go_wp2_with fail
            refine (hH.out w1 hb1).mono ?_
            rintro e w2 ⟨rfl, hb2⟩
            have hb2 := below_next hb1 hb2
            obtain ⟨v2, w3, hrun, hown2, hb3⟩ := run_push (P := Try.prog) w2 w2.heap.size rfl (ty := 22) Try.underlying22 str_info rfl (by omega) (own_below hown hb2)
              (strC x.x) rfl (by intro u hu; simp [strC] at hu; subst hu; rfl) (by simp [maxLen]; omega) (by omega) (by have := hb2.size; omega)
            obtain ⟨A2, c2, rfl⟩ := own_form hown2
            have HRun := Lib.hid hrun
            clear hrun
            go_wp2_with (at_builtin; refine wpList_append_run rfl _ _ _ rfl _ _ rfl rfl HRun ?_)
            go_roundw
            case rel => exact ⟨k + 1, m + 1, c2, A2, L ++ [x.x], by omega, by go_num, rfl, HT, by omega,
              SliceIs.of_flat (E := Enc.str) strC (fun _ => rfl) (by simpa [strC, Enc.str] using hown2) (by have := Hlm.out; simp; omega) (by simp [reachN]; omega) (fun y hy => ⟨rfl, by
                rcases List.mem_append.1 hy with h | h
                · exact HLs.out y h
                · simp at h; rw [h]; exact Hxs.out⟩), by simpa [strC] using hown2, (Hbr0.out.trans (hb2.mono hz0)).trans hb3⟩
            case measure => simp [intOf]; omega
    · have hkn : k = n := by omega
      subst hkn
      go_wp2
      go_ret
      have e : freeL vars [] l = L := by rw [← hL.out, List.take_of_length_le (by have := hlen.out; omega)]
      exact ⟨A', m, c', rfl, by rw [e]; exact Hs.out, hbr⟩
end Go.Proofs.Ytggbfpjpkfhaeaa
