/- The document's Has over a list of tuples. -/
import Derived.Test.YtgomfmfaoeojkaaRelRef
namespace Go.Proofs.Ytgomfmfaoeojkaa
open Go.RowKit

set_option maxRecDepth 100000 in
set_option maxHeartbeats 1000000 in
theorem refHas_any (ar : Int) (A B : Option Addr) (n c m d : Nat) (L : List (List GV)) (t : List GV) (w : World) (hl : SliceIs (Enc.slice Enc.val) w w.heap.size A n c L) (ht : SliceIs Enc.val w w.heap.size B m d t) :
    Calls Try.prog 20 #[.agg #[.int .i64 ar, .slice A n c], .slice B m d] w (RetBool (decide (t ∈ L)) w) := by
  have hbd := hl.bound
  have HL := Lib.hid hl
  have HT := Lib.hid ht
  have Hll := Lib.hid hl.1
  have hyes : ∀ k : Nat, L[k]? = some t → decide (t ∈ L) = true := fun k h => by simpa using List.mem_of_getElem? h
  have hno : (∀ x ∈ L, x ≠ t) → decide (t ∈ L) = false := fun h => by simpa using fun hm => h t hm rfl
  have Hyes := Lib.hid hyes
  have Hno := Lib.hid hno
  generalize decide (t ∈ L) = r at Hyes Hno ⊢
  clear hl ht hyes hno
  go_enter Try.func20, Try.ntmps20
  go_wp2_with fail
  have HB0 := belowA (Below.refl w.heap.size w) (.cells #[.int .i64 ar, .slice A n c] 47)
  have HH : Hid ((w.alloc (.cells #[.int .i64 ar, .slice A n c] 47)).heap[w.heap.size]? = some (.cells #[.int .i64 ar, .slice A n c] 47 (0, 0))) := Go.heap_alloc_new w _
  have hz := HB0.size
  go_loopw [5] (fun i wr => ∃ k : Nat, k ≤ n ∧ i = .int .i64 k ∧ Hid (∀ x ∈ L.take k, x ≠ t) ∧ Hid (wr.heap[w.heap.size]? = some (.cells #[.int .i64 ar, .slice A n c] 47 (0, 0))) ∧ Below w.heap.size w wr) (fun i _ => n - (intOf i).toNat)
  case atStart => exact ⟨0, by omega, rfl, fun x hx => by simp at hx, HH, HB0⟩
  case round =>
    obtain ⟨k, hk, rfl, HN, HR, hbr⟩ := hrel
    have i0 : (0 : Int) ≤ (k : Int) := by omega
    have c1 : wr.cell? ⟨w.heap.size, 1, none⟩ = some (.slice A n c) := (cell_of_row _ _ 1 _ _ _ HR.out).trans rfl
    have hwl : w.heap.size < wr.heap.size := (Array.getElem?_eq_some_iff.1 HR.out).1
    by_cases hlt : k < n
    · have i1 : (k : Int) < (n : Int) := by omega
      obtain ⟨b, o, x, A1, n1, c1', rfl, hb, hx, hc, h1⟩ := (HL.out.below hbr).slice_at hlt
      have HS := Lib.hid (refTSame_any A1 B n1 c1' m d x t wr (h1.mono hbr.size (fun _ _ => rfl)) (HT.out.mono hbr.size hbr.block))
      clear h1
      go_wp2_with fail
      refine HS.out.mono ?_
      rintro e w2 ⟨rfl, hb2⟩
      have hb3 : Below w.heap.size w w2 := below_next hbr hb2
      by_cases hxt : x = t
      · have HX := Lib.hid hxt
        simp only [hxt, decide_true]
        have h1 := Hyes.out k (by rw [hx.out, HX.out])
        subst h1
        clear hxt HX hx
        go_wp2_with fail
        go_ret
        exact ⟨rfl, hb3⟩
      · have HN2 : Hid (∀ y ∈ L.take (k + 1), y ≠ t) := by
          intro y hy
          rw [List.take_add_one, hx.out] at hy
          rcases List.mem_append.1 hy with hy | hy
          · exact HN.out y hy
          · simp at hy; subst hy; exact hxt
        have HR2 : Hid (w2.heap[w.heap.size]? = some (.cells #[.int .i64 ar, .slice (some ⟨b, o, none⟩) n c] 47 (0, 0))) := (hb2.block _ hwl).trans HR.out
        simp only [hxt, decide_false]
        clear hxt HN HR hx
        go_wp2_with fail
        go_roundw
        case rel => exact ⟨k + 1, by omega, by go_num, HN2, HR2, hb3⟩
        case measure => simp [intOf]; omega
    · have i1 : ¬ (k : Int) < (n : Int) := by omega
      have h1 := Hno.out (by have := HN.out; rwa [List.take_of_length_le (by have : L.length = n := Hll.out; omega)] at this)
      subst h1
      go_wp2_with fail
      go_ret
      exact ⟨rfl, hbr⟩
end Go.Proofs.Ytgomfmfaoeojkaa
