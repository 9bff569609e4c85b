/- term.every over a list of terms. -/
import Derived.Test.YtiffmiabhapfnaaGreatDoorTRight
namespace Go.Proofs.YtiffmiabhapfnaaGreatDoor
open Go.RowKit

set_option maxRecDepth 100000 in
set_option maxHeartbeats 1000000 in
theorem ev1T_any (x : GTold) (g : Nat) (w : World) (hg : w.cell? ⟨g, 0, none⟩ = some (.func (.func 59) #[] #[])) (HC : Hid (∀ W, Below w.heap.size w W → Calls Tryz.prog 59 #[.agg #[.string x.x, .int .i64 x.v.k, .int .i64 x.v.n, .string x.v.s]] W (RetBool (rightT x) W))) :
    Calls Tryz.prog 85 #[.agg #[.string x.x, .int .i64 x.v.k, .int .i64 x.v.n, .string x.v.s], .pointer (some ⟨g, 0, none⟩)] w (RetBool (!rightT x) w) := by
  have hrb : (w.alloc (.cells #[.string x.x, .int .i64 x.v.k, .int .i64 x.v.n, .string x.v.s] 26)).heap[w.heap.size]? = some (.cells #[.string x.x, .int .i64 x.v.k, .int .i64 x.v.n, .string x.v.s] 26 (0, 0)) := heapNew rfl
  obtain ⟨b0, b1, b2, b3⟩ := facts4 hrb
  have cg : (w.alloc (.cells #[.string x.x, .int .i64 x.v.k, .int .i64 x.v.n, .string x.v.s] 26)).cell? ⟨g, 0, none⟩ = some (.func (.func 59) #[] #[]) := cellA hg
  clear hrb hg
  generalize rightT x = B at *
  go_enter Tryz.func85, Tryz.ntmps85
  go_wp2_with fail
  refine (HC.out _ (by first | exact Below.refl _ _ | exact belowA (Below.refl _ _) _)).mono ?_
  rintro e w1 ⟨rfl, hb⟩
  have Hb := Lib.hid hb
  clear hb
  go_wp2_with fail
  go_ret
  exact ⟨rfl, below_next (belowA (Below.refl _ _) _) Hb.out⟩

set_option maxRecDepth 100000 in
set_option maxHeartbeats 1000000 in
theorem evIT_any (A : Option Addr) (n c : Nat) (l : List GTold) (g : Nat) (w : World) (hl : SliceIs Enc.told w w.heap.size A n c l) (hg : w.cell? ⟨g, 0, none⟩ = some (.func (.func 59) #[] #[]))
    (HC : Hid (∀ (x : GTold) W, (x.x.size ≤ reachN ∧ x.v.ok) → Below w.heap.size w W → Calls Tryz.prog 59 #[.agg #[.string x.x, .int .i64 x.v.k, .int .i64 x.v.n, .string x.v.s]] W (RetBool (rightT x) W))) :
    Calls Tryz.prog 105 #[.slice A n c, .func (.func 85) #[] #[.pointer (some ⟨g, 0, none⟩)]] w (fun e w' => ∃ k : Int, e = .returned (.int .i64 k) ∧ decide (0 ≤ k) = !(l.all rightT) ∧ Below w.heap.size w w') := by
  have hn := hl.bound
  have HL := Lib.hid hl
  have hlen := Lib.hid hl.1
  have Hg := Lib.hid hg
  clear hl hg
  go_enter Tryz.func105, Tryz.ntmps105
  go_wp2_with fail
  go_loopw [5, 8] (fun _ i wr => ∃ k : Nat, k ≤ n ∧ i = .int .i64 k ∧ Hid ((l.take k).all rightT = true) ∧ Below w.heap.size w wr) (fun _ i _ => n - (intOf i).toNat)
  case atStart => exact ⟨0, by omega, rfl, by simp [Hid], Below.refl _ _⟩
  case round =>
    obtain ⟨k, hk, rfl, hpre, hbr⟩ := hrel
    by_cases hlt : k < n
    · have HLr := (HL.out.below hbr)
      obtain ⟨b, o, x, rfl, hbb, hx, z0, z1, z2, z3, f0, f1⟩ := HLr.told_at hlt
      have hokx : x.x.size ≤ reachN ∧ x.v.ok := ⟨f0, f1⟩
      have C := Lib.hid (ev1T_any x g wr (below_cell hbr Hg.out) (fun W hW => HC.out x W (hokx) (below_next hbr hW)))
      have i0 : (0 : Int) ≤ (k : Int) := by omega
      have i1 : (k : Int) < (n : Int) := by omega
      have HT : Hid ((l.take (k + 1)).all rightT = rightT x) := by
        show _ = _
        obtain ⟨g1, g2⟩ := List.getElem?_eq_some_iff.1 hx.out
        rw [List.take_succ_eq_append_getElem g1, g2, List.all_append, hpre.out]; simp
      have HF : Hid (rightT x = false → l.all rightT = false) := fun h => by
        rw [List.all_eq_false]
        exact ⟨x, List.mem_of_getElem? hx.out, by simp [h]⟩
      clear HLr hokx
      generalize rightT x = B at *
      cases B with
      | true =>
        clear HF
        go_wp2_with fail
        refine C.out.mono ?_
        rintro e w1 ⟨rfl, hb⟩
        have Hb := Lib.hid hb
        clear hb
        go_wp2_with fail
        go_roundw
        case rel => exact ⟨k + 1, by omega, by go_num, HT, below_next hbr Hb.out⟩
        case measure => simp [intOf]; omega
      | false =>
        have HF' : Hid (l.all rightT = false) := HF.out rfl
        clear HF
        go_wp2_with fail
        refine C.out.mono ?_
        rintro e w1 ⟨rfl, hb⟩
        have Hb := Lib.hid hb
        clear hb
        go_wp2_with fail
        go_ret
        exact ⟨_, rfl, by rw [HF'.out]; simp, below_next hbr Hb.out⟩
    · have i1 : ¬ (k : Int) < (n : Int) := by omega
      have HA : Hid (l.all rightT = true) := by
        show _ = _
        have h := hpre.out
        rw [List.take_of_length_le (by have := hlen.out; omega)] at h
        exact h
      go_wp2_with fail
      go_ret
      exact ⟨_, rfl, by rw [HA.out]; rfl, hbr⟩

set_option maxRecDepth 100000 in
set_option maxHeartbeats 1000000 in
theorem everyT_any (A : Option Addr) (n c : Nat) (l : List GTold) (w : World) (hl : SliceIs Enc.told w w.heap.size A n c l)
    (HC : Hid (∀ (x : GTold) W, (x.x.size ≤ reachN ∧ x.v.ok) → Below w.heap.size w W → Calls Tryz.prog 59 #[.agg #[.string x.x, .int .i64 x.v.k, .int .i64 x.v.n, .string x.v.s]] W (RetBool (rightT x) W))) :
    Calls Tryz.prog 58 #[.slice A n c, .func (.func 59) #[] #[]] w (RetBool (l.all rightT) w) := by
  have hba : Below w.heap.size w (w.alloc (.cells #[.func (.func 59) #[] #[]] 76)) := belowA (Below.refl _ _) _
  have C := Lib.hid (evIT_any A n c l w.heap.size (w.alloc (.cells #[.func (.func 59) #[] #[]] 76)) (hl.keep hba) ((cell_of_row _ _ 0 _ _ _ (heapNew rfl)).trans rfl) (fun x W h hW => HC.out x W h (below_next hba hW)))
  generalize l.all rightT = B at *
  clear hl HC
  have CC : Hid (Calls Tryz.prog 84 #[.slice A n c, .func (.func 85) #[] #[.pointer (some ⟨w.heap.size, 0, none⟩)]] (w.alloc (.cells #[.func (.func 59) #[] #[]] 76)) (RetBool (!B) (w.alloc (.cells #[.func (.func 59) #[] #[]] 76)))) := by
    show Calls _ _ _ _ _
    generalize w.alloc (.cells #[.func (.func 59) #[] #[]] 76) = wb at *
    go_enter Tryz.func84, Tryz.ntmps84
    go_wp2_with fail
    refine C.out.mono ?_
    rintro e w1 ⟨k, rfl, hk, hb⟩
    have Hb := Lib.hid hb
    have Hk := Lib.hid hk
    clear hb hk
    go_wp2_with fail
    go_ret
    exact ⟨by rw [← Hk.out]; rfl, Hb.out⟩
  clear C
  go_enter Tryz.func58, Tryz.ntmps58
  go_wp2_with fail
  refine CC.out.mono ?_
  rintro e w1 ⟨rfl, hb⟩
  have Hb := Lib.hid hb
  clear hb CC
  go_wp2_with fail
  go_ret
  exact ⟨by cases B <;> rfl, below_next hba Hb.out⟩
end Go.Proofs.YtiffmiabhapfnaaGreatDoor
