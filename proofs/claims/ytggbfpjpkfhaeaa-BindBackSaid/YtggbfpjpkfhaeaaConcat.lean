/- slices.Grow and slices.Concat at terms. -/
import Derived.Test.YtggbfpjpkfhaeaaPut
import Derived.Test.YtggbfpjpkfhaeaaLaw5
import Derived.Lib.AppendZerosOnto
import Derived.Lib.Walk
import Derived.Lib.SliceRun
namespace Go.Proofs.Ytggbfpjpkfhaeaa
open Go.RowKit

theorem term_info : (Try.prog.info? 78).map (fun i => (i.zero, i.size, i.bytes)) = some (some (.agg #[.string ⟨#[]⟩, .int .i64 0, .int .i64 0, .string ⟨#[]⟩]), 4, 48) := by kernel_rfl
def GrowPost (w : World) (e : Ending) (w' : World) : Prop := ∃ A c, e = .returned (.slice A 0 c) ∧ w'.ownsRow w.heap.size 78 4 (.slice A 0 c) 0 [] ∧ Below w.heap.size w w'

set_option maxRecDepth 100000 in
set_option maxHeartbeats 2000000 in
theorem grow_any (n : Nat) (w : World) (hn : n ≤ 1000) : Calls Try.prog 67 #[.slice none 0 0, .int .i64 n] w (GrowPost w) := by
  have h1 : ¬ ((n : Int) < 0) := by omega
  by_cases h0 : n = 0
  · subst h0
    go_enter Try.func67, Try.ntmps67
    go_wp2
    go_ret
    exact ⟨none, 0, rfl, World.ownsRow_nil _ _ _ _, Below.refl _ _⟩
  · have h4 : (0 : Int) < (n : Int) := by omega
    obtain ⟨i0, hi0, hz0, hs0, hb0⟩ := info_parts term_info
    have hold : (Builtin.firstCells i0.size 0 (.slice none 0 0)).run Try.prog w.drew = .ok (List.toArray []) w.drew := Go.run_firstCells_none w.drew i0.size 0 0 0
    have hgn : n ≤ grownCap w n 0 78 := grownCap_ge w _ _ _
    have hgm : grownCap w n 0 78 ≤ maxLen := grownCap_le_maxLen w n 0 78 (by simp [maxLen]; omega)
    obtain ⟨cap, cur, h5, h6, h7, hrz⟩ : ∃ cap cur, n ≤ cap ∧ cap ≤ maxLen ∧ cur.size = cap * 4 ∧ ∀ ty, (Builtin.append_ #[47, 3] ty #[.slice none 0 0, .int .i64 n]).run Try.prog w = .ok (.slice (some ⟨w.heap.size, 0, none⟩) n cap) (w.drew.alloc (.cells cur 78)) := by
      have h := fun ty => Lib.run_append_grow_zeros w 47 3 ty 78 i0 _ .i64 .i64 Try.underlying47 Try.underlying3 hi0 hz0 none 0 0 [] hold n (by omega) (by omega) (by omega) (by omega)
          (by rw [hb0]; omega) (by rw [Nat.zero_add]; exact growslice_fits (by omega) (by rw [hb0]; omega))
      simp only [Nat.zero_add] at h
      refine ⟨_, _, hgn, hgm, ?_, h⟩
      simp only [Array.size_append, size_zeroCells, List.size_toArray, List.length_nil, Value.cells]
      simp only [List.length_cons, List.length_nil]
      omega
    have HRz := Lib.hid hrz
    clear hrz hold hgn hgm
    have c1 : (0 : Int) ≤ (cap : Int) := by omega
    go_enter Try.func67, Try.ntmps67
    go_wp2_with (at_builtin; refine Lib.wpList_append_run _ rfl _ _ _ _ rfl _ _ rfl rfl _ _ (HRz.out _) ?_)
    go_ret
    exact ⟨some ⟨w.heap.size, 0, none⟩, cap, rfl, ⟨by simp, .inr ⟨w.heap.size, cap, cur, rfl, Nat.le_refl _, (Go.heap_alloc_new w _ : (w.alloc _).heap[w.heap.size]? = some _), Nat.zero_le _, h6, h7, by simp⟩⟩, (belowA (Below.refl _ _) _).drew⟩

def sumLen (ls : List (List GTold)) : Nat := (ls.map List.length).sum
theorem sumLen_take {ls : List (List GTold)} {k : Nat} {l : List GTold} (hx : ls[k]? = some l) : sumLen (ls.take (k + 1)) = sumLen (ls.take k) + l.length := by
  rw [List.take_add_one, hx]; simp [sumLen]
theorem sumLen_le (ls : List (List GTold)) (k : Nat) : sumLen (ls.take k) ≤ sumLen ls := by
  have : sumLen ls = sumLen (ls.take k) + sumLen (ls.drop k) := by
    have h := congrArg sumLen (List.take_append_drop k ls)
    simp only [sumLen, List.map_append, List.sum_append] at h ⊢
    exact h.symm
  omega
theorem flat_take {ls : List (List GTold)} {k : Nat} {l : List GTold} (hx : ls[k]? = some l) : (ls.take (k + 1)).flatten = (ls.take k).flatten ++ l := by
  rw [List.take_add_one, hx]; simp
theorem flat_sum (ls : List (List GTold)) : ls.flatten.length = sumLen ls := by simp [sumLen, List.length_flatten]

set_option maxRecDepth 100000 in
set_option maxHeartbeats 2000000 in
theorem concat_any (A : Option Addr) (n c : Nat) (ls : List (List GTold)) (w : World) (hl : SliceIs (Enc.slice Enc.told) w w.heap.size A n c ls) (hsum : sumLen ls ≤ 1000) :
    Calls Try.prog 62 #[.slice A n c] w (fun e w' => ∃ A m c, e = .returned (.slice A m c) ∧ SliceIs Enc.told w' w'.heap.size A m c ls.flatten ∧ Below w.heap.size w w') := by
  have hn := hl.bound
  have hlen := Lib.hid hl.1
  have HL := Lib.hid hl
  have Hok : Hid (∀ x ∈ ls.flatten, x.x.size ≤ reachN ∧ x.v.ok) := by
    intro x hx
    obtain ⟨l, hl1, hx⟩ := List.mem_flatten.1 hx
    obtain ⟨i, hi, rfl⟩ := List.mem_iff_getElem.1 hl1
    obtain ⟨b, o, l', A2, m, c2, _, _, hx', _, hs⟩ := hl.slice_at (i := i) (by rw [← hl.1]; exact hi)
    have e : ls[i] = l' := by have := hx'.out; rw [List.getElem?_eq_getElem hi] at this; simpa using this
    exact told_ok hs x (e ▸ hx)
  go_enter Try.func62, Try.ntmps62
  go_wp2_with fail
  go_loop [3, 5, 11] (fun t _ i => ∃ k : Nat, k ≤ n ∧ i = .int .i64 k ∧ t = .int .i64 (sumLen (ls.take k) : Nat)) (fun _ _ i => n - (intOf i).toNat)
  case atStart => exact ⟨0, by omega, rfl, by simp [sumLen]⟩
  case round =>
    obtain ⟨k, hk, rfl, rfl⟩ := hrel
    have hsk := sumLen_le ls k
    by_cases hlt : k < n
    · obtain ⟨b, o, l, A2, m, c2, rfl, hb, hx, hc, hs⟩ := hl.slice_at hlt
      have hml := hs.1
      have hsk1 := sumLen_le ls (k + 1)
      rw [sumLen_take hx.out] at hsk1
      have HT := Lib.hid (sumLen_take hx.out)
      have i1 : (k : Int) < (n : Int) := by omega
      clear hl
      go_wp2_with fail
      go_round
      case rel => exact ⟨k + 1, by omega, by go_num, by rw [HT.out, hml]; go_num⟩
      case measure => simp [intOf]; omega
    · have hkn : k = n := by omega
      subst hkn
      have Htot : Hid (sumLen (ls.take k) = sumLen ls) := by
        show _ = _
        rw [List.take_of_length_le (by have := hlen.out; omega)]
      go_wp2_with fail
      refine (grow_any _ w (by omega)).mono ?_
      rintro e w1 ⟨A1, c1, rfl, hown, hb1⟩
      clear hsk
      go_wp2_with fail
      go_loopw [6, 8, 27] (fun v _ i wr => ∃ (j m : Nat), j ≤ k ∧ i = .int .i64 j ∧ m = sumLen (ls.take j) ∧ wr.ownsRow w.heap.size 78 4 v m ((ls.take j).flatten.flatMap GTold.cells) ∧ Below w.heap.size w wr) (fun _ _ i _ => k - (intOf i).toNat)
      case atStart => exact ⟨0, 0, by omega, rfl, by simp [sumLen], by simpa using hown, hb1⟩
      case round =>
        obtain ⟨j, m, hj, rfl, hm, hown, hbr⟩ := hrel
        by_cases hlt2 : j < k
        · obtain ⟨b, o, l, A2, m2, c2, rfl, hb, hx, hc, hs⟩ := (HL.out.below hbr).slice_at hlt2
          have hsk1 := sumLen_le ls (j + 1)
          rw [sumLen_take hx.out] at hsk1
          have hm2 := hs.1
          have HT := Lib.hid (sumLen_take hx.out)
          have HF := Lib.hid (flat_take hx.out)
          have i1 : (j : Int) < (k : Int) := by omega
          obtain ⟨v2, w3, hrun, hown2, _, hb3⟩ := run_append_slice (P := Try.prog) (E := Enc.told) GTold.cells (fun _ => rfl) (fun h => h.1) (by intro x u hu; simp [GTold.cells] at hu; rcases hu with rfl | rfl | rfl | rfl <;> rfl) wr (ty := 47) Try.underlying47 term_info rfl (by decide) hown hs
            (by simp [maxLen]; omega) (by omega) (by have := hbr.size; omega)
          obtain ⟨A3, c3, rfl⟩ := own_form hown2
          have HRun := Lib.hid hrun
          have Hm := Lib.hid hm
          clear hrun hm hsk1
          go_wp2_with (at_builtin; refine wpList_append_run rfl _ _ _ rfl _ _ rfl rfl HRun ?_)
          go_roundw
          case rel => exact ⟨j + 1, m + m2, by omega, by go_num, by rw [HT.out, Hm.out, hm2], by rw [HF.out, List.flatMap_append]; exact hown2, hbr.trans hb3⟩
          case measure => simp [intOf]; omega
        · have hjk : j = k := by omega
          subst hjk
          have Hown := Lib.hid hown
          obtain ⟨A3, c3, rfl⟩ := own_form hown
          have Hm := Lib.hid hm
          clear hown hm
          go_wp2_with fail
          go_ret
          have et : ls.take j = ls := List.take_of_length_le (by have := hlen.out; omega)
          have hown := Hown.out
          have hm := Hm.out
          rw [et] at hown hm
          exact ⟨A3, m, c3, rfl, SliceIs.of_flat (E := Enc.told) GTold.cells (fun _ => rfl) hown (by rw [flat_sum, hm]) (by simp [reachN]; omega) (fun x hx => ⟨rfl, Hok.out x hx⟩), hbr⟩
end Go.Proofs.Ytggbfpjpkfhaeaa
