/- slices.BinarySearchFunc over tuples in order. -/
import Derived.Test.YtgomfmfaoeojkaaRelLaw
import Derived.Test.YtgomfmfaoeojkaaTupC
namespace Go.Proofs.Ytgomfmfaoeojkaa
open Go.RowKit

theorem half_le (i j : Nat) : ((i : Int) + (j : Int)) / 2 = (((i + j) / 2 : Nat) : Int) := by omega
def FindPost (L : List (List GV)) (t : List GV) (w : World) (e : Ending) (w' : World) : Prop := e = .returned (.tuple #[.int .i64 (posL L t), .bool (decide (t ∈ L))]) ∧ Below w.heap.size w w'

set_option maxRecDepth 100000 in
set_option maxHeartbeats 2000000 in
theorem bsearch_any (A B : Option Addr) (n c m d : Nat) (L : List (List GV)) (t : List GV) (w : World) (hn : n ≤ 1000000) (hL : SliceIs (Enc.slice Enc.val) w w.heap.size A n c L) (ht : SliceIs Enc.val w w.heap.size B m d t) (hs : Sorted L) :
    Calls Try.prog 61 #[.slice A n c, .slice B m d, .func (.func 62) #[] #[]] w (FindPost L t w) := by
  have hlen := Lib.hid hL.1
  have HL := Lib.hid hL
  have HT := Lib.hid ht
  have HS := Lib.hid hs
  clear hL ht hs
  go_enter Try.func61, Try.ntmps61
  go_wp2_with fail
  go_loopw [9, 10, 11] (fun x y _ wr => ∃ i j : Nat, i ≤ j ∧ j ≤ n ∧ x = .int .i64 i ∧ y = .int .i64 j ∧ Hid (∀ q u, q < i → L[q]? = some u → cmpL u t = -1) ∧ Hid (∀ q u, j ≤ q → L[q]? = some u → 0 ≤ cmpL u t) ∧ Below w.heap.size w wr) (fun x y _ _ => (intOf y).toNat - (intOf x).toNat)
  case atStart => exact ⟨0, n, by omega, by omega, rfl, rfl, fun q u hq => by omega, fun q u hq hu => by have := (List.getElem?_eq_some_iff.1 hu).1; have := hlen.out; omega, Below.refl _ _⟩
  case round =>
    obtain ⟨i, j, hij, hjn, rfl, rfl, hlo, hhi, hbr⟩ := hrel
    have i0 : (0 : Int) ≤ (i : Int) := by omega
    by_cases hlt : i < j
    · have i1 : (i : Int) < (j : Int) := by omega
      have hh : (i + j) / 2 < n := by omega
      have h0 : (0 : Int) ≤ ((i : Int) + (j : Int)) / 2 := by omega
      have h2 : ((i : Int) + (j : Int)) / 2 < (n : Int) := by omega
      obtain ⟨b, o, u, A', n', c', rfl, hb, hu, hc, hsl⟩ := (HL.out.below hbr).slice_at hh
      have hcall := Lib.hid (tcompare_any A' B n' c' m d u t wr (hsl.mono hbr.size (fun _ _ => rfl)) (HT.out.keep hbr))
      obtain ⟨cv, hcv⟩ : ∃ cv, cmpL u t = cv := ⟨_, rfl⟩
      rw [hcv] at hcall
      have hcs := cmpL_cases u t
      rw [hcv] at hcs
      by_cases hneg : cv < 0
      · have HLO : Hid (∀ q v, q < (i + j) / 2 + 1 → L[q]? = some v → cmpL v t = -1) := by
          intro q v hq hv
          by_cases hqh : q = (i + j) / 2
          · subst hqh
            rw [hu.out] at hv
            simp at hv; subst hv; omega
          · have hlt2 : q < (i + j) / 2 := by omega
            have h3 := List.pairwise_iff_getElem.1 HS.out q ((i + j) / 2) (by have := hlen.out; omega) (by have := hlen.out; omega) hlt2
            have e1 : L[q]'(by have := hlen.out; omega) = v := by rw [List.getElem?_eq_getElem (by have := hlen.out; omega)] at hv; simpa using hv
            have e2 : L[(i + j) / 2]'(by have := hlen.out; omega) = u := by have := hu.out; rw [List.getElem?_eq_getElem (by have := hlen.out; omega)] at this; simpa using this
            rw [e1, e2] at h3
            exact lt_trans h3 (by omega)
        clear hlo hu hsl hcv hcs
        go_wp2_with fail
        refine hcall.out.mono ?_
        rintro e w1 ⟨rfl, hq1⟩
        have hbx := below_next hbr hq1
        clear hq1
        go_wp2_with fail
        go_roundw
        case rel => exact ⟨(i + j) / 2 + 1, j, by omega, hjn, by go_num, rfl, HLO.out, hhi.out, hbx⟩
        case measure => simp [intOf]; omega
      · have HHI : Hid (∀ q v, (i + j) / 2 ≤ q → L[q]? = some v → 0 ≤ cmpL v t) := by
          intro q v hq hv
          by_cases hqh : q = (i + j) / 2
          · subst hqh
            rw [hu.out] at hv
            simp at hv; subst hv; omega
          · have hql : q < L.length := (List.getElem?_eq_some_iff.1 hv).1
            have h3 := List.pairwise_iff_getElem.1 HS.out ((i + j) / 2) q (by have := hlen.out; omega) hql (by omega)
            have e1 : L[q] = v := by rw [List.getElem?_eq_getElem hql] at hv; simpa using hv
            have e2 : L[(i + j) / 2]'(by have := hlen.out; omega) = u := by have := hu.out; rw [List.getElem?_eq_getElem (by have := hlen.out; omega)] at this; simpa using this
            rw [e1, e2] at h3
            have h4 := cmpL_cases v t
            rcases h4 with h4 | h4 | h4
            · have := lt_trans h3 h4; omega
            · omega
            · omega
        clear hhi hu hsl hcv hcs
        go_wp2_with fail
        refine hcall.out.mono ?_
        rintro e w1 ⟨rfl, hq1⟩
        have hbx := below_next hbr hq1
        clear hq1
        go_wp2_with fail
        go_roundw
        case rel => exact ⟨i, (i + j) / 2, by omega, by omega, rfl, by go_num, hlo.out, HHI.out, hbx⟩
        case measure => simp [intOf]; omega
    · have i1 : ¬ (i : Int) < (j : Int) := by omega
      obtain rfl : i = j := by omega
      have hp : i = posL L t := pos_unique HS.out (by have := hlen.out; omega) hlo.out hhi.out
      by_cases hin : i < n
      · have i2 : (i : Int) < (n : Int) := by omega
        obtain ⟨b, o, u, A', n', c', rfl, hb, hu, hc, hsl⟩ := (HL.out.below hbr).slice_at hin
        have hcall := Lib.hid (tcompare_any A' B n' c' m d u t wr (hsl.mono hbr.size (fun _ _ => rfl)) (HT.out.keep hbr))
        have hm := at_pos HS.out (t := t) (x := u) (by rw [← hp]; exact hu.out)
        generalize cmpL u t = cv at hcall hm
        have HM := Lib.hid hm
        have Hp := Lib.hid hp
        clear hm hp hlo hhi hu hsl
        go_wp2_with fail
        refine hcall.out.mono ?_
        rintro e w1 ⟨rfl, hq1⟩
        have hbx := below_next hbr hq1
        clear hq1
        go_wp2_with fail
        go_ret2
        refine ⟨?_, hbx⟩
        show Ending.returned (.tuple #[.int .i64 (i : Int), .bool (cv == 0)]) = _
        rw [HM.out, ← Hp.out]
      · have i2 : ¬ (i : Int) < (n : Int) := by omega
        have hnm : decide (t ∈ L) = false := by simpa using not_mem_end HS.out (by have := hlen.out; omega)
        have HM := Lib.hid hnm
        have Hp := Lib.hid hp
        clear hnm hp hlo hhi
        go_wp2_with fail
        go_ret2
        refine ⟨?_, hbr⟩
        show Ending.returned (.tuple #[.int .i64 (i : Int), .bool false]) = _
        rw [HM.out, ← Hp.out]
end Go.Proofs.Ytgomfmfaoeojkaa
