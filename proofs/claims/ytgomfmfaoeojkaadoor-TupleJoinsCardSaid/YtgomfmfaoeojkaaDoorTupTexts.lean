/- TupleTexts: the walk. -/
import Derived.Test.YtgomfmfaoeojkaaDoorTupAlive
import Derived.Deep.DeepCutAuto
namespace Go.Proofs.YtgomfmfaoeojkaaDoor
open Go.RowKit

theorem one_tuple {w : World} {A : Option Addr} {n c : Nat} {a : List GV} (ha : SliceIs Enc.val w w.heap.size A n c a) :
    SliceIs (Enc.slice Enc.val) (w.alloc (.cells #[.slice A n c] 23)) (w.alloc (.cells #[.slice A n c] 23)).heap.size (some ⟨w.heap.size, 0, none⟩) 1 1 [a] := by
  have hbe : Below w.heap.size w (w.alloc (.cells #[.slice A n c] 23)) := belowA (Below.refl _ _) _
  refine ⟨rfl, by omega, by simp [maxLen], by simp [reachN], .inr ⟨w.heap.size, 0, rfl, by simp, ?_⟩⟩
  have hrow := Go.heap_alloc_new w (.cells #[.slice A n c] 23)
  intro i x hx
  match i, hx with
  | 0, hx =>
    simp at hx; subst hx
    refine ⟨[.slice A n c], ⟨A, n, c, rfl, (ha.below hbe).mono (by simp) (fun _ _ => rfl)⟩, ?_⟩
    intro j v hv
    match j, hv with
    | 0, hv => simp at hv; subst hv; exact (cell_of_row _ _ 0 _ _ _ hrow).trans rfl
  | i + 1, hx => simp at hx

set_option maxRecDepth 100000 in
set_option maxHeartbeats 4000000 in
theorem tupleTexts_walk (A : Option Addr) (n c : Nat) (t : List GV) (w : World) (ht : SliceIs Enc.val w w.heap.size A n c t) (h : TabW w) : Calls Tryd.prog 3 #[.slice A n c] w (RetBool true w) := by
  have hn := ht.bound
  have hlen := Lib.hid ht.1
  have HT := Lib.hid ht
  have HW := Lib.hid h
  have Hok := Lib.hid (vals_ok ht)
  clear ht h
  go_enter Tryd.func3, Tryd.ntmps3
  go_wp2_with fail
  refine (alive_any _ HW.out).mono ?_
  rintro e2 w1 ⟨rfl, hbw⟩
  have ht1 := HT.out.keep hbw
  have HL := Lib.hid (long02_any (some ⟨w1.heap.size, 0, none⟩) 1 1 [t] _ (one_tuple ht1))
  clear ht1
  go_wp2_with fail
  refine HL.out.mono ?_
  clear HL
  rintro e2 w2 ⟨r, rfl, hr, hq2⟩
  replace hbw := below_next (belowA hbw _) hq2
  clear hq2
  cases r with
  | true =>
    clear hr
    go_wp2_with fail
    go_ret
    exact ⟨rfl, hbw⟩
  | false =>
  have hn50 : n ≤ 50 := by have := hr rfl t (by simp); have := hlen.out; omega
  clear hr
  have HK := Lib.hid (kinds_any A n c t w2 (HT.out.keep hbw) (by omega))
  go_wp2_with fail
  refine HK.out.mono ?_
  clear HK
  rintro e2 w3 ⟨A', c', rfl, hks, hq2⟩
  have e1 := hlen.out
  rw [e1] at hks ⊢
  have hk2 : w3.heap.size = w3.heap.size := rfl
  replace hbw := below_next hbw hq2
  clear hq2 hk2 e1
  have HKS := Lib.hid hks
  clear hks
  have rn0 : ((n : Int) != (n : Int)) = false := by simp
  go_wp2_with fail
  go_loopw [4, 19] (fun _ i wr => ∃ k : Nat, k ≤ n ∧ i = .int .i64 k ∧ Below w3.heap.size w3 wr) (fun _ i _ => n - (intOf i).toNat)
  case atStart => exact ⟨0, by omega, rfl, Below.refl _ _⟩
  case round =>
    obtain ⟨k, hk, rfl, hbr⟩ := hrel
    have i0 : (0 : Int) ≤ (k : Int) := by omega
    by_cases hlt : k < n
    · have i1 : (k : Int) < (n : Int) := by omega
      obtain ⟨b, o, x, rfl, _, hx, x1, x2, x3, -⟩ := (HT.out.keep (below_next hbw hbr)).val_at hlt
      obtain ⟨b', o', y, rfl, _, hy, y1, -⟩ := (HKS.out.below hbr).int_at hlt
      obtain rfl : y = x.k := by
        have := hy.out
        rw [List.getElem?_map, hx.out] at this
        simpa using this.symm
      have rn : (x.k != x.k) = false := by simp
      clear hx hy x2 x3
      go_wp2_with fail
      go_quiet (fail)
      all_goals
        go_wp2_with fail
        go_roundw
        case rel => exact ⟨k + 1, by omega, by go_num, below_next hbr (below_drewN _ _ _)⟩
        case measure => simp [intOf]; omega
    · have i1 : ¬ (k : Int) < (n : Int) := by omega
      replace hbw := below_next hbw hbr
      clear hbr HKS rn0
      have h1 := Lib.hid (fun W (hb : Below w.heap.size w W) => tRight_any A n c t W (HT.out.keep hb))
      have h2 := Lib.hid (fun W (hb : Below w.heap.size w W) => refTRight_any A n c t W (HT.out.keep hb))
      have h3 := Lib.hid (fun W (hb : Below w.heap.size w W) => tText_any A n c t W (HT.out.keep hb) (HW.out.on hb))
      have h4 := Lib.hid (fun W (hb : Below w.heap.size w W) => refTText_any A n c t W (HT.out.keep hb))
      have h5 := Lib.hid (fun W (hb : Below w.heap.size w W) => tHash_any A n c t W (HT.out.keep hb) (HW.out.on hb))
      have h6 := Lib.hid (fun W (hb : Below w.heap.size w W) => refTHash_any A n c t W (HT.out.keep hb))
      have h7 := Lib.hid (fun W (hb : Below w.heap.size w W) => copy_any A n c t W (HT.out.keep hb) (by omega))
      generalize (⟨(textT t).toArray⟩ : ByteArray) = sx at h3 h4
      have rs : (sx.toList == sx.toList) = true := by simp
      go_wp2_with fail
      refine (h1.out _ hbw).mono ?_
      rintro e w4 ⟨rfl, hq⟩
      replace hbw := below_next hbw hq
      clear hq
      go_wp2_with fail
      refine (h2.out _ hbw).mono ?_
      rintro e w5 ⟨rfl, hq⟩
      replace hbw := below_next hbw hq
      clear hq
      go_wp2_with fail
      refine (h3.out _ hbw).mono ?_
      rintro e w6 ⟨rfl, hq⟩
      replace hbw := below_next hbw hq
      clear hq
      go_wp2_with fail
      refine (h4.out _ hbw).mono ?_
      rintro e w7 ⟨rfl, hq⟩
      replace hbw := below_next hbw hq
      clear hq
      go_wp2_with fail
      refine (h5.out _ hbw).mono ?_
      rintro e w8 ⟨rfl, hq⟩
      replace hbw := below_next hbw hq
      clear hq
      go_wp2_with fail
      refine (h6.out _ hbw).mono ?_
      rintro e w9 ⟨rfl, hq⟩
      replace hbw := below_next hbw hq
      clear hq
      go_wp2_with fail
      refine (h7.out _ hbw).mono ?_
      rintro e w10 ⟨A2, c2, rfl, ho, hq⟩
      replace hbw := below_next hbw hq
      have hcp := ho.is rfl (by simp [reachN]; have := hlen.out; omega) Hok.out
      have h8 := Lib.hid (tuple_eq A2 A t.length n c2 c t w10 hcp (HT.out.keep hbw))
      clear hq ho hcp
      go_wp2_with fail
      refine h8.out.mono ?_
      rintro e w11 ⟨rfl, hq⟩
      replace hbw := below_next hbw hq
      clear hq
      go_wp2_with fail
      go_ret
      exact ⟨by simp, hbw⟩
end Go.Proofs.YtgomfmfaoeojkaaDoor
