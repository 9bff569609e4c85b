/- The law BindBack: the walk. -/
import Derived.Test.YtggbfpjpkfhaeaaAlive14
import Derived.Test.YtggbfpjpkfhaeaaLaw5
import Derived.Test.YtggbfpjpkfhaeaaMake
import Derived.Test.YtggbfpjpkfhaeaaBackLaw
import Derived.Test.YtggbfpjpkfhaeaaMeet2
import Derived.Test.YtggbfpjpkfhaeaaTup
import Derived.Test.YtggbfpjpkfhaeaaIn
namespace Go.Proofs.Ytggbfpjpkfhaeaa
open Go.RowKit

theorem getT_zip_val {vars : List ByteArray} {r : List GV} {s : ByteArray} {v : GV} (h : getT (zipT vars r) s = some v) : v ∈ r := by
  simp only [getT, Option.map_eq_some_iff] at h
  obtain ⟨t, ht, rfl⟩ := h
  obtain ⟨i, hi, rfl⟩ := List.mem_iff_getElem.1 (List.mem_of_find?_eq_some ht)
  simp only [zipT, List.getElem_zipWith]
  exact List.getElem_mem _

set_option maxRecDepth 100000 in
set_option maxHeartbeats 4000000 in
theorem bindBack_walk (rel : ByteArray) (hrel : rel.size ≤ 140737488351232) (A : Option Addr) (n c : Nat) (a : List GTold) (A1 : Option Addr) (n1 c1 : Nat) (t : List GV) (A2 : Option Addr) (n2 c2 : Nat) (l : List GTold) (w : World)
    (ha : SliceIs Enc.told w w.heap.size A n c a) (ht : SliceIs Enc.val w w.heap.size A1 n1 c1 t) (hl : SliceIs Enc.told w w.heap.size A2 n2 c2 l) :
    Calls Try.prog 6 #[.agg #[.string rel, .slice A n c], .slice A1 n1 c1, .slice A2 n2 c2] w (RetBool true w) := by
  have hal := fun W => alive_any W
  have Ha := Lib.hid ha
  have Ht := Lib.hid ht
  have Hl := Lib.hid hl
  have Hok := Lib.hid (getT_ok hl)
  have Hvok := Lib.hid (vals_ok ht)
  have Hal := Lib.hid hal
  have Hrel := Lib.hid hrel
  have Halen := Lib.hid ha.1
  have Htlen := Lib.hid ht.1
  have hbn := ha.bound
  clear ha ht hl hal hrel
  go_enter Try.func6, Try.ntmps6
  go_wp2_with fail
  refine (Hal.out _).mono ?_
  rintro e w1 ⟨rfl, hb⟩
  have b1 := below_next (belowA (Below.refl _ w) _) hb
  have hc1 : w1.cell? ⟨w.heap.size, 0, none⟩ = some (.string rel) := (hb.cell (p := ⟨w.heap.size, 0, none⟩) (by simp)).trans (by simp)
  have hc2 : w1.cell? ⟨w.heap.size, 1, none⟩ = some (.slice A n c) := (hb.cell (p := ⟨w.heap.size, 1, none⟩) (by simp)).trans (by simp)
  clear hb
  go_wp2_with fail
  refine (long_any rel Hrel.out A n c a A1 n1 c1 t A2 n2 c2 l w1 (Ha.out.keep b1) (Ht.out.keep b1) (Hl.out.keep b1)).mono ?_
  rintro e w2 ⟨r, rfl, hr, b2⟩
  have d1 := below_cell b2 hc1
  have d2 := below_cell b2 hc2
  have b2 := below_next b1 b2
  clear hc1 hc2
  cases r with
  | true =>
    go_wp2_with fail
    go_ret
    exact ⟨rfl, b2⟩
  | false =>
  have Hn := Lib.hid (hr rfl)
  clear hr
  go_wp2_with fail
  refine (tright_any A1 n1 c1 t w2 (Ht.out.keep b2)).mono ?_
  rintro e w3 ⟨r, rfl, hr, b3⟩
  have d1 := below_cell b3 d1
  have d2 := below_cell b3 d2
  have b3 := below_next b2 b3
  clear b1 b2
  cases r with
  | false =>
    go_wp2_with fail
    go_ret
    exact ⟨rfl, b3⟩
  | true =>
  have Hr := Lib.hid (hr rfl)
  clear hr
  have HA := Lib.hid (fun W (h : Below w3.heap.size w3 W) => (Ha.out.keep b3).keep h)
  have HA3 := Lib.hid (Ha.out.keep b3)
  go_wp2_with fail
  go_loopw [8, 30] (fun _ i wr => ∃ k : Nat, k ≤ n ∧ i = .int .i64 k ∧ Hid (∀ x ∈ a.take k, x.x.toList = [] → rightB x.v = true) ∧ Below w3.heap.size w3 wr) (fun _ i _ => n - (intOf i).toNat)
  case atStart => exact ⟨0, by omega, rfl, fun y hy => by simp at hy, Below.refl _ _⟩
  case round =>
    obtain ⟨k, hk, rfl, hpre, hbr⟩ := hrel
    by_cases hlt : k < n
    · obtain ⟨b, o, x, rfl, _, hx, x1, x2, x3, x4, hxo, _⟩ := (HA3.out.below hbr).told_at hlt
      have i0 : (0 : Int) ≤ (k : Int) := by omega
      have i1 : (k : Int) < (n : Int) := by omega
      have hbx := belowA hbr (.cells #[.string x.x, .int .i64 x.v.k, .int .i64 x.v.n, .string x.v.s] 78)
      have step : Hid ((x.x.toList = [] → rightB x.v = true) → ∀ y ∈ a.take (k + 1), y.x.toList = [] → rightB y.v = true) := by
        intro h y hy
        rw [List.take_add_one, hx.out] at hy
        rcases List.mem_append.1 hy with hy | hy
        · exact hpre.out y hy
        · simp at hy; rw [hy]; exact h
      by_cases hz : x.x.size = 0
      · have hR := right_any x.v (wr.alloc (.cells #[.string x.x, .int .i64 x.v.k, .int .i64 x.v.n, .string x.v.s] 78))
        cases hm : rightB x.v with
        | true =>
          have HM := Lib.hid hm
          rw [hm] at hR
          clear hm
          go_wp2_with (go_at_call 35; refine hR.mono ?_; rintro e w5 ⟨rfl, hq1⟩)
          go_roundw
          case rel => exact ⟨k + 1, by omega, by go_num, step.out (fun _ => HM.out), below_next hbx hq1⟩
          case measure => simp [intOf]; omega
        | false =>
          rw [hm] at hR
          clear hm
          go_wp2_with (go_at_call 35; refine hR.mono ?_; rintro e w5 ⟨rfl, hq1⟩)
          go_ret
          exact ⟨rfl, below_next b3 (below_next hbx hq1)⟩
      · have hne : Hid (x.x.toList ≠ []) := by
          intro h
          apply hz
          have h2 : x.x.toList.length = x.x.size := by rw [ByteArray.toList_eq]; exact Array.length_toList
          rw [h] at h2
          exact h2.symm
        have hz' : ((x.x.size : Int) == 0) = false := by simpa using hz
        go_wp2_with fail
        go_roundw
        case rel => exact ⟨k + 1, by omega, by go_num, step.out (fun h => absurd h hne.out), hbx⟩
        case measure => simp [intOf]; omega
    · obtain rfl : n = k := by omega
      have Har : Hid (∀ x ∈ a, x.x.toList = [] → rightB x.v = true) := by
        have h := hpre.out
        rw [List.take_of_length_le (by have := Halen.out; omega)] at h
        exact h
      have i1 : ¬ (n : Int) < (n : Int) := by omega
      have d1 := below_cell hbr d1
      have d2 := below_cell hbr d2
      have b4 := below_next b3 hbr
      clear b3 HA HA3 hpre
      go_upto_region 11 with fail
      generalize wr = wb at d1 d2 b4 ⊢
      have HA := Lib.hid (fun W (h : Below wb.heap.size wb W) => (Ha.out.keep b4).keep h)
      have HT := Lib.hid (fun W (h : Below wb.heap.size wb W) => (Ht.out.keep b4).keep h)
      have HL := Lib.hid (fun W (h : Below wb.heap.size wb W) => (Hl.out.keep b4).keep h)
      have Hk := Lib.hid (fun W (h : Below wb.heap.size wb W) => And.intro (below_cell h d1) (below_cell h d2))
      have hb1 := Below.refl wb.heap.size wb
      cases hM : meetF a t (getT l) with
      | none =>
        have HM := Lib.hid hM
        clear hM
        have hlen0 := fun W => mapV_len (w := W) (v := .map none) (kvs := []) (.inl ⟨rfl, rfl⟩)
        go_region_held3 (fun w' => w'.cell? ⟨w.heap.size, 0, none⟩ = some (.string rel) ∧ w'.cell? ⟨w.heap.size, 1, none⟩ = some (.slice A n c))
          (first
            | (refine Hk.out _ ?_; (repeat (first | with_reducible exact Below.refl _ _ | with_reducible assumption | with_reducible refine Below.drew ?_ | with_reducible refine belowA ?_ _)))
            | go_keep)
          ((first
            | (go_at_call 12
               refine (env_any A2 n2 c2 l _ (HL.out _ (by repeat (first | with_reducible exact Below.refl _ _ | with_reducible assumption | with_reducible refine Below.drew ?_ | with_reducible refine belowA ?_ _)))).mono ?_
               rintro e wN ⟨g0, rfl, hg0, -, hq1⟩
               have hb1 : Below wb.heap.size wb wN := by
                 refine below_next ?_ hq1
                 repeat (first | with_reducible exact Below.refl _ _ | with_reducible assumption | with_reducible refine Below.drew ?_ | with_reducible refine belowA ?_ _)
               clear hq1)
            | (go_at_call 21
               refine (meet2_any rel A n c a A1 n1 c1 t (.map (some g0)) (getT l) _ (HA.out _ (by repeat (first | with_reducible exact Below.refl _ _ | with_reducible assumption | with_reducible refine Below.drew ?_ | with_reducible refine belowA ?_ _))) (HT.out _ (by repeat (first | with_reducible exact Below.refl _ _ | with_reducible assumption | with_reducible refine Below.drew ?_ | with_reducible refine belowA ?_ _))) ⟨envOf l, .inr ⟨g0, rfl, hg0⟩, envOf_keys l, envOf_get l⟩).mono ?_
               rw [HM.out]
               rintro e wM ⟨v, rfl, hv, hq1⟩
               have hb1 : Below wb.heap.size wb wM := by
                 refine below_next ?_ hq1
                 repeat (first | with_reducible exact Below.refl _ _ | with_reducible assumption | with_reducible refine Below.drew ?_ | with_reducible refine belowA ?_ _)
               simp only at hv
               subst hv)))
        all_goals
          go_wp2_with fail
          go_ret
          exact ⟨rfl, below_next b4 hb1⟩
      | some f =>
        obtain ⟨r, hrow, hback, hnd, hrl, hmake⟩ := back_law hM (by have := Htlen.out; have := Hr.out.1; omega) Hr.out.2 Har.out
        have Hfok : Hid (∀ s v, f s = some v → v.ok) := by
          intro s v hf
          have h := hM
          unfold meetF at h
          split at h
          · rcases meetL_from _ _ _ h s v hf with h2 | ⟨p, hp, e⟩
            · exact Hok.out s v h2
            · rw [← e]; exact Hvok.out _ (List.of_mem_zip hp).2
          · cases h
        have HM := Lib.hid hM
        have Hrow := Lib.hid hrow
        have Hback := Lib.hid hback
        have Hnd := Lib.hid hnd
        have Hrl := Lib.hid hrl
        have Hmake := Lib.hid hmake
        clear hM hrow hback hnd hrl hmake
        go_region_held3 (fun w' => w'.cell? ⟨w.heap.size, 0, none⟩ = some (.string rel) ∧ w'.cell? ⟨w.heap.size, 1, none⟩ = some (.slice A n c))
          (first
            | (refine Hk.out _ ?_; (repeat (first | with_reducible exact Below.refl _ _ | with_reducible assumption | with_reducible refine Below.drew ?_ | with_reducible refine belowA ?_ _)))
            | go_keep)
          ((first
            | (go_at_call 12
               refine (env_any A2 n2 c2 l _ (HL.out _ (by repeat (first | with_reducible exact Below.refl _ _ | with_reducible assumption | with_reducible refine Below.drew ?_ | with_reducible refine belowA ?_ _)))).mono ?_
               rintro e wN ⟨g0, rfl, hg0, -, hq1⟩
               have hb1 : Below wb.heap.size wb wN := by
                 refine below_next ?_ hq1
                 repeat (first | with_reducible exact Below.refl _ _ | with_reducible assumption | with_reducible refine Below.drew ?_ | with_reducible refine belowA ?_ _)
               clear hq1)
            | (go_at_call 21
               refine (meet2_any rel A n c a A1 n1 c1 t (.map (some g0)) (getT l) _ (HA.out _ (by repeat (first | with_reducible exact Below.refl _ _ | with_reducible assumption | with_reducible refine Below.drew ?_ | with_reducible refine belowA ?_ _))) (HT.out _ (by repeat (first | with_reducible exact Below.refl _ _ | with_reducible assumption | with_reducible refine Below.drew ?_ | with_reducible refine belowA ?_ _))) ⟨envOf l, .inr ⟨g0, rfl, hg0⟩, envOf_keys l, envOf_get l⟩).mono ?_
               rw [HM.out]
               rintro e wM ⟨v, rfl, hv, hq1⟩
               have hb1 : Below wb.heap.size wb wM := by
                 refine below_next ?_ hq1
                 repeat (first | with_reducible exact Below.refl _ _ | with_reducible assumption | with_reducible refine Below.drew ?_ | with_reducible refine belowA ?_ _)
               simp only at hv
               obtain ⟨g1, kv1, rfl, hm1, hkd1, hkg1⟩ := hv)))
        all_goals
          have d1 := below_cell hb1 d1
          have d2 := below_cell hb1 d2
          have b5 := below_next b4 hb1
          have Hm1 := Lib.hid hm1
          have Hkg := Lib.hid (funext hkg1)
          clear hkg1 hkd1 hq1
          go_wp2_with fail
          refine (in_any 0 rel A n c a wM Hn.out.1 (HA.out _ hb1)).mono ?_
          rintro e w6 ⟨A6, m6, c6, rfl, hs6, -, b6⟩
          have d1 := below_cell b6 d1
          have d2 := below_cell b6 d2
          have hb1 := below_next hb1 b6
          have Hm1 := Lib.hid (Hm1.out.below b6 Hm1.out.lt)
          have b6 := below_next b5 b6
          have hm6 := hs6.1
          have Hs6 := Lib.hid hs6
          clear hs6 hm1 b5
          go_wp2_with fail
          refine (row_any g1 kv1 A6 m6 c6 (putL [] a) w6 Hm1.out Hs6.out (fun s v h => Hfok.out s v (by rw [← Hkg.out]; exact h))).mono ?_
          rw [show kvGet kv1 = f from Hkg.out, Hrow.out]
          rintro e w7 ⟨A7, m7, c7, rfl, hs7, b7⟩
          have d1 := below_cell b7 d1
          have d2 := below_cell b7 d2
          have hb1 := below_next hb1 b7
          have Hs6 := Lib.hid (Hs6.out.keep b7)
          have b7 := below_next b6 b7
          have Hs7 := Lib.hid hs7
          clear hs7 b6
          simp only [errV_zero]
          go_wp2_with fail
          refine (back2_any A7 m7 c7 r A6 m6 c6 (putL [] a) w7 Hs7.out Hs6.out).mono ?_
          rw [Hback.out]
          rintro e w8 ⟨v8, rfl, hv8, b8⟩
          obtain ⟨g2, rfl, hm2⟩ := hv8 rfl
          have d1 := below_cell b8 d1
          have d2 := below_cell b8 d2
          have hb1 := below_next hb1 b8
          have b8 := below_next b7 b8
          have Hm2 := Lib.hid hm2
          have hel : (envOf (zipT (putL [] a) r)).length = m6 := by rw [envOf_zip_len Hnd.out Hrl.out]; exact hm6
          have hlen2 := mapV_len (w := w8) (v := .map (some g2)) (.inr ⟨g2, rfl, hm2⟩)
          rw [hel] at hlen2
          clear hv8 hm2 b7 hel
          simp only [errV_zero]
          go_wp2_with fail
          refine (make_any rel A n c a g2 (envOf (zipT (putL [] a) r)) w8 Hm2.out (HA.out _ hb1) (fun s v h => by
            rw [envOf_get] at h
            exact vals_ok Hs7.out v (getT_zip_val h))).mono ?_
          rw [Hmake.out _ (fun s => envOf_get _ s)]
          rintro e w9 ⟨A9, m9, c9, rfl, hs9, b9⟩
          have hb1 := below_next hb1 b9
          have b9 := below_next b8 b9
          simp only [errV_zero]
          clear d1 d2
          have Hs9 := Lib.hid hs9
          clear hs9
          go_wp2_with fail
          refine (tuple_eq A9 A1 m9 n1 c9 c1 t w9 Hs9.out (HT.out _ hb1)).mono ?_
          rintro e w10 ⟨rfl, b10⟩
          go_wp2_with fail
          go_ret
          exact ⟨by simp, below_next b9 b10⟩
end Go.Proofs.Ytggbfpjpkfhaeaa
