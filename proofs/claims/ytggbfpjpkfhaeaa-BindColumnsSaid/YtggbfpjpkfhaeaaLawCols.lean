/- The law BindColumns: the walk. -/
import Derived.Test.YtggbfpjpkfhaeaaAlive14
import Derived.Test.YtggbfpjpkfhaeaaLong
import Derived.Test.YtggbfpjpkfhaeaaLaw5
import Derived.Test.YtggbfpjpkfhaeaaCols
import Derived.Test.YtggbfpjpkfhaeaaOnly
import Derived.Test.YtggbfpjpkfhaeaaDel
import Derived.Test.YtggbfpjpkfhaeaaSame
import Derived.Test.YtggbfpjpkfhaeaaTerm
namespace Go.Proofs.Ytggbfpjpkfhaeaa
open Go.RowKit

def wantL (l : List GTold) (vars : List ByteArray) : List GTold := vars.filterMap fun v => (getT l v).map fun x => ⟨v, x⟩
theorem wantL_none {l : List GTold} {vars : List ByteArray} {k : Nat} {x : ByteArray} (hx : vars[k]? = some x) (h : getT l x = none) : wantL l (vars.take (k + 1)) = wantL l (vars.take k) := by
  rw [List.take_add_one, hx]; simp [wantL, h]
theorem wantL_some {l : List GTold} {vars : List ByteArray} {k : Nat} {x : ByteArray} {v : GV} (hx : vars[k]? = some x) (h : getT l x = some v) : wantL l (vars.take (k + 1)) = wantL l (vars.take k) ++ [⟨x, v⟩] := by
  rw [List.take_add_one, hx]; simp [wantL, h]
theorem wantL_get (l : List GTold) (vars : List ByteArray) (s : ByteArray) : getT (wantL l vars) s = onlyF (getT l) vars s := by
  induction vars with
  | nil => simp [wantL, getT, onlyF]
  | cons v vs ih =>
    unfold onlyF at ih ⊢
    cases h : getT l v with
    | none =>
      have e : wantL l (v :: vs) = wantL l vs := by simp [wantL, h]
      rw [e, ih]
      by_cases hs : s = v
      · subst hs; simp [h]
      · simp [hs]
    | some y =>
      have e : wantL l (v :: vs) = ⟨v, y⟩ :: wantL l vs := by simp [wantL, h]
      rw [e]
      by_cases hs : v = s
      · subst hs
        have e3 : getT (⟨v, y⟩ :: wantL l vs) v = some y := by simp [getT]
        rw [e3]; simp [h]
      · have hb : (v == s) = false := by simpa using hs
        have e2 : getT (⟨v, y⟩ :: wantL l vs) s = getT (wantL l vs) s := by simp [getT, hb]
        rw [e2, ih]
        simp [Ne.symm hs]
theorem wantL_mem {l : List GTold} {vars : List ByteArray} {t : GTold} (h : t ∈ wantL l vars) : t.x ∈ vars ∧ getT l t.x = some t.v := by
  simp only [wantL, List.mem_filterMap, Option.map_eq_some_iff] at h
  obtain ⟨v, hv, x, hx, rfl⟩ := h
  exact ⟨hv, hx⟩

set_option maxRecDepth 100000 in
set_option maxHeartbeats 4000000 in
theorem bindColumns_walk (rel : ByteArray) (hrel : rel.size ≤ 140737488351232) (A : Option Addr) (n c : Nat) (a : List GTold) (A1 : Option Addr) (n1 c1 : Nat) (vars : List ByteArray) (A2 : Option Addr) (n2 c2 : Nat) (l : List GTold) (w : World)
    (ha : SliceIs Enc.told w w.heap.size A n c a) (hv : SliceIs Enc.str w w.heap.size A1 n1 c1 vars) (hl : SliceIs Enc.told w w.heap.size A2 n2 c2 l) :
    Calls Try.prog 5 #[.agg #[.string rel, .slice A n c], .slice A1 n1 c1, .slice A2 n2 c2] w (RetBool true w) := by
  have hal := fun W => alive_any W
  have Ha := Lib.hid ha
  have Hv := Lib.hid hv
  have Hl := Lib.hid hl
  have Hok := Lib.hid (getT_ok hl)
  have Hal := Lib.hid hal
  have Hrel := Lib.hid hrel
  have Hvlen := Lib.hid hv.1
  clear ha hv hl hal hrel
  go_enter Try.func5, Try.ntmps5
  go_wp2_with fail
  refine (Hal.out _).mono ?_
  rintro e w1 ⟨rfl, hb⟩
  have b1 := below_next (belowA (Below.refl _ w) _) hb
  have hc1 : w1.cell? ⟨w.heap.size, 0, none⟩ = some (.string rel) := (hb.cell (p := ⟨w.heap.size, 0, none⟩) (by simp)).trans (by simp)
  have hc2 : w1.cell? ⟨w.heap.size, 1, none⟩ = some (.slice A n c) := (hb.cell (p := ⟨w.heap.size, 1, none⟩) (by simp)).trans (by simp)
  clear hb
  go_wp2_with fail
  refine (long_any rel Hrel.out A n c a none 0 0 [] A2 n2 c2 l w1 (Ha.out.keep b1) SliceIs.nil (Hl.out.keep b1)).mono ?_
  rintro e w2 ⟨r, rfl, hr, b2⟩
  have d1 := below_cell b2 hc1
  have d2 := below_cell b2 hc2
  have b2 := below_next b1 b2
  clear hc1 hc2
  cases r with
  | true =>
    go_wp2_with fail
    go_ret
    exact ⟨rfl, b2⟩
  | false =>
  have Hn := Lib.hid (hr rfl)
  clear hr
  go_wp2_with fail
  refine (texts_any A1 n1 c1 vars w2 (Hv.out.keep b2)).mono ?_
  rintro e w2' ⟨r, rfl, hr, b2'⟩
  have d1 := below_cell b2' d1
  have d2 := below_cell b2' d2
  have b2 := below_next b2 b2'
  clear b2'
  cases r with
  | true =>
    go_wp2_with fail
    go_ret
    exact ⟨rfl, b2⟩
  | false =>
  have hn31 := hr rfl
  clear hr
  go_wp2_with fail
  refine (atom5_any rel A n c a w2' Hn.out.1 (Ha.out.keep b2)).mono ?_
  rintro e w3 ⟨A5, c5, rfl, h5, b3⟩
  have d1 := below_cell b3 d1
  have d2 := below_cell b3 d2
  have b3 := below_next b2 b3
  have H5 := Lib.hid h5
  clear h5
  go_upto_region 6 with fail
  have m1 : (w3.alloc (.cells #[.string rel, .slice A5 n c5] 53)).cell? ⟨w3.heap.size, 0, none⟩ = some (.string rel) := by simp
  have m2 : (w3.alloc (.cells #[.string rel, .slice A5 n c5] 53)).cell? ⟨w3.heap.size, 1, none⟩ = some (.slice A5 n c5) := by simp
  have d1 := cellA (o := .cells #[.string rel, .slice A5 n c5] 53) d1
  have d2 := cellA (o := .cells #[.string rel, .slice A5 n c5] 53) d2
  have H5 := H5.out.keep (belowA (Below.refl _ _) (.cells #[.string rel, .slice A5 n c5] 53))
  have b4 := belowA b3 (.cells #[.string rel, .slice A5 n c5] 53)
  generalize w3.heap.size = g7 at m1 m2 ⊢
  generalize w3.alloc (.cells #[.string rel, .slice A5 n c5] 53) = wb at m1 m2 d1 d2 H5 b4 ⊢
  have HA := Lib.hid (fun W (h : Below wb.heap.size wb W) => (Ha.out.keep b4).keep h)
  have HV := Lib.hid (fun W (h : Below wb.heap.size wb W) => (Hv.out.keep b4).keep h)
  have HVb := Lib.hid (Hv.out.keep b4)
  have HL := Lib.hid (fun W (h : Below wb.heap.size wb W) => (Hl.out.keep b4).keep h)
  have H5 := Lib.hid (fun W (h : Below wb.heap.size wb W) => H5.keep h)
  have Hk := Lib.hid (fun W (h : Below wb.heap.size wb W) => And.intro (below_cell h d1) (And.intro (below_cell h d2) (And.intro (below_cell h m1) (below_cell h m2))))
  clear d1 d2 m1 m2 b3 b2 b1
  go_wp2_with fail
  go_loopw [8, 10, 11, 12, 26] (fun v8 _ _ _ i wr => ∃ (k m c' : Nat) (A' : Option Addr) (W : List GTold), k ≤ n1 ∧ i = .int .i64 k ∧ v8 = .slice A' m c' ∧ Hid (wantL l (vars.take k) = W) ∧ m ≤ k ∧ SliceIs Enc.told wr wr.heap.size A' m c' W ∧ Below wb.heap.size wb wr) (fun _ _ _ _ i _ => n1 - (intOf i).toNat)
  case atStart => exact ⟨0, 0, 0, none, [], by omega, rfl, rfl, rfl, by omega, SliceIs.nil, Below.refl _ _⟩
  case round =>
    obtain ⟨k, m, c', A', W, hk, rfl, rfl, hW, hmk, hs, hbr⟩ := hrel
    by_cases hlt : k < n1
    · obtain ⟨b, o, x, rfl, _, hx, hcx, hxs⟩ := (HVb.out.below hbr).str_at hlt
      have i1 : (k : Int) < (n1 : Int) := by omega
      have Hxs := Lib.hid hxs
      have hG := get_any A2 n2 c2 l x wr (HL.out _ hbr)
      cases hg : getT l x with
      | none =>
        have HG := Lib.hid (get_none hG hg)
        have HN := Lib.hid (wantL_none hx.out hg)
        clear hG hg hxs
        go_wp2_with fail
        refine HG.out.mono ?_
        rintro e w5 ⟨rfl, b5⟩
        go_wp2_with fail
        go_roundw
        case rel => exact ⟨k + 1, m, c', A', W, by omega, by go_num, rfl, by show _ = _; rw [HN.out]; exact hW.out, by omega, (hs.keep b5).keep (belowA (Below.refl _ _) _), belowA (below_next hbr b5) _⟩
        case measure => simp [intOf]; omega
      | some v =>
        have HG := Lib.hid (get_some hG hg)
        have HN := Lib.hid (wantL_some hx.out hg)
        have Hvok := Lib.hid (Hok.out x v hg)
        have Hall : Hid (∀ t ∈ W, t.x.size ≤ reachN ∧ t.v.ok) := fun t ht => told_ok hs t ht
        clear hG hg hxs
        go_wp2_with fail
        refine HG.out.mono ?_
        rintro e w5 ⟨rfl, b5⟩
        have hs5 := (hs.keep b5).keep (belowA (Below.refl _ _) (.cells #[.int .i64 v.k, .int .i64 v.n, .string v.s] 63))
        go_wp2_with fail
        refine (set_any A' m c' W x v _ hs5 (by omega) Hxs.out Hvok.out Hall.out).mono ?_
        rintro e w6 ⟨A6, c6, rfl, hs6, b6⟩
        have hb6 := below_next (belowA (below_next hbr b5) _) b6
        go_wp2_with fail
        go_roundw
        case rel => exact ⟨k + 1, m + 1, c6, A6, W ++ [⟨x, v⟩], by omega, by go_num, rfl, by show _ = _; rw [HN.out, hW.out], by omega, hs6, hb6⟩
        case measure => simp [intOf]; omega
    · obtain rfl : n1 = k := by omega
      have HWg : Hid (∀ s, getT W s = onlyF (getT l) vars s) := by
        have h := hW.out
        rw [List.take_of_length_le (by have := Hvlen.out; omega)] at h
        rw [← h]
        exact wantL_get l vars
      have HW := Lib.hid (fun W' (h : Below wr.heap.size wr W') => hs.keep h)
      have HA := Lib.hid (fun W (h : Below wr.heap.size wr W) => HA.out W (below_next hbr h))
      have HV := Lib.hid (fun W (h : Below wr.heap.size wr W) => HV.out W (below_next hbr h))
      have HL := Lib.hid (fun W (h : Below wr.heap.size wr W) => HL.out W (below_next hbr h))
      have H5 := Lib.hid (fun W (h : Below wr.heap.size wr W) => H5.out W (below_next hbr h))
      have Hk := Lib.hid (fun W (h : Below wr.heap.size wr W) => Hk.out W (below_next hbr h))
      have hbw := below_next b4 hbr
      have hb1 := Below.refl wr.heap.size wr
      clear hs hbr b4
      go_upto_region 14 with fail
      go_region_held3 (fun w' => w'.cell? ⟨w.heap.size, 0, none⟩ = some (.string rel) ∧ w'.cell? ⟨w.heap.size, 1, none⟩ = some (.slice A n c) ∧ w'.cell? ⟨g7, 0, none⟩ = some (.string rel) ∧ w'.cell? ⟨g7, 1, none⟩ = some (.slice A5 n c5))
        (first
          | (refine Hk.out _ ?_; (repeat (first | with_reducible exact Below.refl _ _ | with_reducible assumption | with_reducible refine Below.drew ?_ | with_reducible refine belowA ?_ _)))
          | go_keep)
        ((first
      | (go_at_call 28
         refine (told_any rel A n c a A1 n1 c1 vars _ Hn.out.1 (HA.out _ (by repeat (first | with_reducible exact Below.refl _ _ | with_reducible assumption | with_reducible refine Below.drew ?_ | with_reducible refine belowA ?_ _))) (HV.out _ (by repeat (first | with_reducible exact Below.refl _ _ | with_reducible assumption | with_reducible refine Below.drew ?_ | with_reducible refine belowA ?_ _)))).mono ?_
         rintro e wN ⟨A6, m6, c6, rfl, hs6, hq1⟩
         have hb1 : Below wr.heap.size wr wN := by
           refine below_next ?_ hq1
           repeat (first | with_reducible exact Below.refl _ _ | with_reducible assumption | with_reducible refine Below.drew ?_ | with_reducible refine belowA ?_ _)
         clear hq1)
      | (go_at_call 29
         refine (columns_any rel A5 n c5 a A1 n1 c1 vars _ Hn.out.1 (H5.out _ (by repeat (first | with_reducible exact Below.refl _ _ | with_reducible assumption | with_reducible refine Below.drew ?_ | with_reducible refine belowA ?_ _))) (HV.out _ (by repeat (first | with_reducible exact Below.refl _ _ | with_reducible assumption | with_reducible refine Below.drew ?_ | with_reducible refine belowA ?_ _)))).mono ?_
         rintro e wN ⟨A7, m7, c7, rfl, hs7, hq1⟩
         have hb1 : Below wr.heap.size wr wN := by
           refine below_next ?_ hq1
           repeat (first | with_reducible exact Below.refl _ _ | with_reducible assumption | with_reducible refine Below.drew ?_ | with_reducible refine belowA ?_ _)
         have hs6 := hs6.keep (w' := wN) (by
           refine below_next ?_ hq1
           repeat (first | with_reducible exact Below.refl _ _ | with_reducible assumption | with_reducible refine Below.drew ?_ | with_reducible refine belowA ?_ _))
         clear hq1)
      | (go_at_call 27
         refine (ints_eq A6 A7 m6 m7 c6 c7 _ _ hs6 hs7).mono ?_
         rintro e wN ⟨rfl, hq1⟩
         have hb1 : Below wr.heap.size wr wN := by
           refine below_next ?_ hq1
           repeat (first | with_reducible exact Below.refl _ _ | with_reducible assumption | with_reducible refine Below.drew ?_ | with_reducible refine belowA ?_ _)
         clear hq1)
      | (go_at_call 31
         refine (free_any rel A n c a A1 n1 c1 vars _ Hn.out.1 (HA.out _ (by repeat (first | with_reducible exact Below.refl _ _ | with_reducible assumption | with_reducible refine Below.drew ?_ | with_reducible refine belowA ?_ _))) (HV.out _ (by repeat (first | with_reducible exact Below.refl _ _ | with_reducible assumption | with_reducible refine Below.drew ?_ | with_reducible refine belowA ?_ _)))).mono ?_
         rintro e wN ⟨A8, m8, c8, rfl, hs8, hq1⟩
         have hb1 : Below wr.heap.size wr wN := by
           refine below_next ?_ hq1
           repeat (first | with_reducible exact Below.refl _ _ | with_reducible assumption | with_reducible refine Below.drew ?_ | with_reducible refine belowA ?_ _)
         clear hq1)
      | (go_at_call 32
         refine (refFree_any rel A5 n c5 a A1 n1 c1 vars _ Hn.out.1 (H5.out _ (by repeat (first | with_reducible exact Below.refl _ _ | with_reducible assumption | with_reducible refine Below.drew ?_ | with_reducible refine belowA ?_ _))) (HV.out _ (by repeat (first | with_reducible exact Below.refl _ _ | with_reducible assumption | with_reducible refine Below.drew ?_ | with_reducible refine belowA ?_ _)))).mono ?_
         rintro e wN ⟨A9, m9, c9, rfl, hs9, hq1⟩
         have hb1 : Below wr.heap.size wr wN := by
           refine below_next ?_ hq1
           repeat (first | with_reducible exact Below.refl _ _ | with_reducible assumption | with_reducible refine Below.drew ?_ | with_reducible refine belowA ?_ _)
         have hs8 := hs8.keep (w' := wN) (by
           refine below_next ?_ hq1
           repeat (first | with_reducible exact Below.refl _ _ | with_reducible assumption | with_reducible refine Below.drew ?_ | with_reducible refine belowA ?_ _))
         clear hq1)
      | (go_at_call 30
         refine (texts_eq A8 A9 m8 m9 c8 c9 _ _ hs8 hs9).mono ?_
         rintro e wN ⟨rfl, hq1⟩
         have hb1 : Below wr.heap.size wr wN := by
           refine below_next ?_ hq1
           repeat (first | with_reducible exact Below.refl _ _ | with_reducible assumption | with_reducible refine Below.drew ?_ | with_reducible refine belowA ?_ _)
         clear hq1)
      | (go_at_call 12
         refine (env_any A2 n2 c2 l _ (HL.out _ (by repeat (first | with_reducible exact Below.refl _ _ | with_reducible assumption | with_reducible refine Below.drew ?_ | with_reducible refine belowA ?_ _)))).mono ?_
         rintro e wN ⟨g, rfl, hg, -, hq1⟩
         have hb1 : Below wr.heap.size wr wN := by
           refine below_next ?_ hq1
           repeat (first | with_reducible exact Below.refl _ _ | with_reducible assumption | with_reducible refine Below.drew ?_ | with_reducible refine belowA ?_ _)
         clear hq1)
      | (go_at_call 33
         refine (only_any g (envOf l) A1 n1 c1 vars _ hg (HV.out _ (by repeat (first | with_reducible exact Below.refl _ _ | with_reducible assumption | with_reducible refine Below.drew ?_ | with_reducible refine belowA ?_ _)))).mono ?_
         rintro e wN ⟨g2, kv, rfl, -, hg2, hkd, hkg, hq1⟩
         have hb1 : Below wr.heap.size wr wN := by
           refine below_next ?_ hq1
           repeat (first | with_reducible exact Below.refl _ _ | with_reducible assumption | with_reducible refine Below.drew ?_ | with_reducible refine belowA ?_ _)
         clear hq1)
      | (go_at_call 18
         refine (same_any (.map (some g2)) kv A' m c' W _ (.inr ⟨g2, rfl, hg2⟩) hkd (HW.out _ (by repeat (first | with_reducible exact Below.refl _ _ | with_reducible assumption | with_reducible refine Below.drew ?_ | with_reducible refine belowA ?_ _))) (fun s => by rw [hkg, HWg.out, show kvGet (envOf l) = getT l from funext (envOf_get l)])).mono ?_
         rintro e wN ⟨rfl, hq1⟩
         have hb1 : Below wr.heap.size wr wN := by
           refine below_next ?_ hq1
           repeat (first | with_reducible exact Below.refl _ _ | with_reducible assumption | with_reducible refine Below.drew ?_ | with_reducible refine belowA ?_ _)
         clear hq1)))
      all_goals
        go_wp2_with fail
        go_ret
        exact ⟨by simp, below_next hbw hb1⟩
end Go.Proofs.Ytggbfpjpkfhaeaa
