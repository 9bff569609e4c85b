/- My own texts SfBd, SfUn, SfAlv, SfWl, as far as this claim needs them. -/
import Derived.Test.YtfklheagafffmaaGreatDoorZs28
set_option linter.unusedVariables false
set_option linter.unusedSimpArgs false
set_option maxRecDepth 1000000
set_option maxHeartbeats 16000000
namespace Go.Proofs.YtfklheagafffmaaGreatDoor
open Go.RowKit
def posV (body : List GLit) : List ByteArray := (body.filter posB).flatMap varsL
theorem posV_take {body : List GLit} {k : Nat} {y : GLit} (h : body[k]? = some y) : posV (body.take (k + 1)) = if posB y = true then posV (body.take k) ++ varsL y else posV (body.take k) := by
  unfold posV
  rw [List.take_add_one, h]
  cases hp : posB y <;> simp [hp]
theorem lackN_congr {body : List GLit} {S T : List ByteArray} (h : ∀ v, v ∈ S ↔ v ∈ T) : lackN body S = lackN body T := by
  unfold lackN
  congr 1
  refine List.filter_congr fun v _ => ?_
  rw [hasB_congr h]
theorem SetV.same_has {w : World} {g : Nat} {S T : List ByteArray} {M M' : Nat} (h : SetV w g S M) (k : SetV w g T M') : ∀ v, v ∈ S ↔ v ∈ T := by
  intro v
  obtain ⟨c, h1, -, -, h2⟩ := h.look under_set under_key (zero_cnt _) v
  obtain ⟨c', k1, -, -, k2⟩ := k.look under_set under_key (zero_cnt _) v
  rw [h1] at k1
  obtain rfl : c = c' := by injection k1 with e; injection e
  constructor
  · intro hv; exact Decidable.byContradiction fun hn => (h2.1 (k2.2 hn)) hv
  · intro hv; exact Decidable.byContradiction fun hn => (k2.1 (h2.2 hn)) hv
open Classical in
noncomputable def muS (body : List GLit) (g : Nat) (w : World) : Nat := if h : ∃ S M, SetV w g S M then lackN body h.choose else 0
theorem muS_eq {body : List GLit} {g : Nat} {w : World} {S : List ByteArray} {M : Nat} (h : SetV w g S M) : muS body g w = lackN body S := by
  have hx : ∃ S M, SetV w g S M := ⟨S, M, h⟩
  unfold muS
  rw [dif_pos hx]
  obtain ⟨M', h'⟩ := hx.choose_spec
  exact lackN_congr (h'.same_has h)
def BoundPost (x : GRule) (w : World) (e : Ending) (w' : World) : Prop :=
  ∃ g S M, e = .returned (.map (some g)) ∧ SetV w' g S M ∧ BoundTo x.body (posV x.body) S ∧ Below w.heap.size w w'
theorem bound_any {w : World} {d : Nat} {x : GRule} {a b : Hd} (hx : RuleAt d w w.heap.size x a b) (hsz : (ruleT x).length ≤ 1500) (hbn : x.body.length ≤ 1500) :
    Calls Tryz.prog 45 #[.agg (ruleC x a b).toArray] w (BoundPost x w) := by
  obtain ⟨b_A, b_n, b_c⟩ := b
  have Hbn : Hid (x.body.length = b_n) := hx.body.1
  have hbn2 : b_n ≤ 1500 := by rw [← Hbn.out]; exact hbn
  have hbl : (x.body.flatMap insideL).length ≤ 1500 := by unfold ruleT at hsz; simp only [List.length_append] at hsz; omega
  have HSz : Hid (∀ y ∈ x.body, (insideL y).length ≤ 1500) := fun y hy => by
    obtain ⟨i, hi⟩ := List.mem_iff_getElem?.1 hy
    have h1 := flatMap_take (f := insideL) hi
    have h2 := flatMap_len x.body insideL (i + 1)
    rw [h1, List.length_append] at h2
    omega
  have HLack : Hid (∀ S, lackN x.body S ≤ 1500) := fun S => by
    unfold lackN
    refine Nat.le_trans (List.length_filter_le _ _) (Nat.le_trans ?_ hbl)
    clear hbl HSz hsz hx
    induction x.body with
    | nil => exact Nat.le_refl _
    | cons y l ih => simp only [List.flatMap_cons, List.length_append]; have := varsL_le y; omega
  obtain ⟨V, hV⟩ : ∃ V, V = (w.alloc (.cells (ruleC x a ⟨b_A, b_n, b_c⟩).toArray 27)).alloc (.map #[] 0) := ⟨_, rfl⟩
  have HVe := Lib.hid hV.symm
  have hr0 : V.heap[w.heap.size]? = some (.cells (ruleC x a ⟨b_A, b_n, b_c⟩).toArray 27 (0, 0)) := by rw [hV]; exact heapOld (heapNew rfl)
  have hzV : V.heap.size = w.heap.size + 2 := by rw [hV]; simp
  have hbV : Below w.heap.size w V := by rw [hV]; exact belowA (belowA (Below.refl _ _) _) _
  have HS0 : Hid (SetV V (w.heap.size + 1) [] 0) := by
    have h : SetV V (w.alloc (.cells (ruleC x a ⟨b_A, b_n, b_c⟩).toArray 27)).heap.size [] 0 := by rw [hV]; exact SetV.made
    rw [World.size_alloc] at h
    exact h
  have HbO : Hid (∀ W, Out [w.heap.size + 1] V W → Below w.heap.size w W) := fun W hW => hbV.trans ⟨hW.os, hW.tape, hW.output, hW.size, fun b' hb' => hW.block b' (by omega) (by simp; omega)⟩
  have HRule : Hid (∀ W, Out [w.heap.size + 1] V W → RuleAt d W W.heap.size x a ⟨b_A, b_n, b_c⟩) := fun W hW => hx.keep (HbO.out W hW)
  have HC4 : Hid (∀ W, Out [w.heap.size + 1] V W → W.cell? ⟨w.heap.size, 4, none⟩ = some (.slice b_A b_n b_c)) := fun W hW => (facts6 ((hW.block _ (by omega) (by simp)).trans hr0)).2.2.2.2.1
  have c4 := HC4.out V (Out.refl _ _)
  have hmm := @run_makeMap Tryz.prog
  clear hx hV hbV hr0 hsz hbl
  go_enter Tryz.func45, Tryz.ntmps45
  go_wp2_with fail
  go_step3
  go_wp2_with (rw [HVe.out])
  clear hmm
  go_loopw [5, 12] (fun _ i wr => ∃ (k M : Nat), k ≤ b_n ∧ i = .int .i64 (k : Int) ∧ M ≤ 1500 * k ∧ Hid (SetV wr (w.heap.size + 1) (posV (x.body.take k)) M) ∧ Hid (Out [w.heap.size + 1] V wr)) (fun _ i _ => b_n - (intOf i).toNat)
  case atStart => exact ⟨0, 0, by omega, rfl, by omega, HS0.out, Out.refl _ _⟩
  case round =>
    obtain ⟨k, M, hk, rfl, hM, HS, HO⟩ := hrel
    have i0 : (0 : Int) ≤ (k : Int) := by omega
    by_cases hlt : k < b_n
    · have i1 : (k : Int) < (b_n : Int) := by omega
      obtain ⟨bb, o, y, a', p', q', hA, hbb, hy, hly, Hr⟩ := (HRule.out wr HO.out).body.lit_range hlt
      dsimp only at hA
      subst hA
      obtain ⟨U, hU⟩ : ∃ U, U = wr.alloc (.cells (litC y a' p' q').toArray 70) := ⟨_, rfl⟩
      have HUe := Lib.hid hU.symm
      have hbU : Below wr.heap.size wr U := by rw [hU]; exact belowA (Below.refl _ _) _
      have hrU : U.heap[wr.heap.size]? = some (.cells (litC y a' p' q').toArray 70 (0, 0)) := by rw [hU]; exact heapNew rfl
      have HRn := Lib.hid (range_row hrU)
      have hyl := HSz.out y (List.mem_of_getElem? hy.out)
      have hvl : (varsL y).length ≤ 1500 := Nat.le_trans (varsL_le y) hyl
      have HI := Lib.hid (inT_any d y a' p' q' U (hly.keep hbU) hyl)
      have HSU := Lib.hid (HS.out.below hbU)
      have b0 := (facts17 hrU).1
      have HVs : Hid (∀ s ∈ varsL y, s.size ≤ reachN) := fun s hs => by
        obtain ⟨t, ht, rfl, -⟩ := varsL_has.1 hs
        exact (inside_ok hly t ht).1
      have HOU : Hid (Out [w.heap.size + 1] V U) := HO.out.trans (Out.of_below hbU _) (fun b' hb' _ => hb')
      have hzO := HO.out.size
      have HbU := Lib.hid hbU
      clear hU hbU hrU hly
      by_cases hp : y.k = 1
      · have Hv : Hid (posV (x.body.take (k + 1)) = posV (x.body.take k) ++ varsL y) := by show _ = _; rw [posV_take hy.out, if_pos (by simp [posB, hp])]
        have e0 : (y.k == 1) = true := by simp [hp]
        clear hp hy
        go_wp2_with (first
          | rw [HUe.out]
          | rw [e0]
          | refine wpList_load_mid rfl 70 (.tmp 14) rfl bb (o + k * 17) rfl (litC y a' p' q') _ Hr.out Tryz.underlying70 rfl (lit_size y a' p' q') ?_
          | refine wpList_new rfl rfl 70 5 (.tmp 15) rfl rfl rfl rfl _ (litC y a' p' q').toArray lit_info rfl (lit_one y a' p' q') rfl rfl ?_
          | refine wpList_load_mid rfl 70 (.tmp 5) rfl wr.heap.size 0 rfl (litC y a' p' q') _ HRn.out Tryz.underlying70 rfl (lit_size y a' p' q') ?_)
        refine HI.out.mono ?_
        rintro e w3 ⟨A3, c3, rfl, ho3, hb3⟩
        have hz3 := hb3.size
        have hzU := HbU.out.size
        have HPt := Lib.hid (setPut_any (w.heap.size + 1) A3 (varsL y).length c3 (varsL y) (posV (x.body.take k)) M w3 (HSU.out.below hb3) ((own_farS ho3 rfl (by have : (putL [] (insideL y)).length = (varsL y).length := rfl; omega) HVs.out).one (by omega)) (by omega))
        have HO3 : Hid (Out [w.heap.size + 1] V w3) := HOU.out.trans (Out.of_below hb3 _) (fun b' hb' _ => hb')
        clear ho3 hb3 HI
        go_wp2_with fail
        refine HPt.out.mono ?_
        rintro e w4 ⟨rfl, hs4, ho4⟩
        rw [← Hv.out] at hs4
        have HS4 := Lib.hid hs4
        have HO4 : Hid (Out [w.heap.size + 1] V w4) := HO3.out.trans ho4 (fun b' hb' _ => hb')
        clear hs4 ho4 HPt
        go_wp2_with fail
        go_roundw
        case rel => exact ⟨k + 1, M + (varsL y).length, by omega, by go_num, by omega, HS4, HO4⟩
        case measure => simp [intOf]; omega
      · have Hv : Hid (posV (x.body.take (k + 1)) = posV (x.body.take k)) := by show _ = _; rw [posV_take hy.out, if_neg (by simp [posB, hp])]
        have e0 : (y.k == 1) = false := by simp [hp]
        rw [← Hv.out] at HSU
        clear hp hy
        go_wp2_with (first
          | rw [HUe.out]
          | rw [e0]
          | refine wpList_load_mid rfl 70 (.tmp 14) rfl bb (o + k * 17) rfl (litC y a' p' q') _ Hr.out Tryz.underlying70 rfl (lit_size y a' p' q') ?_
          | refine wpList_new rfl rfl 70 5 (.tmp 15) rfl rfl rfl rfl _ (litC y a' p' q').toArray lit_info rfl (lit_one y a' p' q') rfl rfl ?_)
        go_roundw
        case rel => exact ⟨k + 1, M, by omega, by go_num, by omega, HSU, HOU⟩
        case measure => simp [intOf]; omega
    · obtain rfl : b_n = k := by omega
      have i1 : ¬ (b_n : Int) < (b_n : Int) := by omega
      have hpv : posV (x.body.take b_n) = posV x.body := by rw [List.take_of_length_le (by rw [Hbn.out]; exact Nat.le_refl _)]
      rw [hpv] at HS
      clear hpv
      have HBd : Hid (∀ T, BoundTo x.body (posV x.body) T → BoundTo x.body (posV x.body) T) := fun _ h => h
      have hC := HLack.out (posV x.body)
      clear c4
      go_wp2_with fail
      go_step3
      go_wp2_with fail
      go_loopw [27] (fun _ wr => ∃ (S : List ByteArray) (M : Nat), Hid (SetV wr (w.heap.size + 1) S M) ∧ Hid (Out [w.heap.size + 1] V wr) ∧ Hid (∀ T, BoundTo x.body S T → BoundTo x.body (posV x.body) T) ∧ M + 1500 * lackN x.body S ≤ 8000000) (fun _ wr => muS x.body (w.heap.size + 1) wr)
      case atStart => exact ⟨_, M, HS, HO, HBd, by omega⟩
      case round =>
        clear HBd HS HO hM hC
        obtain ⟨S, M, HS, HO, HBd, hM⟩ := hrel
        have HMu : Hid (muS x.body (w.heap.size + 1) wr = lackN x.body S) := muS_eq HS.out
        have c4 := HC4.out wr HO.out
        go_wp2_with fail
        go_loopw [7, 27] (fun _ i wr2 => ∃ k : Nat, k ≤ b_n ∧ i = .int .i64 (k : Int) ∧ Hid (SetV wr2 (w.heap.size + 1) S M) ∧ Hid (Out [w.heap.size + 1] V wr2) ∧ Hid (∀ y ∈ x.body.take k, setsB S y = false)) (fun _ i _ => b_n - (intOf i).toNat)
        case atStart => exact ⟨0, by omega, rfl, HS, HO, (fun y hy => by simp at hy)⟩
        case round =>
          clear HS HO c4
          obtain ⟨k, hk, rfl, HS, HO, HNo⟩ := hrel
          have i0 : (0 : Int) ≤ (k : Int) := by omega
          by_cases hlt : k < b_n
          · have i1 : (k : Int) < (b_n : Int) := by omega
            obtain ⟨bb, o, y, a', p', q', hA, hbb, hy, hly, Hr⟩ := (HRule.out wr HO.out).body.lit_range hlt
            dsimp only at hA
            subst hA
            obtain ⟨U, hU⟩ : ∃ U, U = wr.alloc (.cells (litC y a' p' q').toArray 70) := ⟨_, rfl⟩
            have HUe := Lib.hid hU.symm
            have hbU : Below wr.heap.size wr U := by rw [hU]; exact belowA (Below.refl _ _) _
            have hrU : U.heap[wr.heap.size]? = some (.cells (litC y a' p' q').toArray 70 (0, 0)) := by rw [hU]; exact heapNew rfl
            have hzU : wr.heap.size < U.heap.size := (Array.getElem?_eq_some_iff.1 hrU).1
            have HRn : Hid (∀ W, Below U.heap.size U W → W.rangeAt wr.heap.size 0 (litC y a' p' q')) := fun W hW => range_row ((hW.block _ hzU).trans hrU)
            have hyl := HSz.out y (List.mem_of_getElem? hy.out)
            have hvl : (varsL y).length ≤ 1500 := Nat.le_trans (varsL_le y) hyl
            have HSe := Lib.hid (setSets_any d (w.heap.size + 1) S M y a' p' q' U (HS.out.below hbU) (hly.keep hbU) hyl)
            have HI := Lib.hid (fun (W : World) (hW : Below U.heap.size U W) => inT_any d y a' p' q' W ((hly.keep hbU).keep hW) hyl)
            have HSU := Lib.hid (HS.out.below hbU)
            have HVs : Hid (∀ s ∈ varsL y, s.size ≤ reachN) := fun s hs => by
              obtain ⟨t, ht, rfl, -⟩ := varsL_has.1 hs
              exact (inside_ok hly t ht).1
            have HOU : Hid (Out [w.heap.size + 1] V U) := HO.out.trans (Out.of_below hbU _) (fun b' hb' _ => hb')
            have hzO := HO.out.size
            have hRU0 := HRn.out U (Below.refl _ _)
            have HRU0 := Lib.hid hRU0
            have HbU0 := Lib.hid hbU
            clear hU hbU hrU hly hRU0 HS HO
            go_wp2_with (first
              | rw [HUe.out]
              | refine wpList_load_mid rfl 70 (.tmp 29) rfl bb (o + k * 17) rfl (litC y a' p' q') _ Hr.out Tryz.underlying70 rfl (lit_size y a' p' q') ?_
              | refine wpList_new rfl rfl 70 7 (.tmp 30) rfl rfl rfl rfl _ (litC y a' p' q').toArray lit_info rfl (lit_one y a' p' q') rfl rfl ?_
              | refine wpList_load_mid rfl 70 (.tmp 7) rfl wr.heap.size 0 rfl (litC y a' p' q') _ HRU0.out Tryz.underlying70 rfl (lit_size y a' p' q') ?_)
            refine HSe.out.mono ?_
            rintro e w2 ⟨rfl, hb2⟩
            have HI2 := Lib.hid (HI.out w2 hb2)
            have HR2 := Lib.hid (HRn.out w2 hb2)
            have HS2 := Lib.hid (HSU.out.below hb2)
            have HO2 : Hid (Out [w.heap.size + 1] V w2) := HOU.out.trans (Out.of_below hb2 _) (fun b' hb' _ => hb')
            have hz2 := hb2.size
            clear hb2 HSe HI
            cases hs : setsB S y with
            | true =>
              have HStep : Hid (∀ T, BoundTo x.body (S ++ varsL y) T → BoundTo x.body (posV x.body) T) := fun T hT => HBd.out T (.step (List.mem_of_getElem? hy.out) hs hT)
              have hlk := lack_lt (body := x.body) (List.mem_of_getElem? hy.out) hs
              clear hs
              go_wp2_with (refine wpList_load_mid rfl 70 (.tmp 7) rfl wr.heap.size 0 rfl (litC y a' p' q') _ HR2.out Tryz.underlying70 rfl (lit_size y a' p' q') ?_)
              refine HI2.out.mono ?_
              rintro e w3 ⟨A3, c3, rfl, ho3, hb3⟩
              have hz3 := hb3.size
              have HPt := Lib.hid (setPut_any (w.heap.size + 1) A3 (varsL y).length c3 (varsL y) S M w3 (HS2.out.below hb3) ((own_farS ho3 rfl (by have : (putL [] (insideL y)).length = (varsL y).length := rfl; omega) HVs.out).one (by omega)) (by omega))
              have HO3 : Hid (Out [w.heap.size + 1] V w3) := HO2.out.trans (Out.of_below hb3 _) (fun b' hb' _ => hb')
              clear ho3 hb3 HI2
              go_wp2_with fail
              refine HPt.out.mono ?_
              rintro e w4 ⟨rfl, hs4, ho4⟩
              have HS4 := Lib.hid hs4
              have HO4 : Hid (Out [w.heap.size + 1] V w4) := HO3.out.trans ho4 (fun b' hb' _ => hb')
              clear hs4 ho4 HPt
              go_wp2_with fail
              go_roundw
              case rel => exact ⟨S ++ varsL y, M + (varsL y).length, HS4, HO4, HStep, by omega⟩
              case measure =>
                have h1 := HMu.out
                have h2 := muS_eq (body := x.body) HS4.out
                first | omega | (show muS _ _ _ < muS _ _ _; omega)
            | false =>
              have HNo2 : Hid (∀ y ∈ x.body.take (k + 1), setsB S y = false) := fun z hz => by
                rw [mem_take_step hy.out] at hz
                rcases hz with hz | rfl
                · exact HNo.out z hz
                · exact hs
              clear hs
              go_wp2_with fail
              go_roundw
              case rel => exact ⟨k + 1, by omega, by go_num, HS2, HO2, HNo2⟩
              case measure => simp [intOf]; omega
          · obtain rfl : b_n = k := by omega
            have i1 : ¬ (b_n : Int) < (b_n : Int) := by omega
            have HE : Hid (BoundPost x w (.returned (.map (some (w.heap.size + 1)))) wr) :=
              ⟨_, S, M, rfl, HS.out, HBd.out S (.stop fun y hy => HNo.out y (by rw [List.take_of_length_le (by rw [Hbn.out]; exact Nat.le_refl _)]; exact hy)), HbO.out wr HO.out⟩
            clear HS HO HNo HBd
            go_wp2_with fail
            go_ret
            exact HE.out
end Go.Proofs.YtfklheagafffmaaGreatDoor

namespace Go.Proofs.YtfklheagafffmaaGreatDoor
open Go.RowKit
def UnPost (x : GRule) (w : World) (e : Ending) (w' : World) : Prop :=
  ∃ S A m c, e = .returned (.slice A m c) ∧ BoundTo x.body (posV x.body) S ∧ SliceIs Enc.str w' w'.heap.size A m c (sieveL x S false) ∧ Below w.heap.size w w'
theorem unbound_any {w : World} {d : Nat} {x : GRule} {a b : Hd} (hx : RuleAt d w w.heap.size x a b) (hsz : (ruleT x).length ≤ 1500) (hbn : x.body.length ≤ 1500) :
    Calls Tryz.prog 17 #[.agg (ruleC x a b).toArray] w (UnPost x w) := by
  obtain ⟨V, hV⟩ : ∃ V, V = w.alloc (.cells (ruleC x a b).toArray 27) := ⟨_, rfl⟩
  have HVe := Lib.hid hV.symm
  have hr0 : V.heap[w.heap.size]? = some (.cells (ruleC x a b).toArray 27 (0, 0)) := by rw [hV]; exact heapNew rfl
  have hzV : V.heap.size = w.heap.size + 1 := by rw [hV]; simp
  have hbV : Below w.heap.size w V := by rw [hV]; exact belowA (Below.refl _ _) _
  have HbV := Lib.hid hbV
  have Hk : Hid (∀ W, Below V.heap.size V W → W.cell? ⟨w.heap.size, 0, none⟩ = some (.string x.head.rel) ∧ W.cell? ⟨w.heap.size, 1, none⟩ = some (a.v) ∧ W.cell? ⟨w.heap.size, 2, none⟩ = some (.int .i64 x.agg) ∧ W.cell? ⟨w.heap.size, 3, none⟩ = some (.int .i64 x.col) ∧ W.cell? ⟨w.heap.size, 4, none⟩ = some (b.v) ∧ W.cell? ⟨w.heap.size, 5, none⟩ = some (.int .i64 x.pos)) := fun W hW => facts6 ((hW.block _ (by omega)).trans hr0)
  have K27 : Hid ((Tryz.prog.info? 27).map (·.size) = some (ruleC x a b).length) := by show _ = some 6; kernel_rfl
  have HRA : Hid (∀ W, Below V.heap.size V W → RuleAt d W W.heap.size x a b) := fun W hW => (hx.keep hbV).keep hW
  have HBd := Lib.hid (fun (W : World) (hW : Below V.heap.size V W) => bound_any (HRA.out W hW) hsz hbn)
  have HSz := Lib.hid hsz
  obtain ⟨P, HP⟩ : ∃ P : Ending → World → Prop, Hid (P = UnPost x w) := ⟨_, rfl⟩
  rw [← HP.out]
  clear hx hV hr0 hbV hsz hbn
  go_enter Tryz.func17, Tryz.ntmps17
  go_wp2_with (rw [HVe.out])
  have hq1 := Below.refl V.heap.size V
  go_region_held3 (fun W => W.cell? ⟨w.heap.size, 0, none⟩ = some (.string x.head.rel) ∧ W.cell? ⟨w.heap.size, 1, none⟩ = some (a.v) ∧ W.cell? ⟨w.heap.size, 2, none⟩ = some (.int .i64 x.agg) ∧ W.cell? ⟨w.heap.size, 3, none⟩ = some (.int .i64 x.col) ∧ W.cell? ⟨w.heap.size, 4, none⟩ = some (b.v) ∧ W.cell? ⟨w.heap.size, 5, none⟩ = some (.int .i64 x.pos))
    (first
      | (refine Hk.out _ ?_; (repeat (first | with_reducible exact Below.refl _ _ | with_reducible assumption | with_reducible refine Below.drew ?_ | with_reducible refine belowA ?_ _)); done)
      | go_keep)
    ((first
      | (go_at_call 45
         refine (HBd.out V.drew (Below.refl _ _).drew).mono ?_
         rintro e w1 ⟨g, S, M, rfl, hS1, hbd1, hb1⟩
         have hq2 : Below V.heap.size V w1 := ((Below.refl V.heap.size V).drew).trans hb1
         have HS1 := Lib.hid hS1
         have HBd1 := Lib.hid hbd1
         clear hb1 hS1 hbd1)
      | (go_at_call 36
         refine (sieve_any d g S M false x a b w1 HS1.out (HRA.out w1 hq2) HSz.out).mono ?_
         rintro e w2 ⟨A, m, c, rfl, hs2, hb2⟩
         have hq3 : Below V.heap.size V w2 := hq2.trans (hb2.mono hq2.size)
         have HE : Hid (UnPost x w (.returned (.slice A m c)) w2) := ⟨S, A, m, c, rfl, HBd1.out, hs2, HbV.out.trans (hq3.mono HbV.out.size)⟩
         clear hs2 hb2)))
  all_goals
    go_wp2_with fail
    rw [HP.out]
    exact HE.out
end Go.Proofs.YtfklheagafffmaaGreatDoor

namespace Go.Proofs.YtfklheagafffmaaGreatDoor
open Go.RowKit
def al9 : ByteArray := ⟨#[112, 40, 88, 41, 32, 58, 45, 32, 89, 32, 60, 32, 88, 44, 32, 113, 40, 89, 41, 44, 32, 88, 32, 61, 32, 89, 32, 43, 32, 49, 46]⟩
def al9L : List UInt8 := [112, 40, 88, 41, 32, 58, 45, 32, 89, 32, 60, 32, 88, 44, 32, 113, 40, 89, 41, 44, 32, 88, 32, 61, 32, 89, 32, 43, 32, 49, 46]
def al9Y : GRule := (readP al9L).1
def al9U : List ByteArray := posV al9Y.body ++ ((al9Y.body[2]?).map varsL).getD []
theorem al9_read : ((readP al9L).2.2, orderK al9Y.body, al9Y.body.length, decide ((ruleT al9Y).length ≤ 1500)) = (0, [1, 2, 0], 3, true) := by kernel_rfl
theorem al9_bound : ((al9Y.body[2]?).any (fun z => setsB (posV al9Y.body) z), al9Y.body.all (fun x => !setsB al9U x), (sieveL al9Y al9U false).isEmpty, al9Y.body.all (fun x => !(decide (x.k = 3)) || x.atom.args.isEmpty)) = (true, true, true, true) := by kernel_rfl
theorem al9_list : al9.toList = al9L := toList_mk _
theorem al9_un {S : List ByteArray} (h : BoundTo al9Y.body (posV al9Y.body) S) : sieveL al9Y S false = [] := by
  have hb := al9_bound
  simp only [Prod.mk.injEq] at hb
  obtain ⟨h1, h2, h3, h4⟩ := hb
  have hU : BoundTo al9Y.body (posV al9Y.body) al9U := by
    unfold al9U at h2 ⊢
    cases hz : al9Y.body[2]? with
    | none => rw [hz] at h1; cases h1
    | some z =>
      rw [hz] at h1 h2
      refine .step (List.mem_of_getElem? hz) h1 (.stop fun x hx => ?_)
      have := List.all_eq_true.1 h2 x hx
      simpa using this
  have hc : CmpBare al9Y.body := fun x hx hk => by
    have := List.all_eq_true.1 h4 x hx
    simp only [hk, decide_true, Bool.not_true, Bool.false_or, List.isEmpty_iff] at this
    exact this
  rw [sieveL_congr (bound_same hc (fun _ => Iff.rfl) h hU)]
  exact List.isEmpty_iff.1 h3
def Al9Post (y : GRule) (w : World) (e : Ending) (w' : World) : Prop := Below w.heap.size w w' ∧ ∃ (d : Nat) (a b : Hd) (at_ : Nat), e = .returned (.tuple #[.agg (ruleC y a b).toArray, .int .i64 at_, .nilIface]) ∧ RuleAt d w' w'.heap.size y a b
theorem al9_calls (w : World) (hW : ParW w) : Calls Tryz.prog 25 #[.string al9] w (Al9Post al9Y w) := by
  refine (readRule_any al9 (by decide) w hW).mono ?_
  rintro e w1 ⟨hb, d, a, b, rfl, ha⟩
  have hr := al9_read
  simp only [Prod.mk.injEq] at hr
  have h0 := hr.1
  rw [← al9_list] at h0
  have hy : al9Y = (readP al9.toList).1 := by rw [al9_list]; rfl
  refine ⟨hb, d, a, b, (readP al9.toList).2.1, ?_, ?_⟩
  · rw [h0, hy]; rfl
  · rw [hy]; exact ha.mono' (Nat.le_refl _) (kept_up _ _ _)
theorem alive9_any (w : World) (hW : ParW w) : Calls Tryz.prog 6 #[] w (RetBool true w) := by
  have HC := Lib.hid (al9_calls w hW)
  have hr := al9_read
  simp only [Prod.mk.injEq, decide_eq_true_eq] at hr
  obtain ⟨-, ho, hl, ht⟩ := hr
  unfold al9 at HC
  clear hW
  generalize hY : al9Y = y at HC
  rw [hY] at ho hl ht
  have HO := Lib.hid (fun (W : World) (d : Nat) (a b : Hd) (h : RuleAt d W W.heap.size y a b) => order_any h ht (by omega))
  have HU := Lib.hid (fun (W : World) (d : Nat) (a b : Hd) (h : RuleAt d W W.heap.size y a b) => unbound_any h ht (by omega))
  rw [ho] at HO
  have HUn : Hid (∀ S, BoundTo y.body (posV y.body) S → sieveL y S false = []) := fun S h => by rw [← hY] at h ⊢; exact al9_un h
  clear ho hl ht hY
  go_enter Tryz.func6, Tryz.ntmps6
  go_wp2_with fail
  refine HC.out.mono ?_
  rintro e w1 ⟨hb, d, a, b, at_, rfl, hra⟩
  obtain ⟨V, hV⟩ : ∃ V, V = w1.alloc (.cells (ruleC y a b).toArray 27) := ⟨_, rfl⟩
  have HVe := Lib.hid hV.symm
  have hr0 : V.heap[w1.heap.size]? = some (.cells (ruleC y a b).toArray 27 (0, 0)) := by rw [hV]; exact heapNew rfl
  have hbV : Below w1.heap.size w1 V := by rw [hV]; exact belowA (Below.refl _ _) _
  have hgl := (Array.getElem?_eq_some_iff.1 hr0).1
  have HRow : Hid (∀ W, Below V.heap.size V W → ∀ j v, (ruleC y a b)[j]? = some v → W.cell? ⟨w1.heap.size, 0 + j, none⟩ = some v) := fun W hW => row_cells ((hW.block _ hgl).trans hr0)
  have HRA : Hid (∀ W, Below V.heap.size V W → RuleAt d W W.heap.size y a b) := fun W hW => (hra.keep hbV).keep hW
  have K27 : Hid ((Tryz.prog.info? 27).map (·.size) = some (ruleC y a b).length) := by show _ = some 6; kernel_rfl
  have HbV : Hid (Below w.heap.size w V) := hb.trans (hbV.mono hb.size)
  have HO1 := Lib.hid (HO.out V d a b (HRA.out V (Below.refl _ _)))
  have HR0 := Lib.hid (HRow.out V (Below.refl _ _))
  clear hb hra hV hr0 hbV HC HO
  go_wp2_with (first
    | rw [HVe.out]
    | refine wpList_load_at w1.heap.size 0 (ruleC y a b) _ HR0.out Tryz.underlying27 rfl K27.out rfl rfl ?_)
  refine HO1.out.mono ?_
  rintro e w2 ⟨A1, c1, rfl, ho1, hb2⟩
  have hb3 : Below w2.heap.size w2 (w2.alloc (.cells #[.int .i64 1, .int .i64 2, .int .i64 0] 3)) := belowA (Below.refl _ _) _
  have hbV3 : Below V.heap.size V (w2.alloc (.cells #[.int .i64 1, .int .i64 2, .int .i64 0] 3)) := hb2.trans (hb3.mono hb2.size)
  have hq : SliceIs Enc.int (w2.alloc (.cells #[.int .i64 1, .int .i64 2, .int .i64 0] 3)) (w2.alloc (.cells #[.int .i64 1, .int .i64 2, .int .i64 0] 3)).heap.size (some ⟨w2.heap.size, 0, none⟩) 3 3 [1, 2, 0] :=
    SliceIs.of_block (fun n => [.int .i64 n]) (fun _ => rfl) (Go.heap_alloc_new w2 _) rfl (by simp [reachN]) (fun x hx => ⟨rfl, fits_sm (by simp at hx; omega)⟩)
  have hp : SliceIs Enc.int w2 w2.heap.size A1 3 c1 [1, 2, 0] := ints_is ho1 rfl (by omega) (fun k hk => fits_sm (by simp [intL] at hk; omega))
  have HI := Lib.hid (ints_eq _ _ _ _ _ _ _ _ (hp.keep hb3) hq)
  obtain ⟨W3, hW3⟩ : ∃ W3, W3 = w2.alloc (.cells #[.int .i64 1, .int .i64 2, .int .i64 0] 3) := ⟨_, rfl⟩
  have HW3 := Lib.hid hW3.symm
  rw [← hW3] at HI hbV3
  have HB3 := Lib.hid hbV3
  have i3 : ([1, 2, 0] : List Nat).length = 3 := rfl
  clear ho1 hb2 hb3 hbV3 hq hp HO1 hW3
  go_wp2_with (rw [HW3.out])
  refine HI.out.mono ?_
  rintro e w4 ⟨rfl, hb4⟩
  have hbV4 : Below V.heap.size V w4 := HB3.out.trans (hb4.mono HB3.out.size)
  have HR4 := Lib.hid (HRow.out w4 hbV4)
  have HU4 := Lib.hid (HU.out w4 d a b (HRA.out w4 hbV4))
  have HB4 := Lib.hid hbV4
  clear hb4 hbV4 HI HU
  go_wp2_with (refine wpList_load_at w1.heap.size 0 (ruleC y a b) _ HR4.out Tryz.underlying27 rfl K27.out rfl rfl ?_)
  refine HU4.out.mono ?_
  rintro e w5 ⟨S, A5, m5, c5, rfl, hbd5, hs5, hb5⟩
  obtain rfl : m5 = 0 := by have := hs5.1; rw [HUn.out S hbd5] at this; exact this.symm
  have HE : Hid (Below w.heap.size w w5) := HbV.out.trans ((HB4.out.trans (hb5.mono HB4.out.size)).mono HbV.out.size)
  clear hbd5 hs5 hb5 HU4
  go_wp2_with fail
  go_ret
  exact ⟨rfl, HE.out⟩
end Go.Proofs.YtfklheagafffmaaGreatDoor

namespace Go.Proofs.YtfklheagafffmaaGreatDoor
open Go.RowKit
theorem right_bare {x : GRule} (h : rightRule x = true) : CmpBare x.body := by
  intro y hy hk
  unfold rightRule at h
  simp only [Bool.and_eq_true] at h
  have h1 := List.all_eq_true.1 h.2.2.2 y hy
  unfold rightLit at h1
  rw [if_neg (by omega)] at h1
  simp only [Bool.and_eq_true] at h1
  have h2 := h1.2.1
  unfold cmpB2 at h2
  simp only [Bool.and_eq_true, decide_eq_true_eq, List.length_eq_zero_iff] at h2
  first | exact h2.2.1 | exact h2.1.2 | exact h2.2.2 | (obtain ⟨-, h3, -⟩ := h2; exact h3) | simp_all
end Go.Proofs.YtfklheagafffmaaGreatDoor
