/- My own texts SfOrs, as far as this claim needs them. -/
import Derived.Test.YtfklheagafffmaaGreatDoorZo9
import Derived.Test.YtfklheagafffmaaGreatDoorZo12
import Derived.Test.YtfklheagafffmaaGreatDoorZo14
import Derived.Test.YtfklheagafffmaaGreatDoorZo28
import Derived.Test.YtfklheagafffmaaGreatDoorZo34
import Derived.Test.YtfklheagafffmaaGreatDoorZo35
import Derived.Test.YtfklheagafffmaaGreatDoorZo36
import Derived.Test.YtfklheagafffmaaGreatDoorZo37
import Derived.Shelf.RegionOpen
set_option linter.unusedVariables false
set_option linter.unusedSimpArgs false
namespace Go.Proofs.YtfklheagafffmaaGreatDoor
open Go.RowKit Go.Shelf
attribute [local go_sem] Oper.semAt_some
theorem stop8 (x : Int) : ∃ k : Nat, 1 ≤ k ∧ k ≤ 8 ∧ wrap64 (1 + wrap64 ((IntKind.u64.wrap x).tmod 8)) = (k : Int) := by
  have h0 : 0 ≤ IntKind.u64.wrap x := by simp [IntKind.wrap, IntKind.signed, IntKind.bits]; omega
  rw [Int.tmod_eq_emod_of_nonneg h0]
  generalize IntKind.u64.wrap x = q at h0
  refine ⟨(1 + q % 8).toNat, by omega, by omega, ?_⟩
  unfold wrap64; omega
theorem cell_set1 {W : World} {g h i k : Nat} {u : Value} (hne : g ≠ h) : (W.setCell ⟨h, i, none⟩ u).cell? ⟨g, k, none⟩ = W.cell? ⟨g, k, none⟩ := by
  unfold World.cell?
  rw [World.heap_setCells_other' hne]
theorem sz_rule4 {x : GRule} (h : 0 ≤ szR x 400) : (ruleT x).length ≤ 1500 ∧ x.body.length ≤ 400 := by
  have h1 := (szR_all h (by omega)).1
  refine ⟨by unfold ruleT; rw [List.length_append]; exact h1.all, ?_⟩
  unfold szR at h
  have h0 := szA_le x.head 400
  obtain ⟨h2, h3, -⟩ := szB_all _ _ h (by omega)
  have h4 := szA_len h3
  omega
theorem orderF_at (body : List GLit) : ∀ (f : Nat) (S : List ByteArray) (L : List Nat) (i k : Nat) (S' : List ByteArray), (orderF body f S L)[i]? = some (k, S') →
    S' = S ++ (((orderF body f S L).map Prod.fst).take (i + 1)).flatMap (litVars body)
  | 0, S, L, i, k, S', h => by simp [orderF] at h
  | f + 1, S, L, i, k, S', h => by
    rw [orderF] at h ⊢
    cases hn : nextK body S L with
    | none => rw [hn] at h; simp at h
    | some k0 =>
      rw [hn] at h
      dsimp only at h ⊢
      cases i with
      | zero =>
        simp only [List.getElem?_cons_zero, Option.some.injEq, Prod.mk.injEq] at h
        obtain ⟨rfl, rfl⟩ := h
        simp
      | succ i =>
        rw [List.getElem?_cons_succ] at h
        have := orderF_at body f _ _ i k S' h
        rw [this]
        simp
theorem orderF_in (body : List GLit) : ∀ (f : Nat) (S : List ByteArray) (L : List Nat) (k : Nat), k ∈ (orderF body f S L).map Prod.fst → k ∈ L
  | 0, S, L, k, h => by simp [orderF] at h
  | f + 1, S, L, k, h => by
    rw [orderF] at h
    cases hn : nextK body S L with
    | none => rw [hn] at h; simp at h
    | some k0 =>
      rw [hn] at h
      simp only [List.map_cons, List.mem_cons] at h
      rcases h with rfl | h
      · unfold nextK at hn
        rcases Option.or_eq_some_iff.1 hn with h1 | ⟨-, h1⟩ <;> exact List.mem_of_find?_eq_some h1
      · exact List.mem_of_mem_erase (orderF_in body f _ _ k h)
theorem orderK_lt {x : GRule} {k : Nat} (h : k ∈ orderK x.body) : k < x.body.length := List.mem_range.1 (orderF_in _ _ _ _ _ h)
def setL (x : GRule) (k : Nat) : List ByteArray := ((orderK x.body).take k).flatMap (litVars x.body)
theorem setL_at {x : GRule} {i k : Nat} {S : List ByteArray} (h : (orderS x.body)[i]? = some (k, S)) : S = setL x (i + 1) ∧ (orderK x.body)[i]? = some k := by
  refine ⟨?_, by unfold orderK; rw [List.getElem?_map, h]; rfl⟩
  have := orderF_at _ _ _ _ _ _ _ h
  rw [List.nil_append] at this
  exact this
theorem setL_step {x : GRule} {i k : Nat} {y : GLit} (h : (orderK x.body)[i]? = some k) (hy : x.body[k]? = some y) : setL x (i + 1) = setL x i ++ varsL y := by
  unfold setL
  rw [List.take_add_one, h, List.flatMap_append]
  simp [litVars_at hy]
theorem setL_len {x : GRule} (hx : ∀ y ∈ x.body, (insideL y).length ≤ 1500) (i : Nat) : (setL x i).length ≤ 1500 * i := by
  unfold setL
  have h : ∀ l : List Nat, (l.flatMap (litVars x.body)).length ≤ 1500 * l.length := by
    intro l
    induction l with
    | nil => simp
    | cons k l ih =>
      have : (litVars x.body k).length ≤ 1500 := by
        unfold litVars
        cases hk : x.body[k]? with
        | none => simp
        | some y => exact Nat.le_trans (varsL_le y) (hx y (List.mem_of_getElem? hk))
      simp only [List.flatMap_cons, List.length_append, List.length_cons]
      omega
  have h1 := h ((orderK x.body).take i)
  rw [List.length_take] at h1
  omega
theorem Out.softN {S : List Nat} {w0 W W' : World} {N : Nat} (h : Out S w0 W) (hs : SoftN w0.heap.size N W W') : Out S w0 W' :=
  ⟨hs.os.trans h.os, hs.tape.trans h.tape, hs.output.trans h.output, Nat.le_trans h.size hs.size, fun b hb hS =>
    ((hs.same b _ (Array.getElem?_eq_getElem (by have := h.size; omega)) (.inl hb)).trans (Array.getElem?_eq_getElem (by have := h.size; omega)).symm).trans (h.block b hb hS)⟩
theorem strs_out {w w' : World} {A : Option Addr} {n c : Nat} {l : List ByteArray} {T : List Nat} (h : SliceIs Enc.str w w.heap.size A n c l) (ho : Out T w w') (hA : ∀ ad, A = some ad → ad.block ∉ T) : SliceIs Enc.str w' w'.heap.size A n c l := by
  obtain ⟨h1, h2, h3, h4, h5⟩ := h
  refine ⟨h1, h2, h3, h4, ?_⟩
  rcases h5 with h5 | ⟨g, off, rfl, hg, hc⟩
  · exact .inl h5
  · refine .inr ⟨g, off, rfl, Nat.lt_of_lt_of_le hg ho.size, fun t x hx => ?_⟩
    obtain ⟨cs, hok, hcell⟩ := hc t x hx
    have hb := ho.block g hg (hA _ rfl)
    exact ⟨cs, hok, fun u v hv => by have := hcell u v hv; unfold World.cell? at this ⊢; dsimp only at this ⊢; rw [hb]; exact this⟩
set_option maxRecDepth 100000 in
set_option maxHeartbeats 16000000 in
theorem safeOrders_walk (d : Nat) (x : GRule) (aA : Option Addr) (an ac : Nat) (b_A : Option Addr) (b_n b_c : Nat) (stop : Int) (w : World) (hx : RuleAt d w w.heap.size x ⟨aA, an, ac⟩ ⟨b_A, b_n, b_c⟩) (hW : ParW w) :
    Calls Tryz.prog 3 #[.agg (ruleC x ⟨aA, an, ac⟩ ⟨b_A, b_n, b_c⟩).toArray, .int .i64 stop] w (RetBool true w) := by
  have HX0 := Lib.hid hx
  obtain ⟨V, hV⟩ : ∃ V, V = ((w.alloc (.cells (ruleC x ⟨aA, an, ac⟩ ⟨b_A, b_n, b_c⟩).toArray 27)).alloc (.cells #[.int .i64 stop] 3)).alloc (.cells #[.bool false] 4) := ⟨_, rfl⟩
  have HVe := Lib.hid hV.symm
  have hr0 : V.heap[w.heap.size]? = some (.cells (ruleC x ⟨aA, an, ac⟩ ⟨b_A, b_n, b_c⟩).toArray 27 (0, 0)) := by rw [hV]; exact heapOld (heapOld (heapNew rfl))
  have hr1 : V.heap[w.heap.size + 1]? = some (.cells #[.int .i64 stop] 3 (0, 0)) := by rw [hV]; exact heapOld (heapNew (by simp))
  have hr2 : V.heap[w.heap.size + 1 + 1]? = some (.cells #[.bool false] 4 (0, 0)) := by rw [hV]; exact heapNew (by simp)
  have hbV : Below w.heap.size w V := by rw [hV]; exact belowA (belowA (belowA (Below.refl _ _) _) _) _
  have hzV : V.heap.size = w.heap.size + 3 := by rw [hV]; simp
  have HbV := Lib.hid hbV
  have HRow : Hid (∀ W, Below V.heap.size V W → W.heap[w.heap.size]? = some (.cells (ruleC x ⟨aA, an, ac⟩ ⟨b_A, b_n, b_c⟩).toArray 27 (0, 0))) := fun W hW => (hW.block _ (by omega)).trans hr0
  have HR1 : Hid (∀ W, Below V.heap.size V W → W.heap[w.heap.size + 1]? = some (.cells #[.int .i64 stop] 3 (0, 0))) := fun W hW => (hW.block _ (by omega)).trans hr1
  have HR2 : Hid (∀ W, Below V.heap.size V W → W.heap[w.heap.size + 1 + 1]? = some (.cells #[.bool false] 4 (0, 0))) := fun W hW => (hW.block _ (by omega)).trans hr2
  have HRA : Hid (∀ W, Below V.heap.size V W → RuleAt d W W.heap.size x ⟨aA, an, ac⟩ ⟨b_A, b_n, b_c⟩) := fun W hWb => (hx.keep hbV).keep hWb
  have HPW : Hid (∀ W, Below V.heap.size V W → ParW W) := fun W hWb => hW.on (hbV.trans (hWb.mono hbV.size))
  have K27 : Hid ((Tryz.prog.info? 27).map (·.size) = some (ruleC x ⟨aA, an, ac⟩ ⟨b_A, b_n, b_c⟩).length) := by show _ = some 6; kernel_rfl
  have HAl := Lib.hid (alive9_any V (HPW.out V (Below.refl _ _)))
  have hzz : w.heap.size + 3 ≤ V.heap.size := by omega
  clear hx hW hV hr0 hr1 hr2 hbV hzV
  refine (callsIn_wide (n := 8)).1 ?_
  refine callsIn_of_wp_marks Tryz.func3 rfl trivial ?_ rfl
  simp only [Tryz.ntmps3, List.size_toArray, List.length_cons, List.length_nil, Nat.reduceAdd, Nat.reduceSub, Array.replicate_succ, Array.replicate_zero, List.push_toArray, List.append_toArray, List.nil_append, List.cons_append]
  refine wpIn_wide.2 ?_
  go_wp2_with (rw [HVe.out])
  refine HAl.out.mono ?_
  rintro e w1 ⟨rfl, hb1⟩
  have HB1 := Lib.hid hb1
  have HSz := Lib.hid (szRule_any d x ⟨aA, an, ac⟩ ⟨b_A, b_n, b_c⟩ 400 w1 (HRA.out w1 hb1) (by omega) (by omega))
  have HL1 := Lib.hid (row_cells (HRow.out w1 hb1))
  clear hb1 HAl
  go_wp2_with (refine wpList_load_at w.heap.size 0 (ruleC x ⟨aA, an, ac⟩ ⟨b_A, b_n, b_c⟩) _ HL1.out Tryz.underlying27 rfl K27.out rfl rfl ?_)
  refine HSz.out.mono ?_
  rintro e w2 ⟨rfl, hb2⟩
  have HB2 : Hid (Below V.heap.size V w2) := HB1.out.trans (hb2.mono HB1.out.size)
  clear hb2 HSz
  obtain ⟨R, HRe⟩ : ∃ R, Hid (szR x 400 = R) := ⟨_, rfl⟩
  rw [HRe.out]
  by_cases hs : R < 0
  · have r2 := HR2.out w2 HB2.out
    have cr : w2.cell? ⟨w.heap.size + 1 + 1, 0, none⟩ = some (.bool false) := (cell_of_row _ _ 0 _ _ _ r2).trans rfl
    have cf : w2.frozen? ⟨w.heap.size + 1 + 1, 0, none⟩ = false := frozen_of_row _ _ _ _ _ r2
    have HE2 : Hid (Below w.heap.size w w2) := HbV.out.trans (HB2.out.mono HbV.out.size)
    clear r2
    go_wp2_with fail
    exact ⟨.bool true, by simp [results, Tryz.results3, go_sem, cr], rfl, HE2.out.setCell (by show w.heap.size ≤ w.heap.size + 1 + 1; omega) _⟩
  obtain ⟨hrt, hbl⟩ := sz_rule4 (x := x) (by rw [HRe.out]; omega)
  have HRT := Lib.hid hrt
  have HBL := Lib.hid hbl
  have HSm := Lib.hid (szR_all (x := x) (l := 400) (by rw [HRe.out]; omega) (by omega)).1
  have HCp := Lib.hid (copyRule_any d x ⟨aA, an, ac⟩ ⟨b_A, b_n, b_c⟩ w2 (HRA.out w2 HB2.out) HSm.out)
  have HL2 := Lib.hid (row_cells (HRow.out w2 HB2.out))
  clear hrt hbl
  have e0 : decide (R < 0) = false := by simp; omega
  go_wp2_with (first | rw [e0] | refine wpList_load_at w.heap.size 0 (ruleC x ⟨aA, an, ac⟩ ⟨b_A, b_n, b_c⟩) _ HL2.out Tryz.underlying27 rfl K27.out rfl rfl ?_)
  refine HCp.out.mono ?_
  rintro e w3 ⟨a2, ⟨b2A, b2n, b2c⟩, rfl, hra3, hb3⟩
  have HMA3 : Hid (∀ W, Out [w.heap.size + 1] w3 W → RuleAt d W W.heap.size x a2 ⟨b2A, b2n, b2c⟩) := fun W hW => hra3.mono' hW.size (fun b hb cs t fr h hc => by
    obtain ⟨h1, h2⟩ := sans_in h hc
    have h3 := HB2.out.size
    exact (hW.block b hb (fun hb' => h1 (by simp at hb'; subst hb'; rw [List.mem_range]; omega))).trans h2)
  have HRA3 : Hid (RuleAt d w3 w3.heap.size x a2 ⟨b2A, b2n, b2c⟩) := hra3.mono' (Nat.le_refl _) (kept_up _ _ _)
  have HB3 : Hid (Below V.heap.size V w3) := HB2.out.trans (hb3.mono HB2.out.size)
  obtain ⟨U, hU⟩ : ∃ U, U = w3.alloc (.cells (ruleC x a2 ⟨b2A, b2n, b2c⟩).toArray 35) := ⟨_, rfl⟩
  have HUe := Lib.hid hU.symm
  have HbU : Hid (Below w3.heap.size w3 U) := by show Below _ _ _; rw [hU]; exact belowA (Below.refl _ _) _
  have hbU : Below w3.heap.size w3 U := by rw [hU]; exact belowA (Below.refl _ _) _
  have hrU : U.heap[w3.heap.size]? = some (.cells (ruleC x a2 ⟨b2A, b2n, b2c⟩).toArray 35 (0, 0)) := by rw [hU]; exact heapNew rfl
  have hzU : U.heap.size = w3.heap.size + 1 := by rw [hU]; simp
  have HBU : Hid (Below V.heap.size V U) := HB3.out.trans (hbU.mono HB3.out.size)
  have HMA : Hid (∀ W, Below U.heap.size U W → RuleAt d W W.heap.size x a2 ⟨b2A, b2n, b2c⟩) := fun W hW => (HRA3.out.keep hbU).keep hW
  have HMR : Hid (∀ W, Below U.heap.size U W → W.heap[w3.heap.size]? = some (.cells (ruleC x a2 ⟨b2A, b2n, b2c⟩).toArray 35 (0, 0))) := fun W hW => (hW.block _ (by omega)).trans hrU
  have HOr := Lib.hid (refOrder_any d x a2 ⟨b2A, b2n, b2c⟩ U (HMA.out U (Below.refl _ _)) HRT.out (by have := HBL.out; omega))
  have HLU := Lib.hid (row_cells (HMR.out U (Below.refl _ _)))
  have hz3 := HB3.out.size
  clear hra3 hb3 HCp hU hbU hrU
  go_wp2_with (first
    | (refine wpList_new rfl rfl 35 5 (.tmp 17) rfl rfl rfl rfl _ (ruleC x a2 ⟨b2A, b2n, b2c⟩).toArray rrule_info rfl (rule_oneS _ _ _) rfl rfl ?_; rw [HUe.out])
    | refine wpList_load_at w3.heap.size 0 (ruleC x a2 ⟨b2A, b2n, b2c⟩) _ HLU.out Tryz.underlying35 rfl (rrule_size _ _ _) rfl rfl ?_)
  refine HOr.out.mono ?_
  rintro e w4 ⟨A4, c4, rfl, ho4, hb4⟩
  have hz4 := hb4.size
  obtain ⟨L, HL⟩ : ∃ L, Hid (orderK x.body = L) := ⟨_, rfl⟩
  rw [HL.out] at ho4 ⊢
  obtain ⟨on, Hon⟩ : ∃ on, Hid (L.length = on) := ⟨_, rfl⟩
  rw [Hon.out] at ho4 ⊢
  obtain ⟨st, hst1, hst2, hst⟩ := stop8 stop
  have HB4 : Hid (Below V.heap.size V w4) := HBU.out.trans (hb4.mono HBU.out.size)
  have hVw := HbV.out.size
  have HR4 := Lib.hid (HRow.out w4 HB4.out)
  have HMR4 := Lib.hid (HMR.out w4 hb4)
  have r1 := HR1.out w4 HB4.out
  have HR24 := Lib.hid (HR2.out w4 HB4.out)
  obtain ⟨Y1, hY1⟩ : ∃ Y1, Y1 = w4.alloc (.cells #[.slice A4 on c4] 37) := ⟨_, rfl⟩
  have HY1e := Lib.hid hY1.symm
  have hbY1 : Below w4.heap.size w4 Y1 := by rw [hY1]; exact belowA (Below.refl _ _) _
  have hzY1 : Y1.heap.size = w4.heap.size + 1 := by rw [hY1]; simp
  have hwY1 : Y1.heap[w4.heap.size]? = some (.cells #[.slice A4 on c4] 37 (0, 0)) := by rw [hY1]; exact heapNew rfl
  have r1Y := (hbY1.block _ (Array.getElem?_eq_some_iff.1 r1).1).trans r1
  have q1 : Y1.cell? ⟨w.heap.size + 1, 0, none⟩ = some (.int .i64 stop) := (cell_of_row _ _ 0 _ _ _ r1Y).trans rfl
  have f1 : Y1.frozen? ⟨w.heap.size + 1, 0, none⟩ = false := frozen_of_row _ _ _ _ _ r1Y
  obtain ⟨Y, hY⟩ : ∃ Y, Y = ((Y1.setCell ⟨w.heap.size + 1, 0, none⟩ (.int .i64 st)).alloc (.cells #[.int .i64 0] 3)).alloc (.cells #[.slice none 0 0] 40) := ⟨_, rfl⟩
  have HYe := Lib.hid hY.symm
  have hoY : Out [w.heap.size + 1] Y1 Y := by rw [hY]; exact (set_out Y1 (w.heap.size + 1) 0 _).trans (Out.of_below (belowA (belowA (Below.refl _ _) _) _) []) (by simp)
  have hzs : (Y1.setCell ⟨w.heap.size + 1, 0, none⟩ (.int .i64 st)).heap.size = Y1.heap.size := World.size_setCell'
  have hzY : Y.heap.size = Y1.heap.size + 2 := by rw [hY, World.size_alloc, World.size_alloc, hzs]
  have HM1 : Hid (Y.heap[w.heap.size + 1]? = some (.cells #[.int .i64 st] 3 (0, 0))) := by show _ = _; rw [hY]; exact heapOld (heapOld (set_zero r1Y))
  have HMN : Hid (Y.heap[Y1.heap.size]? = some (.cells #[.int .i64 0] 3 (0, 0))) := by show _ = _; rw [hY]; exact heapOld (heapNew hzs)
  have HMS : Hid (Y.heap[Y1.heap.size + 1]? = some (.cells #[.slice none 0 0] 40 (0, 0))) := by show _ = _; rw [hY]; exact heapNew (by rw [World.size_alloc, hzs])
  have ho4Y : Out [w.heap.size + 1] w4 Y := (Out.of_below hbY1 _).trans hoY (fun b hb _ => hb)
  have hzVw : w.heap.size + 3 ≤ w3.heap.size := by have := HB3.out.size; omega
  have HM0 : Hid (Y.heap[w.heap.size]? = some (.cells (ruleC x ⟨aA, an, ac⟩ ⟨b_A, b_n, b_c⟩).toArray 27 (0, 0))) := (ho4Y.block _ (by omega) (by simp)).trans HR4.out
  have HM2 : Hid (Y.heap[w.heap.size + 1 + 1]? = some (.cells #[.bool false] 4 (0, 0))) := (ho4Y.block _ (by omega) (by simp)).trans HR24.out
  have HMM : Hid (Y.heap[w3.heap.size]? = some (.cells (ruleC x a2 ⟨b2A, b2n, b2c⟩).toArray 35 (0, 0))) := (ho4Y.block _ (by omega) (by simp; omega)).trans HMR4.out
  have HMW : Hid (Y.heap[w4.heap.size]? = some (.cells #[.slice A4 on c4] 37 (0, 0))) := (hoY.block _ (by omega) (by simp; omega)).trans hwY1
  have ho3Y : Out [w.heap.size + 1] w3 Y := ((Out.of_below HbU.out _).trans (Out.of_below hb4 _) (fun b hb _ => hb)).trans ho4Y (fun b hb _ => hb)
  have HBwY : Hid (Below w.heap.size w Y) := by
    have h1 : Below w.heap.size w w4 := HbV.out.trans (HB4.out.mono hVw)
    exact h1.trans (ho4Y.below (by intro b hb; simp at hb; omega) h1.size)
  have hwO := own_out' ho4 ho4Y (fun b hb hb' => by have := (own_blk ho4 hb).1; simp at hb'; omega)
  have HOwn : Hid (∀ b, (Value.slice A4 on c4).ownBlock = some b → b < w4.heap.size) := fun b hb => (own_blk ho4 hb).2
  have HO3Y := Lib.hid ho3Y
  have HWO := Lib.hid hwO
  have HSt := Lib.hid (stepsF_any Y x ⟨aA, an, ac⟩ ⟨b_A, b_n, b_c⟩)
  have HLY := Lib.hid (row_cells HM0.out)
  have HLok : Hid (∀ k ∈ L, k < x.body.length) := fun k hk => orderK_lt (by rw [HL.out]; exact hk)
  clear hb4 ho4 hY1 hbY1 hwY1 r1 r1Y hY hoY hzs ho4Y ho3Y hwO HR4 HMR4 HR24 HOr
  go_wp2_with (first
    | rw [HY1e.out]
    | rw [HYe.out]
    | refine wpList_load_at w.heap.size 0 (ruleC x ⟨aA, an, ac⟩ ⟨b_A, b_n, b_c⟩) _ HLY.out Tryz.underlying27 rfl K27.out rfl rfl ?_)
  refine HSt.out.mono ?_
  rintro e w5 ⟨rfl, hw5⟩
  have hbw5 : Below Y.heap.size Y w5 := by rw [hw5]; exact belowA (Below.refl _ _) _
  have hg5 : w5.heap[Y.heap.size]? = some (.cells (ruleC x ⟨aA, an, ac⟩ ⟨b_A, b_n, b_c⟩).toArray 27 (0, 0)) := by rw [hw5]; exact heapNew rfl
  have hz5 : w5.heap.size = w4.heap.size + 4 := by rw [hw5]; simp; omega
  have hww5 : Below w.heap.size w w5 := HBwY.out.trans (hbw5.mono HBwY.out.size)
  have HQ := Lib.hid (steps_seq HX0.out hww5 hg5 [w4.heap.size + 1, w4.heap.size + 1 + 1] (by simp; omega) (by intro b hb; simp at hb; omega) (by intro b hb; simp at hb; omega) HRT.out (by have := HBL.out; omega))
  have HO3 : Hid (∀ W, Out [w4.heap.size + 1, w4.heap.size + 1 + 1] w5 W → Out [w.heap.size + 1] w3 W) := fun W hW =>
    (HO3Y.out.trans (Out.of_below hbw5 [w.heap.size + 1]) (fun b hb _ => hb)).trans hW (fun b hb hlt => by exfalso; simp at hb; omega)
  have HBl : Hid (∀ W, Out [w4.heap.size + 1, w4.heap.size + 1 + 1] w5 W → Below w.heap.size w W) := fun W hW => hww5.trans (hW.below (by intro b hb; simp at hb; omega) hww5.size)
  have HRw : Hid (∀ W, Out [w4.heap.size + 1, w4.heap.size + 1 + 1] w5 W → W.heap[w.heap.size]? = some (.cells (ruleC x ⟨aA, an, ac⟩ ⟨b_A, b_n, b_c⟩).toArray 27 (0, 0)) ∧ W.heap[w.heap.size + 1]? = some (.cells #[.int .i64 st] 3 (0, 0)) ∧ W.heap[w.heap.size + 1 + 1]? = some (.cells #[.bool false] 4 (0, 0)) ∧
      W.heap[w3.heap.size]? = some (.cells (ruleC x a2 ⟨b2A, b2n, b2c⟩).toArray 35 (0, 0)) ∧ W.heap[w4.heap.size]? = some (.cells #[.slice A4 on c4] 37 (0, 0))) := fun W hW => by
    have hk : ∀ b, b < Y.heap.size → b ≠ w4.heap.size + 1 → b ≠ w4.heap.size + 1 + 1 → W.heap[b]? = Y.heap[b]? := fun b h1 h2 h3 => (hW.block b (by omega) (by simp; omega)).trans (hbw5.block b h1)
    exact ⟨(hk _ (by omega) (by omega) (by omega)).trans HM0.out, (hk _ (by omega) (by omega) (by omega)).trans HM1.out, (hk _ (by omega) (by omega) (by omega)).trans HM2.out, (hk _ (by omega) (by omega) (by omega)).trans HMM.out, (hk _ (by omega) (by omega) (by omega)).trans HMW.out⟩
  have HWn : Hid (∀ W, Out [w4.heap.size + 1, w4.heap.size + 1 + 1] w5 W → SliceIs Enc.int W W.heap.size A4 on c4 (intL L)) := fun W hW =>
    ints_is (own_out' (own_below HWO.out hbw5) hW (fun b hb hm => by have := HOwn.out b hb; simp at hm; omega)) (by simp [intL, Hon.out]) (by have := orderK_len x.body; rw [HL.out, Hon.out] at this; have := HBL.out; omega) (intL_fits HLok.out (by have := HBL.out; omega))
  have hn5 : w5.heap[w4.heap.size + 1]? = some (.cells #[.int .i64 0] 3 (0, 0)) := (hbw5.block _ (by omega)).trans (by rw [← hzY1]; exact HMN.out)
  have hs5 : w5.heap[w4.heap.size + 1 + 1]? = some (.cells #[.slice none 0 0] 40 (0, 0)) := (hbw5.block _ (by omega)).trans (by rw [← hzY1]; exact HMS.out)
  have HSz : Hid (∀ y ∈ x.body, (insideL y).length ≤ 1500) := fun y hy => by
    obtain ⟨i, hi⟩ := List.mem_iff_getElem?.1 hy
    have h1 := flatMap_take (f := insideL) hi
    have h2 := flatMap_len x.body insideL (i + 1)
    rw [h1, List.length_append] at h2
    have h3 := HRT.out
    unfold ruleT at h3
    rw [List.length_append] at h3
    omega
  have HSok : Hid (∀ i, ∀ s ∈ setL x i, s.size ≤ reachN) := fun i s hs => by
    unfold setL at hs
    obtain ⟨k, -, hk⟩ := List.mem_flatMap.1 hs
    cases hb : x.body[k]? with
    | none => unfold litVars at hk; rw [hb] at hk; simp at hk
    | some y =>
      have hk2 : s ∈ varsL y := by unfold litVars at hk; rw [hb] at hk; exact hk
      have hra := HRA3.out
      have hkl := (List.getElem?_eq_some_iff.1 hb).1
      obtain ⟨bb, o, y', cs, -, -, hy', ⟨a', p', q', rfl, hL⟩, -⟩ := hra.body.cells_at (i := k) (by have : x.body.length = _ := hra.body.1; omega)
      obtain rfl : y = y' := by have := hy'.out; rw [hb] at this; simpa using this
      obtain ⟨t, ht, rfl, -⟩ := varsL_has.1 hk2
      exact (inside_ok hL t ht).1
  have HSiv : Hid (∀ S, ∀ s ∈ sieveL x S true, s.size ≤ reachN) := fun S s hs => by
    have hs2 := (List.mem_filter.1 hs).1
    obtain ⟨t, ht, rfl, -⟩ : ∃ t ∈ ruleT x, s = t.x ∧ t.x.toList.isEmpty = false := by
      have := putL_has.1 hs2; simpa using this
    exact (rule_ok HX0.out t ht).1
  have HSil : Hid (∀ S, (sieveL x S true).length ≤ 1500) := fun S => Nat.le_trans (List.length_filter_le _ _) (Nat.le_trans (putL_le0 _) HRT.out)
  have hon : on ≤ 400 := by have := orderK_len x.body; rw [HL.out, Hon.out] at this; have := HBL.out; omega
  have HLt0 : Hid (w.heap.size < w4.heap.size) := by show _ < _; omega
  have HLt4 : Hid (w.heap.size + 1 + 1 < w4.heap.size) := by show _ < _; omega
  have HLt5 : Hid (w.heap.size + 1 + 1 < w5.heap.size) := by show _ < _; omega
  have HzY := Lib.hid hzY
  have HzY1 := Lib.hid hzY1
  have Hz5 := Lib.hid hz5
  clear hbw5 hg5 hw5 HSt HM0 HM1 HM2 HMM HMW HMN HMS HY1e HYe HLY hzY hzY1 hz5 q1 f1
  go_wp2_with fail
  have hz5 := Hz5.out
  refine (wpIn_wide (n := 8)).1 (range_law3 (hg := rfl) (eg := enters_of Tryz.func32 (by kernel_rfl) rfl) (hseq := HQ.out) (hb0 := Below.refl _ _) ?hS (hps := fun _ => rfl)
    (I := fun N pre W => pre.length < st ∧ Hid (Out [w4.heap.size + 1, w4.heap.size + 1 + 1] w5 W) ∧ W.heap[w4.heap.size + 1]? = some (.cells #[.int .i64 (pre.length : Nat)] 3 (0, 0)) ∧
      (∃ A c, W.heap[w4.heap.size + 1 + 1]? = some (.cells #[.slice A (setL x pre.length).length c] 40 (0, 0)) ∧ Hid (W.ownsRow N 9 1 (.slice A (setL x pre.length).length c) (setL x pre.length).length ((setL x pre.length).flatMap strC))) ∧ w5.heap.size ≤ N)
    (Ix := fun cd N pre W => cd = .exit 0 ∧ pre.length = st ∧ pre.length ≤ on ∧ Hid (Out [w4.heap.size + 1, w4.heap.size + 1 + 1] w5 W) ∧ W.heap[w4.heap.size + 1]? = some (.cells #[.int .i64 (pre.length : Nat)] 3 (0, 0)))
    ?hI ?hIx ?h0 ?round ?done ?stop)
  case hS => intro b hb; simp at hb; omega
  case hI =>
    rintro N pre W W' ⟨h1, h2, h3, ⟨A, c, h5, h6⟩, h8⟩ hs'
    exact ⟨h1, h2.out.softN hs', hs'.row h3 (.inl (by omega)), ⟨A, c, hs'.row h5 (.inl (by omega)), hs'.own h6.out (Nat.le_refl _)⟩, h8⟩
  case hIx =>
    rintro cd N pre W W' ⟨h1, h2, h2', h3, h4⟩ hs'
    exact ⟨h1, h2, h2', h3.out.softN (SoftN.of_soft (N := N) hs'), hs'.row h4⟩
  case h0 =>
    intro N W hs' hN0 _
    exact ⟨by simp; omega, (Out.refl _ _).softN (SoftN.of_soft (N := N) hs'), hs'.row hn5, ⟨none, 0, hs'.row hs5, World.ownsRow_nil _ _ _ _⟩, by omega⟩
  case round =>
    rintro k N pre y Wm W1 K ⟨h1, hIO, h3, ⟨A, c, h5, h6⟩, h8⟩ hbm - hN hN2 hR hK
    have HK := Lib.hid hK
    have hzm := hbm.size
    have hlt : pre.length < on := by
      have h := hR.lt
      rw [← Hon.out, ← HL.out]; unfold orderK; rw [List.length_map]; exact h
    obtain ⟨yk, yA, yn, yc⟩ := y
    obtain ⟨S, hat, -, hvs, hfar⟩ := hR
    obtain ⟨hS, hk⟩ := setL_at hat
    rw [hS] at hvs
    dsimp only at hvs hfar hk
    rw [HL.out] at hk
    have Hpl : Hid ((pre ++ [(yk, (⟨yA, yn, yc⟩ : Hd))]).length = pre.length + 1) := by show _ = _; simp
    obtain ⟨kk, hkk⟩ : ∃ kk, kk = pre.length := ⟨_, rfl⟩
    rw [← hkk] at h1 h3 h5 h6 hlt hvs hk Hpl
    obtain ⟨sn, hsn⟩ : ∃ sn, Hid ((setL x kk).length = sn) := ⟨_, rfl⟩
    rw [hsn.out] at h5 h6
    have HSnE : Hid ((setL x kk).length = sn) := hsn.out
    have HSn : Hid (sn ≤ 1500 * 400) := by show _ ≤ _; rw [← hsn.out]; have := setL_len HSz.out kk; omega
    have Hkk : Hid (L[kk]? = some yk) := hk
    have hyb : yk < x.body.length := HLok.out yk (List.mem_of_getElem? hk)
    -- what holds ahead of the round
    have h3' := (hbm.block _ (Array.getElem?_eq_some_iff.1 h3).1).trans h3
    have h5' := (hbm.block _ (Array.getElem?_eq_some_iff.1 h5).1).trans h5
    have HIO1 : Hid (Out [w4.heap.size + 1, w4.heap.size + 1 + 1] w5 W1) := hIO.out.trans (Out.of_below hbm []) (by simp)
    have HOw1 := Lib.hid (own_below h6.out hbm)
    have HBl6 : Hid (∀ b, (Value.slice A sn c).ownBlock = some b → N ≤ b ∧ b < Wm.heap.size) := fun b hb => own_blk h6.out hb
    have HV1 := Lib.hid hvs
    have HFar := Lib.hid hfar
    have H3 := Lib.hid h3'
    have H5 := Lib.hid h5'
    clear hK hat hS hk hvs hfar h3 h5 h6 h3' h5' hIO HQ hn5 hs5 hkk
    rw [encK_eq]
    dsimp only [Hd.v]
    gi_wp2
    refine HK.out _ _ (Below.refl _ _) (fun W2 hs2 hz2 => ?_)
    clear HK
    have v3 := hs2.row H3.out
    have v5 := hs2.row H5.out
    have HO2 : Hid (Out [w4.heap.size + 1, w4.heap.size + 1 + 1] w5 W2) := HIO1.out.softN (SoftN.of_soft (N := N) hs2)
    have HOw2 := Lib.hid (hs2.own HOw1.out)
    have HV2 : Hid (SliceIs Enc.str W2 W2.heap.size yA yn yc (sieveL x (setL x (kk + 1)) true)) := SliceIs.mono' HV1.out (by omega) (fun b hb cs t fr h _ => hs2.row h)
    obtain ⟨rw0, rw1, rw2, rw3, rw4⟩ := HRw.out W2 HO2.out
    obtain ⟨bw, ow, q', hA4, -, hq', x0, -⟩ := (HWn.out W2 HO2.out).int_at hlt
    obtain rfl : q' = (yk : Int) := by
      have h := hq'.out
      unfold intL at h
      rw [List.getElem?_map, Hkk.out] at h
      simpa using h.symm
    subst hA4
    have cn : W2.cell? ⟨w4.heap.size + 1, 0, none⟩ = some (.int .i64 (kk : Nat)) := (cell_of_row _ _ 0 _ _ _ v3).trans rfl
    have cw : W2.cell? ⟨w4.heap.size, 0, none⟩ = some (.slice (some ⟨bw, ow, none⟩) on c4) := (cell_of_row _ _ 0 _ _ _ rw4).trans rfl
    have z1 : (0 : Int) ≤ (kk : Int) := by omega
    have z2 : (kk : Int) < (on : Int) := by omega
    have z3 : ¬ (on : Int) ≤ (kk : Int) := by omega
    have HR3' := Lib.hid rw3
    have HV5 := Lib.hid v5
    have HV3 := Lib.hid v3
    have HZ2 := Lib.hid hz2
    have mixed : Tryz.prog.follows .mixedOrders = true := by kernel_rfl
    clear rw0 rw1 rw2 rw3 rw4 hq' v3 v5 hs2 hz2 H3 H5 HIO1 HOw1 HV1
    gi_wp2_with fail
    clear cn cw x0 z1 z2 z3
    have hbd : Below W2.heap.size W2 W2.drew := (Below.refl _ _).drew
    have HOd : Hid (Out [w4.heap.size + 1, w4.heap.size + 1 + 1] w5 W2.drew) := HO2.out.trans (Out.of_below hbd []) (by simp)
    have hMr := HMA3.out W2.drew (HO3.out W2.drew HOd.out)
    have hbn : x.body.length = b2n := hMr.body.1
    obtain ⟨bb, o, y, cs, hbA', -, hy, ⟨a', p', q', rfl, hL⟩, hcs⟩ := hMr.body.cells_at (i := yk) (by rw [← hbn]; exact hyb)
    dsimp only at hbA'
    subst hbA'
    obtain ⟨l0, l1, l2, l3, l4, l5, l6, l7, l8, l9, l10, l11, l12, l13, l14, l15, l16, HLC⟩ : ∃ l0 l1 l2 l3 l4 l5 l6 l7 l8 l9 l10 l11 l12 l13 l14 l15 l16, Hid (litC y a' p' q' = [l0, l1, l2, l3, l4, l5, l6, l7, l8, l9, l10, l11, l12, l13, l14, l15, l16]) := ⟨_, _, _, _, _, _, _, _, _, _, _, _, _, _, _, _, _, rfl⟩
    rw [HLC.out] at hcs
    have y0 : W2.cell? ⟨bb, o + yk * 17, none⟩ = some l0 := hcs 0 _ rfl
    have y1 : W2.cell? ⟨bb, o + yk * 17 + 1, none⟩ = some l1 := hcs 1 _ rfl
    have y2 : W2.cell? ⟨bb, o + yk * 17 + 2, none⟩ = some l2 := hcs 2 _ rfl
    have y3 : W2.cell? ⟨bb, o + yk * 17 + 3, none⟩ = some l3 := hcs 3 _ rfl
    have y4 : W2.cell? ⟨bb, o + yk * 17 + 4, none⟩ = some l4 := hcs 4 _ rfl
    have y5 : W2.cell? ⟨bb, o + yk * 17 + 5, none⟩ = some l5 := hcs 5 _ rfl
    have y6 : W2.cell? ⟨bb, o + yk * 17 + 6, none⟩ = some l6 := hcs 6 _ rfl
    have y7 : W2.cell? ⟨bb, o + yk * 17 + 7, none⟩ = some l7 := hcs 7 _ rfl
    have y8 : W2.cell? ⟨bb, o + yk * 17 + 8, none⟩ = some l8 := hcs 8 _ rfl
    have y9 : W2.cell? ⟨bb, o + yk * 17 + 9, none⟩ = some l9 := hcs 9 _ rfl
    have y10 : W2.cell? ⟨bb, o + yk * 17 + 10, none⟩ = some l10 := hcs 10 _ rfl
    have y11 : W2.cell? ⟨bb, o + yk * 17 + 11, none⟩ = some l11 := hcs 11 _ rfl
    have y12 : W2.cell? ⟨bb, o + yk * 17 + 12, none⟩ = some l12 := hcs 12 _ rfl
    have y13 : W2.cell? ⟨bb, o + yk * 17 + 13, none⟩ = some l13 := hcs 13 _ rfl
    have y14 : W2.cell? ⟨bb, o + yk * 17 + 14, none⟩ = some l14 := hcs 14 _ rfl
    have y15 : W2.cell? ⟨bb, o + yk * 17 + 15, none⟩ = some l15 := hcs 15 _ rfl
    have y16 : W2.cell? ⟨bb, o + yk * 17 + 16, none⟩ = some l16 := hcs 16 _ rfl
    obtain ⟨vn, Hvn⟩ : ∃ vn, Hid ((varsL y).length = vn) := ⟨_, rfl⟩
    have hyz := HSz.out y (List.mem_of_getElem? hy.out)
    have hv15 : vn ≤ 1500 := by rw [← Hvn.out]; exact Nat.le_trans (varsL_le y) hyz
    have HIn : Hid (Calls Tryz.prog 11 #[.agg #[l0, l1, l2, l3, l4, l5, l6, l7, l8, l9, l10, l11, l12, l13, l14, l15, l16]] W2.drew (fun e w' => ∃ A6 c6, e = .returned (.slice A6 vn c6) ∧ w'.ownsRow W2.heap.size 9 1 (.slice A6 vn c6) vn ((varsL y).flatMap strC) ∧ Below W2.heap.size W2 w')) := by
      have h := refIn_any d y a' p' q' W2.drew hL hyz
      unfold TextsPost at h
      rw [Hvn.out, HLC.out] at h
      exact h.mono (fun e w' ⟨A, c, h1, h2, h3⟩ => ⟨A, c, h1, h2, hbd.trans h3⟩)
    have HVok : Hid (∀ s ∈ varsL y, s.size ≤ reachN) := fun s hs => by
      obtain ⟨t, ht, rfl, -⟩ := varsL_has.1 hs
      exact (inside_ok hL t ht).1
    have HSt1 : Hid (setL x (kk + 1) = setL x kk ++ varsL y) := setL_step (by rw [HL.out]; exact Hkk.out) hy.out
    have c4 : W2.cell? ⟨w3.heap.size, 4, none⟩ = some (.slice (some ⟨bb, o, none⟩) b2n b2c) := (facts6 HR3'.out).2.2.2.2.1
    have cs2 : W2.cell? ⟨w4.heap.size + 1 + 1, 0, none⟩ = some (.slice A sn c) := (cell_of_row _ _ 0 _ _ _ HV5.out).trans rfl
    have i0 : (0 : Int) ≤ (yk : Int) := by omega
    have i1 : (yk : Int) < (b2n : Int) := by omega
    have hsn := HSn.out
    have hgl2 := (Array.getElem?_eq_some_iff.1 HV5.out).1
    have hNW2 : N ≤ W2.heap.size := by have := HZ2.out; omega
    clear hMr hbn hL hcs hyz hy hbd
    refine region_round (fun a0 a' W => ∃ A6 c6 A9 c9 w6 w9, Hid (Below W2.heap.size W2 w6) ∧ Hid (w9.ownsRow N 9 1 (.slice A9 (sn + vn) c9) (sn + vn) ((setL x kk ++ varsL y).flatMap strC)) ∧ Hid (Below N w6 w9) ∧ Hid (Out (Value.slice A sn c).ownBlock.toList w6 w9) ∧
      Hid (w9.heap[w4.heap.size + 1 + 1]? = some (.cells #[.slice A sn c] 40 (0, 0))) ∧ a' = ((((((((a0.put (some 41) (.slice A sn c)).put (some 42) (.pointer (some ⟨w3.heap.size, 4, none⟩))).put (some 43) (.slice (some ⟨bb, o, none⟩) b2n b2c)).put (some 44) (.int .i64 yk)).put (some 45) (.pointer (some ⟨bb, o + yk * 17, none⟩))).put (some 46) (.agg #[l0, l1, l2, l3, l4, l5, l6, l7, l8, l9, l10, l11, l12, l13, l14, l15, l16])).put (some 47) (.slice A6 vn c6)).put (some 48) (.slice A9 (sn + vn) c9)) ∧ W = w9.setCell ⟨w4.heap.size + 1 + 1, 0, none⟩ (.slice A9 (sn + vn) c9)) mixed rfl ?_ ?_
    · intro QQ hqp hqn
      have HQn := Lib.hid hqn
      clear hqn
      refine wpAnyIn_take (i := 1) (v := .pointer (some ⟨w3.heap.size, 4, none⟩)) rfl rfl (by kernel_rfl) (by kernel_rfl) (by kernel_rfl) (fun _ _ _ h => hqp _ _ _ _ h) ⟨Or.inl ⟨by rfl, fun w => by go_simp⟩, fun _ => rfl⟩ ?_
      refine wpAnyIn_take (i := 3) (v := .int .i64 yk) rfl rfl (by kernel_rfl) (by kernel_rfl) (by kernel_rfl) (fun _ _ _ h => hqp _ _ _ _ h) ⟨Or.inl ⟨by rfl, fun w => by go_simp⟩, fun _ => rfl⟩ ?_
      refine wpAnyIn_ready (rs := [0, 2]) (by kernel_rfl) (by simp) ?_
      refine AllReadyIn.cons rfl (fun K hK => ?_) ?_
      · go_simp
        refine hK _ _ ?_
        clear hK K
        refine wpAnyIn_ready (rs := [2]) (by kernel_rfl) (by simp) ?_
        refine AllReadyIn.cons rfl (fun K hK => ?_) ?_
        · go_simp
          refine hK _ _ ?_
          clear hK K
          refine wpAnyIn_take (i := 4) (v := .pointer (some ⟨bb, o + yk * 17, none⟩)) rfl rfl (by kernel_rfl) (by kernel_rfl) (by kernel_rfl) (fun _ _ _ h => hqp _ _ _ _ h) ⟨Or.inl ⟨by rfl, fun w => by go_simp⟩, fun _ => rfl⟩ ?_
          refine wpAnyIn_ready (rs := [5]) (by kernel_rfl) (by simp) ?_
          refine AllReadyIn.cons rfl (fun K hK => ?_) ?_
          · go_simp
            refine hK _ _ ?_
            clear hK K
            refine wpAnyIn_ready (rs := [6]) (by kernel_rfl) (by simp) ?_
            refine AllReadyIn.cons rfl (fun K hK => ?_) ?_
            · go_simp
              refine ⟨trivial, (fun h => by cases h), (callsIn_wide.2 HIn.out).mono ?_⟩
              rintro e w6 ⟨A6, c6, rfl, ho6, hb6⟩
              refine hK _ _ ?_
              clear hK K
              obtain ⟨A9, c9, w9, q1, q2, q3, q4⟩ := strs_app (own_below HOw2.out hb6) (texts_isB ho6 Hvn.out (by omega) HVok.out) (by omega) (by have := hb6.size; omega)
              have r6 := (hb6.block _ hgl2).trans HV5.out
              have cs6 : w6.cell? ⟨w4.heap.size + 1 + 1, 0, none⟩ = some (.slice A sn c) := (cell_of_row _ _ 0 _ _ _ r6).trans rfl
              have hz6 := hb6.size
              have r9 := (q3.block _ (by omega)).trans r6
              have cs9 : w9.cell? ⟨w4.heap.size + 1 + 1, 0, none⟩ = some (.slice A sn c) := (cell_of_row _ _ 0 _ _ _ r9).trans rfl
              have cf9 : w9.frozen? ⟨w4.heap.size + 1 + 1, 0, none⟩ = false := frozen_of_row _ _ _ _ _ r9
              have R9 := Lib.hid r9
              have Q2 := Lib.hid q2
              have Q3 := Lib.hid q3
              have Q4 := Lib.hid q4
              have HB6 := Lib.hid hb6
              clear r6 r9 q2 q3 q4 hb6 ho6
              refine wpAnyIn_ready (rs := [7]) (by kernel_rfl) (by simp) ?_
              refine AllReadyIn.cons rfl (fun K hK => ?_) ?_
              · refine opIn_app rfl (.tmp 41) (.tmp 47) _ rfl _ _ rfl rfl (q1 _) (hK _ _ ?_)
                clear hK K
                refine wpAnyIn_ready (rs := [8]) (by kernel_rfl) (by simp) ?_
                refine AllReadyIn.cons rfl (fun K hK => ?_) ?_
                · go_simp
                  refine hK _ _ ?_
                  clear hK K
                  refine wpAnyIn_done (by kernel_rfl) ?_ _
                  refine HQn.out _ _ ⟨A6, c6, A9, c9, w6, w9, HB6, Q2, Q3, Q4, R9, ?_, rfl⟩
                  simp [Act.put]
                exact AllReadyIn.nil
              exact AllReadyIn.nil
            exact AllReadyIn.nil
          exact AllReadyIn.nil
        exact AllReadyIn.nil
      refine AllReadyIn.cons rfl (fun K hK => ?_) ?_
      · go_simp
        refine hK _ _ ?_
        clear hK K
        refine wpAnyIn_take (i := 4) (v := .pointer (some ⟨bb, o + yk * 17, none⟩)) rfl rfl (by kernel_rfl) (by kernel_rfl) (by kernel_rfl) (fun _ _ _ h => hqp _ _ _ _ h) ⟨Or.inl ⟨by rfl, fun w => by go_simp⟩, fun _ => rfl⟩ ?_
        refine wpAnyIn_ready (rs := [0, 5]) (by kernel_rfl) (by simp) ?_
        refine AllReadyIn.cons rfl (fun K hK => ?_) ?_
        · go_simp
          refine hK _ _ ?_
          clear hK K
          refine wpAnyIn_ready (rs := [5]) (by kernel_rfl) (by simp) ?_
          refine AllReadyIn.cons rfl (fun K hK => ?_) ?_
          · go_simp
            refine hK _ _ ?_
            clear hK K
            refine wpAnyIn_ready (rs := [6]) (by kernel_rfl) (by simp) ?_
            refine AllReadyIn.cons rfl (fun K hK => ?_) ?_
            · go_simp
              refine ⟨trivial, (fun h => by cases h), (callsIn_wide.2 HIn.out).mono ?_⟩
              rintro e w6 ⟨A6, c6, rfl, ho6, hb6⟩
              refine hK _ _ ?_
              clear hK K
              obtain ⟨A9, c9, w9, q1, q2, q3, q4⟩ := strs_app (own_below HOw2.out hb6) (texts_isB ho6 Hvn.out (by omega) HVok.out) (by omega) (by have := hb6.size; omega)
              have r6 := (hb6.block _ hgl2).trans HV5.out
              have cs6 : w6.cell? ⟨w4.heap.size + 1 + 1, 0, none⟩ = some (.slice A sn c) := (cell_of_row _ _ 0 _ _ _ r6).trans rfl
              have hz6 := hb6.size
              have r9 := (q3.block _ (by omega)).trans r6
              have cs9 : w9.cell? ⟨w4.heap.size + 1 + 1, 0, none⟩ = some (.slice A sn c) := (cell_of_row _ _ 0 _ _ _ r9).trans rfl
              have cf9 : w9.frozen? ⟨w4.heap.size + 1 + 1, 0, none⟩ = false := frozen_of_row _ _ _ _ _ r9
              have R9 := Lib.hid r9
              have Q2 := Lib.hid q2
              have Q3 := Lib.hid q3
              have Q4 := Lib.hid q4
              have HB6 := Lib.hid hb6
              clear r6 r9 q2 q3 q4 hb6 ho6
              refine wpAnyIn_ready (rs := [7]) (by kernel_rfl) (by simp) ?_
              refine AllReadyIn.cons rfl (fun K hK => ?_) ?_
              · refine opIn_app rfl (.tmp 41) (.tmp 47) _ rfl _ _ rfl rfl (q1 _) (hK _ _ ?_)
                clear hK K
                refine wpAnyIn_ready (rs := [8]) (by kernel_rfl) (by simp) ?_
                refine AllReadyIn.cons rfl (fun K hK => ?_) ?_
                · go_simp
                  refine hK _ _ ?_
                  clear hK K
                  refine wpAnyIn_done (by kernel_rfl) ?_ _
                  refine HQn.out _ _ ⟨A6, c6, A9, c9, w6, w9, HB6, Q2, Q3, Q4, R9, ?_, rfl⟩
                  simp [Act.put]
                exact AllReadyIn.nil
              exact AllReadyIn.nil
            exact AllReadyIn.nil
          exact AllReadyIn.nil
        refine AllReadyIn.cons rfl (fun K hK => ?_) ?_
        · go_simp
          refine hK _ _ ?_
          clear hK K
          refine wpAnyIn_ready (rs := [0, 6]) (by kernel_rfl) (by simp) ?_
          refine AllReadyIn.cons rfl (fun K hK => ?_) ?_
          · go_simp
            refine hK _ _ ?_
            clear hK K
            refine wpAnyIn_ready (rs := [6]) (by kernel_rfl) (by simp) ?_
            refine AllReadyIn.cons rfl (fun K hK => ?_) ?_
            · go_simp
              refine ⟨trivial, (fun h => by cases h), (callsIn_wide.2 HIn.out).mono ?_⟩
              rintro e w6 ⟨A6, c6, rfl, ho6, hb6⟩
              refine hK _ _ ?_
              clear hK K
              obtain ⟨A9, c9, w9, q1, q2, q3, q4⟩ := strs_app (own_below HOw2.out hb6) (texts_isB ho6 Hvn.out (by omega) HVok.out) (by omega) (by have := hb6.size; omega)
              have r6 := (hb6.block _ hgl2).trans HV5.out
              have cs6 : w6.cell? ⟨w4.heap.size + 1 + 1, 0, none⟩ = some (.slice A sn c) := (cell_of_row _ _ 0 _ _ _ r6).trans rfl
              have hz6 := hb6.size
              have r9 := (q3.block _ (by omega)).trans r6
              have cs9 : w9.cell? ⟨w4.heap.size + 1 + 1, 0, none⟩ = some (.slice A sn c) := (cell_of_row _ _ 0 _ _ _ r9).trans rfl
              have cf9 : w9.frozen? ⟨w4.heap.size + 1 + 1, 0, none⟩ = false := frozen_of_row _ _ _ _ _ r9
              have R9 := Lib.hid r9
              have Q2 := Lib.hid q2
              have Q3 := Lib.hid q3
              have Q4 := Lib.hid q4
              have HB6 := Lib.hid hb6
              clear r6 r9 q2 q3 q4 hb6 ho6
              refine wpAnyIn_ready (rs := [7]) (by kernel_rfl) (by simp) ?_
              refine AllReadyIn.cons rfl (fun K hK => ?_) ?_
              · refine opIn_app rfl (.tmp 41) (.tmp 47) _ rfl _ _ rfl rfl (q1 _) (hK _ _ ?_)
                clear hK K
                refine wpAnyIn_ready (rs := [8]) (by kernel_rfl) (by simp) ?_
                refine AllReadyIn.cons rfl (fun K hK => ?_) ?_
                · go_simp
                  refine hK _ _ ?_
                  clear hK K
                  refine wpAnyIn_done (by kernel_rfl) ?_ _
                  refine HQn.out _ _ ⟨A6, c6, A9, c9, w6, w9, HB6, Q2, Q3, Q4, R9, ?_, rfl⟩
                  simp [Act.put]
                exact AllReadyIn.nil
              exact AllReadyIn.nil
            exact AllReadyIn.nil
          refine AllReadyIn.cons rfl (fun K hK => ?_) ?_
          · go_simp
            refine ⟨trivial, (fun h => by cases h), (callsIn_wide.2 HIn.out).mono ?_⟩
            rintro e w6 ⟨A6, c6, rfl, ho6, hb6⟩
            refine hK _ _ ?_
            clear hK K
            obtain ⟨A9, c9, w9, q1, q2, q3, q4⟩ := strs_app (own_below HOw2.out hb6) (texts_isB ho6 Hvn.out (by omega) HVok.out) (by omega) (by have := hb6.size; omega)
            have r6 := (hb6.block _ hgl2).trans HV5.out
            have cs6 : w6.cell? ⟨w4.heap.size + 1 + 1, 0, none⟩ = some (.slice A sn c) := (cell_of_row _ _ 0 _ _ _ r6).trans rfl
            have hz6 := hb6.size
            have r9 := (q3.block _ (by omega)).trans r6
            have cs9 : w9.cell? ⟨w4.heap.size + 1 + 1, 0, none⟩ = some (.slice A sn c) := (cell_of_row _ _ 0 _ _ _ r9).trans rfl
            have cf9 : w9.frozen? ⟨w4.heap.size + 1 + 1, 0, none⟩ = false := frozen_of_row _ _ _ _ _ r9
            have R9 := Lib.hid r9
            have Q2 := Lib.hid q2
            have Q3 := Lib.hid q3
            have Q4 := Lib.hid q4
            have HB6 := Lib.hid hb6
            clear r6 r9 q2 q3 q4 hb6 ho6
            refine wpAnyIn_ready (rs := [0]) (by kernel_rfl) (by simp) ?_
            refine AllReadyIn.cons rfl (fun K hK => ?_) ?_
            · go_simp
              refine hK _ _ ?_
              clear hK K
              refine wpAnyIn_ready (rs := [7]) (by kernel_rfl) (by simp) ?_
              refine AllReadyIn.cons rfl (fun K hK => ?_) ?_
              · refine opIn_app rfl (.tmp 41) (.tmp 47) _ rfl _ _ rfl rfl (q1 _) (hK _ _ ?_)
                clear hK K
                refine wpAnyIn_ready (rs := [8]) (by kernel_rfl) (by simp) ?_
                refine AllReadyIn.cons rfl (fun K hK => ?_) ?_
                · go_simp
                  refine hK _ _ ?_
                  clear hK K
                  refine wpAnyIn_done (by kernel_rfl) ?_ _
                  refine HQn.out _ _ ⟨A6, c6, A9, c9, w6, w9, HB6, Q2, Q3, Q4, R9, ?_, rfl⟩
                  simp [Act.put]
                exact AllReadyIn.nil
              exact AllReadyIn.nil
            exact AllReadyIn.nil
          exact AllReadyIn.nil
        exact AllReadyIn.nil
      exact AllReadyIn.nil
    · rintro a' W8 ⟨A6, c6, A9, c9, w6, w9, HB6, Q2, Q4, Q3, R9, rfl, hW8⟩
      have h69 := HB6.out
      have hz6 := HB6.out.size
      have hz9 := Q4.out.size
      have hNle : w5.heap.size ≤ N := h8
      have hoS : Out [w4.heap.size + 1 + 1] w9 W8 := by rw [hW8]; exact set_out w9 _ 0 _
      have hTo : Out ((Value.slice A sn c).ownBlock.toList ++ [w4.heap.size + 1 + 1]) W2 W8 :=
        ((Out.of_below HB6.out ((Value.slice A sn c).ownBlock.toList ++ [w4.heap.size + 1 + 1])).trans Q3.out (fun b hb _ => List.mem_append_left _ hb)).trans hoS (fun b hb _ => List.mem_append_right _ hb)
      have HTo := Lib.hid hTo
      have HBk : Hid (∀ b ∈ (Value.slice A sn c).ownBlock.toList, N ≤ b ∧ b < Wm.heap.size) := fun b hb => HBl6.out b (by simpa using hb)
      have HO8 : Hid (Out [w4.heap.size + 1, w4.heap.size + 1 + 1] w5 W8) := HO2.out.trans hTo (fun b hb hlt => by
        rcases List.mem_append.1 hb with hb | hb
        · have := (HBk.out b hb).1; omega
        · simp at hb; simp [hb])
      have hs8 : W8.heap[w4.heap.size + 1 + 1]? = some (.cells #[.slice A9 (sn + vn) c9] 40 (0, 0)) := by rw [hW8]; exact set_zero R9.out
      have hn8 : W8.heap[w4.heap.size + 1]? = some (.cells #[.int .i64 (kk : Nat)] 3 (0, 0)) := (hTo.block _ (by omega) (fun hb => by
        rcases List.mem_append.1 hb with hb | hb
        · have := (HBk.out _ hb).1; omega
        · simp at hb)).trans HV3.out
      obtain ⟨ro0, ro1, ro2, ro3, ro4⟩ := HRw.out W8 HO8.out
      have HOw8 : Hid (W8.ownsRow N 9 1 (.slice A9 (sn + vn) c9) (sn + vn) ((setL x (kk + 1)).flatMap strC)) := by
        show World.ownsRow _ _ _ _ _ _ _
        rw [HSt1.out]
        exact own_out' Q2.out hoS (fun b hb hb' => by have := (own_blk Q2.out hb).1; simp at hb'; omega)
      have hsn1 : (setL x (kk + 1)).length = sn + vn := by rw [HSt1.out, List.length_append, HSnE.out, Hvn.out]
      have HV8 : Hid (SliceIs Enc.str W8 W8.heap.size yA yn yc (sieveL x (setL x (kk + 1)) true)) := strs_out HV2.out hTo (fun ad hA hb => by
        have h1 := HFar.out ad hA
        rcases List.mem_append.1 hb with hb | hb
        · have := (HBk.out _ hb).2; omega
        · simp at hb; omega)
      have hset : SliceIs Enc.str W8 W8.heap.size A9 (sn + vn) c9 (setL x (kk + 1)) := texts_isB HOw8.out hsn1 (by omega) (fun s hs => HSok.out _ s hs)
      have HSv := Lib.hid (refSieve_any d x a2 ⟨some ⟨bb, o, none⟩, b2n, b2c⟩ A9 (sn + vn) c9 (setL x (kk + 1)) true W8 (HMA3.out W8 (HO3.out W8 HO8.out)) hset HRT.out)
      have HL8 := Lib.hid (row_cells ro3)
      have cs8 : W8.cell? ⟨w4.heap.size + 1 + 1, 0, none⟩ = some (.slice A9 (sn + vn) c9) := (cell_of_row _ _ 0 _ _ _ hs8).trans rfl
      have HR8 := Lib.hid ro0
      have HS8 := Lib.hid hs8
      have HN8 := Lib.hid hn8
      clear hoS hTo hs8 hn8 ro0 ro1 ro2 ro3 ro4 hset h69 hW8 Q2 Q3 Q4 R9 HB6 HSt1 HIn HVok y0 y1 y2 y3 y4 y5 y6 y7 y8 y9 y10 y11 y12 y13 y14 y15 y16 c4 cs2 i0 i1
      simp only [Act.put, List.setIfInBounds_toArray, List.set_cons_succ, List.set_cons_zero]
      gi_wp2_with (refine wpListIn_load_at w3.heap.size 0 (ruleC x a2 ⟨some ⟨bb, o, none⟩, b2n, b2c⟩) _ HL8.out Tryz.underlying35 rfl (rrule_size _ _ _) rfl ?_)
      refine ⟨trivial, (fun h => by cases h), (CallsIn.inRound _ (callsIn_wide.2 HSv.out)).mono ?_⟩
      rintro e w10 ⟨A10, c10, rfl, ho10, hb10⟩
      have hsl10 := TextsPost.is ho10 (by have := HSil.out (setL x (kk + 1)); omega) (fun s hs => HSiv.out _ s hs)
      have hv10 := HV8.out.keep hb10
      have hyn : (sieveL x (setL x (kk + 1)) true).length = yn := HV8.out.1
      rw [hyn] at hsl10
      have HTx := Lib.hid (texts_eq yA A10 yn yn yc c10 _ w10 hv10 hsl10)
      have HB10 := Lib.hid hb10
      clear hsl10 hv10 ho10 hb10 HSv
      gi_wp2_with fail
      refine ⟨trivial, (fun h => by cases h), (CallsIn.inRound _ (callsIn_wide.2 HTx.out)).mono ?_⟩
      rintro e w11 ⟨rfl, hb11⟩
      have hb8 : Below W8.heap.size W8 w11 := HB10.out.trans (hb11.mono HB10.out.size)
      have HO11 : Hid (Out [w4.heap.size + 1, w4.heap.size + 1 + 1] w5 w11) := HO8.out.trans (Out.of_below hb8 _) (fun b hb _ => hb)
      have hn11 := (hb8.block _ (Array.getElem?_eq_some_iff.1 HN8.out).1).trans HN8.out
      have hs11 := (hb8.block _ (Array.getElem?_eq_some_iff.1 HS8.out).1).trans HS8.out
      have HOw11 := Lib.hid (own_below HOw8.out hb8)
      obtain ⟨-, rt1, -, -, -⟩ := HRw.out w11 HO11.out
      have cn1 : w11.cell? ⟨w4.heap.size + 1, 0, none⟩ = some (.int .i64 (kk : Nat)) := (cell_of_row _ _ 0 _ _ _ hn11).trans rfl
      have fn1 : w11.frozen? ⟨w4.heap.size + 1, 0, none⟩ = false := frozen_of_row _ _ _ _ _ hn11
      have ct1 : w11.cell? ⟨w.heap.size + 1, 0, none⟩ = some (.int .i64 st) := (cell_of_row _ _ 0 _ _ _ rt1).trans rfl
      obtain ⟨k1, hk1⟩ : ∃ k1 : Nat, k1 = kk + 1 := ⟨_, rfl⟩
      have hk1c : (k1 : Int) = (kk : Int) + 1 := by rw [hk1]; rfl
      have Hk1 := Lib.hid hk1
      have hTo2 : Out ((Value.slice A sn c).ownBlock.toList ++ [w4.heap.size + 1 + 1]) W2 w11 := HTo.out.trans (Out.of_below hb8 _) (fun b hb _ => hb)
      obtain ⟨W12, hW12⟩ : ∃ W12, W12 = w11.setCell ⟨w4.heap.size + 1, 0, none⟩ (.int .i64 ((kk : Int) + 1)) := ⟨_, rfl⟩
      have HWe := Lib.hid hW12.symm
      have ho12 : Out [w4.heap.size + 1] w11 W12 := by rw [hW12]; exact set_out w11 _ 0 _
      have HO12 : Hid (Out [w4.heap.size + 1, w4.heap.size + 1 + 1] w5 W12) := HO11.out.trans ho12 (fun b hb _ => by simp at hb; simp [hb])
      have HN12 : Hid (W12.heap[w4.heap.size + 1]? = some (.cells #[.int .i64 (k1 : Int)] 3 (0, 0))) := by show _ = _; rw [hW12, hk1c]; exact set_zero hn11
      have HS12 : Hid (W12.heap[w4.heap.size + 1 + 1]? = some (.cells #[.slice A9 (sn + vn) c9] 40 (0, 0))) := (ho12.block _ (Array.getElem?_eq_some_iff.1 hs11).1 (by simp)).trans hs11
      have HOw12 : Hid (W12.ownsRow N 9 1 (.slice A9 (sn + vn) c9) (sn + vn) ((setL x (kk + 1)).flatMap strC)) := own_out' HOw11.out ho12 (fun b hb hb' => by have := (own_blk HOw11.out hb).1; simp at hb'; omega)
      have HT12 : Hid (Turn [w4.heap.size + 1, w4.heap.size + 1 + 1] N W2 W12) := Turn.of_out (T := ((Value.slice A sn c).ownBlock.toList ++ [w4.heap.size + 1 + 1]) ++ [w4.heap.size + 1])
        ((hTo2.mono (fun b hb _ => List.mem_append_left _ hb)).trans ho12 (fun b hb _ => List.mem_append_right _ hb)) hNW2 (fun b hb => by
          rcases List.mem_append.1 hb with hb | hb
          · rcases List.mem_append.1 hb with hb | hb
            · exact .inr (HBk.out b hb).1
            · left; simp at hb; simp [hb]
          · left; simp at hb; simp [hb])
      have ct2 : W12.cell? ⟨w.heap.size + 1, 0, none⟩ = some (.int .i64 st) := (cell_of_row _ _ 0 _ _ _ ((ho12.block _ (Array.getElem?_eq_some_iff.1 rt1).1 (fun h => absurd (List.mem_singleton.1 h) (Nat.ne_of_lt (Nat.succ_lt_succ HLt0.out)))).trans rt1)).trans rfl
      have cn2 : W12.cell? ⟨w4.heap.size + 1, 0, none⟩ = some (.int .i64 ((kk : Int) + 1)) := by rw [← hk1c]; exact (cell_of_row _ _ 0 _ _ _ HN12.out).trans rfl
      have HlenK : Hid ((pre ++ [(yk, (⟨yA, yn, yc⟩ : Hd))]).length = k1) := by show _ = _; rw [Hpl.out, hk1]
      have HsetL : Hid ((setL x k1).length = sn + vn) := by show _ = _; rw [hk1]; exact hsn1
      have HOwK : Hid (W12.ownsRow N 9 1 (.slice A9 (sn + vn) c9) (sn + vn) ((setL x k1).flatMap strC)) := by show World.ownsRow _ _ _ _ _ _ _; rw [hk1]; exact HOw12.out
      have HLe1 : Hid (k1 ≤ on) := by show _ ≤ _; rw [hk1]; exact hlt
      by_cases hq : k1 = st
      · have e1 : ((kk : Int) + 1 == (st : Int)) = true := by rw [← hk1c, hq, beq_self_eq_true]
        have HqE : Hid (k1 = st) := hq
        have HIx : Hid ((pre ++ [(yk, (⟨yA, yn, yc⟩ : Hd))]).length = st) := by show _ = _; rw [Hpl.out, ← hk1]; exact hq
        clear hb8 hb11 hn11 hs11 rt1 hTo2 hW12 ho12 HS12 HOw12 HOw11 HOw8 HTx HB10 HO11 HO8 HV8 HL8 hlt hq hk1 hk1c
        gi_wp2_with (rw [HWe.out])
        exact ⟨HT12.out, rfl, HIx.out, by rw [HIx.out, ← HqE.out]; exact HLe1.out, HO12, by rw [HlenK.out]; exact HN12.out⟩
      · have e1 : ((kk : Int) + 1 == (st : Int)) = false := by rw [← hk1c, beq_eq_false_iff_ne]; exact fun h => hq (Int.ofNat_inj.1 h)
        have HLt : Hid (k1 < st) := Nat.lt_of_le_of_ne (by rw [hk1]; exact h1) hq
        clear hb8 hb11 hn11 hs11 rt1 hTo2 hW12 ho12 HOw11 HOw8 HTx HB10 HO11 HO8 HV8 HL8 hlt hq hk1 hk1c
        gi_wp2_with (rw [HWe.out])
        exact ⟨HT12.out, by rw [HlenK.out]; exact HLt.out, HO12, by rw [HlenK.out]; exact HN12.out, ⟨A9, c9, by rw [HlenK.out, HsetL.out]; exact HS12.out, by show World.ownsRow _ _ _ _ _ _ _; rw [HlenK.out, HsetL.out]; exact HOwK.out⟩, h8⟩
  case' done =>
    rintro N xs W hxs ⟨h1, HOx, h3, -, -⟩ hD
    have hxl : xs.length = on := by
      have h := congrArg List.length hxs.out
      rw [List.length_map, HL.out, Hon.out] at h
      exact h
    rw [hxl] at h1 h3
    have q1 : ((on : Int) == min (st : Int) (on : Int)) = true := by rw [Int.min_eq_right (by omega)]; simp
    obtain ⟨nn, hnn⟩ : ∃ nn : Nat, nn = on := ⟨_, rfl⟩
    rw [show ((on : Int) == min (st : Int) (on : Int)) = ((nn : Int) == min (st : Int) (on : Int)) by rw [hnn]] at q1
    rw [← hnn] at h3
    clear hxl hxs h1 hnn
  case' stop =>
    rintro cd N pre W hSp ⟨rfl, h1, h2, HOx, h3⟩ hD
    rw [h1] at h3 h2
    have q1 : ((st : Int) == min (st : Int) (on : Int)) = true := by rw [Int.min_eq_left (by omega)]; simp
    obtain ⟨nn, hnn⟩ : ∃ nn : Nat, nn = st := ⟨_, rfl⟩
    rw [show ((st : Int) == min (st : Int) (on : Int)) = ((nn : Int) == min (st : Int) (on : Int)) by rw [hnn]] at q1
    rw [← hnn] at h3
    clear hSp h1 h2 hnn
    refine wpIn_wide.2 ?_
  all_goals
    obtain ⟨r0, r1, r2, r3, r4⟩ := HRw.out W HOx.out
    have c1 : W.cell? ⟨w4.heap.size + 1, 0, none⟩ = some (.int .i64 nn) := (cell_of_row _ _ 0 _ _ _ h3).trans rfl
    have c2 : W.cell? ⟨w.heap.size + 1, 0, none⟩ = some (.int .i64 st) := (cell_of_row _ _ 0 _ _ _ r1).trans rfl
    have c3 : W.cell? ⟨w4.heap.size, 0, none⟩ = some (.slice A4 on c4) := (cell_of_row _ _ 0 _ _ _ r4).trans rfl
    have hbW := HBl.out W HOx.out
    have HOr : Hid (∀ V, Below W.heap.size W V → Calls Tryz.prog 15 #[.agg (ruleC x ⟨aA, an, ac⟩ ⟨b_A, b_n, b_c⟩).toArray] V (fun e w' => ∃ A c, e = .returned (.slice A on c) ∧ w'.ownsRow V.heap.size 3 1 (.slice A on c) on (valsK L) ∧ Below V.heap.size V w')) := fun V hV => by
      have hor := order_any (HX0.out.keep (hbW.trans (hV.mono hbW.size))) HRT.out (Nat.le_trans HBL.out (by decide))
      rw [HL.out] at hor
      unfold OrdPost at hor
      rw [Hon.out] at hor
      exact hor
    have HIn : Hid (∀ V A c, Below W.heap.size W V → V.ownsRow W.heap.size 3 1 (.slice A on c) on (valsK L) → Calls Tryz.prog 14 #[.slice A on c, .slice A4 on c4] V (RetBool true V)) := fun V A c hV ho =>
      ints_eq A A4 on on c c4 (intL L) V (ints_is ho (show (intL L).length = on by unfold intL; rw [List.length_map, Hon.out]) (Nat.le_trans hon (by decide)) (intL_fits HLok.out (Nat.le_trans HBL.out (by decide)))) ((HWn.out W HOx.out).keep hV)
    obtain ⟨z0, z1, z2, z3, z4, z5⟩ := facts6 r0
    have HK : Hid (∀ V, Below W.heap.size W V → V.cell? ⟨w4.heap.size + 1, 0, none⟩ = some (.int .i64 nn) ∧ V.cell? ⟨w.heap.size + 1, 0, none⟩ = some (.int .i64 st) ∧ V.cell? ⟨w4.heap.size, 0, none⟩ = some (.slice A4 on c4) ∧
        V.cell? ⟨w.heap.size, 0, none⟩ = some (.string x.head.rel) ∧ V.cell? ⟨w.heap.size, 1, none⟩ = some (.slice aA an ac) ∧ V.cell? ⟨w.heap.size, 2, none⟩ = some (.int .i64 x.agg) ∧ V.cell? ⟨w.heap.size, 3, none⟩ = some (.int .i64 x.col) ∧ V.cell? ⟨w.heap.size, 4, none⟩ = some (.slice b_A b_n b_c) ∧ V.cell? ⟨w.heap.size, 5, none⟩ = some (.int .i64 x.pos)) := fun V hV =>
      ⟨below_cell hV c1, below_cell hV c2, below_cell hV c3, below_cell hV z0, below_cell hV z1, below_cell hV z2, below_cell hV z3, below_cell hV z4, below_cell hV z5⟩
    have HbW := Lib.hid hbW
    have HR2W := Lib.hid r2
    have HD := Lib.hid hD
    have Hne : Hid (w4.heap.size ≠ w.heap.size + 1 + 1 ∧ w4.heap.size + 1 ≠ w.heap.size + 1 + 1) := ⟨Nat.ne_of_gt HLt4.out, Nat.ne_of_gt (Nat.lt_succ_of_lt HLt4.out)⟩
    clear r0 r1 r2 r3 r4 h3 hbW hD HQ hn5 hs5
    go_wp2_with fail
    go_region_held3 (fun V => V.cell? ⟨w4.heap.size + 1, 0, none⟩ = some (.int .i64 nn) ∧ V.cell? ⟨w.heap.size + 1, 0, none⟩ = some (.int .i64 st) ∧ V.cell? ⟨w4.heap.size, 0, none⟩ = some (.slice A4 on c4) ∧
        V.cell? ⟨w.heap.size, 0, none⟩ = some (.string x.head.rel) ∧ V.cell? ⟨w.heap.size, 1, none⟩ = some (.slice aA an ac) ∧ V.cell? ⟨w.heap.size, 2, none⟩ = some (.int .i64 x.agg) ∧ V.cell? ⟨w.heap.size, 3, none⟩ = some (.int .i64 x.col) ∧ V.cell? ⟨w.heap.size, 4, none⟩ = some (.slice b_A b_n b_c) ∧ V.cell? ⟨w.heap.size, 5, none⟩ = some (.int .i64 x.pos))
      (first
        | (refine HK.out _ ?_; (repeat (first | with_reducible exact Below.refl _ _ | with_reducible assumption | with_reducible refine Below.drew ?_)); done)
        | (exact ⟨(cell_set1 Hne.out.2).trans y0, (cell_set1 (by omega)).trans y1, (cell_set1 Hne.out.1).trans y2, (cell_set1 (by omega)).trans y3, (cell_set1 (by omega)).trans y4, (cell_set1 (by omega)).trans y5, (cell_set1 (by omega)).trans y6, (cell_set1 (by omega)).trans y7, (cell_set1 (by omega)).trans y8⟩)
        | go_keep)
      ((first
        | (go_at_call 15
           with_reducible refine (HOr.out _ ?s1).mono ?_
           case s1 => repeat (first | with_reducible exact Below.refl _ _ | with_reducible assumption | with_reducible refine Below.drew ?_)
           rintro e w13 ⟨A13, c13, rfl, ho13, hq13⟩
           have hb13 : Below W.heap.size W w13 := below_next (Below.drew (Below.refl _ _)) hq13)
        | (go_at_call 14
           with_reducible refine (HIn.out _ A13 c13 ?s1 ?s2).mono ?_
           case s1 => repeat (first | with_reducible exact Below.refl _ _ | with_reducible assumption | with_reducible refine Below.drew ?_)
           case s2 => exact own_down ho13 (Nat.le_refl _)
           rintro e w14 ⟨rfl, hq14⟩
           have hb14 : Below W.heap.size W w14 := below_next hb13 hq14
           obtain ⟨y0, y1, y2, y3, y4, y5, y6, y7, y8⟩ := HK.out w14 hb14
           have v1 := (hb14.block _ (Array.getElem?_eq_some_iff.1 HR2W.out).1).trans HR2W.out
           have f1 : w14.frozen? ⟨w.heap.size + 1 + 1, 0, none⟩ = false := frozen_of_row _ _ _ _ _ v1
           have c0 : w14.cell? ⟨w.heap.size + 1 + 1, 0, none⟩ = some (.bool false) := (cell_of_row _ _ 0 _ _ _ v1).trans rfl)))
    have HV1 := Lib.hid v1
    have HD1 : Hid (w14.heap[w4.heap.size + 4]? = some (.deferred (some []))) := by
      show _ = _
      rw [← hz5]
      exact (hb14.block _ (Array.getElem?_eq_some_iff.1 HD.out).1).trans HD.out
    have HBw : Hid (Below w.heap.size w w14) := HbW.out.trans (hb14.mono HbW.out.size)
    clear y0 y1 y2 y3 y4 y5 y6 y7 y8 v1 f1 c0 hb14 hb13 ho13 hq13 hq14 c1 c2 c3 z0 z1 z2 z3 z4 z5
    go_wp2_with fail
    have HLt6 : Hid (w.heap.size + 1 + 1 < w4.heap.size + 4) := by show _ < _; rw [← hz5]; exact HLt5.out
    have v2 := set_zero (v := .bool true) HV1.out
    have hD2 : (w14.setCell ⟨w.heap.size + 1 + 1, 0, none⟩ (.bool true)).heap[w4.heap.size + 4]? = some (.deferred (some [])) := (World.heap_setCells_other' (Ne.symm (Nat.ne_of_lt HLt6.out))).trans HD1.out
    refine ⟨by simp, .inl ⟨_, _, rfl, run_takeDeferred hD2, ?_⟩⟩
    have cr2 : ((w14.setCell ⟨w.heap.size + 1 + 1, 0, none⟩ (.bool true)).putObj (w4.heap.size + 4) (.deferred none)).cell? ⟨w.heap.size + 1 + 1, 0, none⟩ = some (.bool true) := (cell_of_row _ _ 0 _ _ _ ((World.putObj_heap_other (Nat.ne_of_lt HLt6.out)).trans v2)).trans rfl
    have hb20 : Below w.heap.size w ((w14.setCell ⟨w.heap.size + 1 + 1, 0, none⟩ (.bool true)).putObj (w4.heap.size + 4) (.deferred none)) :=
      (HBw.out.setCell (by show w.heap.size ≤ w.heap.size + 1 + 1; omega) _).trans ((Soft.putObj _ (Nat.le_refl _) hD2 rfl).below (Nat.le_of_lt (Nat.lt_of_le_of_lt (Nat.le_add_right _ 2) HLt6.out)) (by rw [World.size_setCell']; exact HBw.out.size))
    exact ⟨.bool true, by simp [results, Tryz.results3, go_sem, cr2], rfl, hb20⟩
end Go.Proofs.YtfklheagafffmaaGreatDoor
