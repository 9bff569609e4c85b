/- My own texts SfLaw, SfOrd, SfWl, SfWh, LiftSafeWhole, FactsSafeWhole, as far as this claim needs them. -/
import Derived.Test.YtfklheagafffmaaGreatDoorZs29
import Derived.Deep.OwnRows
set_option linter.unusedVariables false
set_option linter.unusedSimpArgs false
set_option maxRecDepth 1000000
set_option maxHeartbeats 16000000
namespace Go.Proofs.YtfklheagafffmaaGreatDoor
open Go.RowKit
theorem nextK_mem {body : List GLit} {S : List ByteArray} {left : List Nat} {k : Nat} (h : nextK body S left = some k) : k ∈ left := by
  unfold nextK at h
  cases h1 : left.find? (earlyK body S) with
  | some j => rw [h1] at h; simp at h; subst h; exact List.mem_of_find?_eq_some h1
  | none => rw [h1] at h; simp at h; exact List.mem_of_find?_eq_some h
theorem order_all {body : List GLit} (hc : CmpBare body) {B : List ByteArray} (hb : BoundTo body ((body.filter posB).flatMap varsL) B) (hall : ∀ x ∈ body, ∀ v ∈ varsL x, v ∈ B) :
    ∀ (f : Nat) (S : List ByteArray) (left : List Nat), left.length ≤ f → left.Nodup → (∀ k ∈ left, k < body.length) → (∀ k x, body[k]? = some x → k ∉ left → ∀ v ∈ varsL x, v ∈ S) → ((orderF body f S left).map Prod.fst).Perm left
  | 0, S, left, h, _, _, _ => by
    have hl : left = [] := List.length_eq_zero_iff.1 (by omega)
    subst hl; exact List.Perm.refl _
  | f + 1, S, left, h, hd, hlt, hS => by
    unfold orderF
    cases hn : nextK body S left with
    | some k =>
      have hm := nextK_mem hn
      have hl : (left.erase k).length = left.length - 1 := List.length_erase_of_mem hm
      have ih := order_all hc hb hall f (S ++ litVars body k) (left.erase k) (by omega) (hd.erase _) (fun j hj => hlt j (List.mem_of_mem_erase hj)) (by
        intro j x hx hj v hv
        by_cases hjk : j = k
        · subst hjk
          refine List.mem_append_right _ ?_
          unfold litVars; rw [hx]; exact hv
        · exact List.mem_append_left _ (hS j x hx (fun hm => hj ((List.mem_erase_of_ne hjk).2 hm)) v hv))
      simp only [List.map_cons]
      exact (List.Perm.cons k ih).trans (List.perm_cons_erase hm).symm
    | none =>
      have h1 : left.find? (earlyK body S) = none := by
        unfold nextK at hn; rw [Option.or_eq_none_iff] at hn; exact hn.1
      have h2 : left.find? (posK body) = none := by
        unfold nextK at hn; rw [Option.or_eq_none_iff] at hn; exact hn.2
      rw [List.find?_eq_none] at h1 h2
      -- whatever is bound is set
      have hpos : ∀ v ∈ (body.filter posB).flatMap varsL, v ∈ S := by
        intro v hv
        obtain ⟨x, hx, hv⟩ := List.mem_flatMap.1 hv
        obtain ⟨hx1, hx2⟩ := List.mem_filter.1 hx
        obtain ⟨k, hk⟩ := List.mem_iff_getElem?.1 hx1
        refine hS k x hk (fun hm => h2 k hm ?_) v hv
        unfold posK; rw [hk]; exact hx2
      have hBS : ∀ v ∈ B, v ∈ S := by
        clear hall
        have : ∀ {S0 T : List ByteArray}, BoundTo body S0 T → (∀ v ∈ S0, v ∈ S) → ∀ v ∈ T, v ∈ S := by
          intro S0 T ht
          induction ht with
          | stop _ => exact fun h => h
          | @step S1 T1 x hx hs _ ih =>
            intro h0
            refine ih ?_
            intro v hv
            rcases List.mem_append.1 hv with hv | hv
            · exact h0 v hv
            · obtain ⟨k, hk⟩ := List.mem_iff_getElem?.1 hx
              by_cases hm : k ∈ left
              · have he := h1 k hm
                unfold earlyK at he
                rw [hk] at he
                simp only [earlyB, Bool.or_eq_true, not_or, Bool.not_eq_true] at he
                exact sets_in (hc x hx (sets_k hs)) hs h0 he.2 v hv
              · exact hS k x hk hm v hv
        exact this hb hpos
      cases left with
      | nil => exact List.Perm.refl _
      | cons k left =>
        exfalso
        have hkl := hlt k (List.mem_cons_self ..)
        have hk : body[k]? = some body[k] := List.getElem?_eq_getElem hkl
        have he := h1 k (List.mem_cons_self ..)
        have hp := h2 k (List.mem_cons_self ..)
        unfold earlyK at he
        unfold posK at hp
        rw [hk] at he hp
        have hv : allB S (varsL body[k]) = true := allB_iff.2 fun v hv => hBS v (hall _ (List.getElem_mem hkl) v hv)
        simp [earlyB, hp, hv] at he
end Go.Proofs.YtfklheagafffmaaGreatDoor

namespace Go.Proofs.YtfklheagafffmaaGreatDoor
open Go.RowKit Go.Shelf
attribute [local go_sem] Oper.semAt_some
theorem orderK_len (body : List GLit) : (orderK body).length ≤ body.length := by unfold orderK; rw [List.length_map]; exact orderS_len body
end Go.Proofs.YtfklheagafffmaaGreatDoor

namespace Go.Proofs.YtfklheagafffmaaGreatDoor
open Go.RowKit
theorem body_vars {x : GRule} {y : GLit} (hy : y ∈ x.body) {v : ByteArray} (hv : v ∈ varsL y) : v ∈ ruleVars x := by
  obtain ⟨t, ht, h⟩ := varsL_has.1 hv
  unfold ruleVars
  rw [putL_has]
  exact .inr ⟨t, by unfold ruleT; exact List.mem_append_right _ (List.mem_flatMap.2 ⟨y, hy, ht⟩), h⟩
theorem bound_in {body : List GLit} {S T : List ByteArray} (h : BoundTo body S T) (hS : ∀ v ∈ S, v ∈ body.flatMap varsL) : ∀ v ∈ T, v ∈ body.flatMap varsL := by
  induction h with
  | stop _ => exact hS
  | step hx _ _ ih =>
    refine ih fun v hv => ?_
    rcases List.mem_append.1 hv with h | h
    · exact hS v h
    · exact List.mem_flatMap.2 ⟨_, hx, h⟩
theorem posV_in {body : List GLit} : ∀ v ∈ posV body, v ∈ body.flatMap varsL := by
  intro v hv
  unfold posV at hv
  obtain ⟨y, hy, h⟩ := List.mem_flatMap.1 hv
  exact List.mem_flatMap.2 ⟨y, (List.mem_filter.1 hy).1, h⟩
def varsOf (body : List GLit) (l : List Nat) : List ByteArray := l.flatMap (litVars body)
theorem varsOf_take {body : List GLit} {l : List Nat} {i k : Nat} {y : GLit} (hk : l[i]? = some k) (hy : body[k]? = some y) : varsOf body (l.take (i + 1)) = varsOf body (l.take i) ++ varsL y := by
  unfold varsOf
  rw [flatMap_take hk, litVars_at hy]
theorem whole_law {x : GRule} (hr : rightRule x = true) {S : List ByteArray} (hb : BoundTo x.body (posV x.body) S) (hu : sieveL x S false = []) :
    (orderK x.body).Perm (List.range x.body.length) ∧ ∀ v ∈ ruleVars x, v ∈ varsOf x.body (orderK x.body) := by
  have hin : ∀ v ∈ ruleVars x, v ∈ S := by
    intro v hv
    apply Decidable.byContradiction
    intro hn
    have : v ∈ sieveL x S false := by
      unfold sieveL
      rw [List.mem_filter]
      exact ⟨hv, by simp [hasB, hn]⟩
    rw [hu] at this
    cases this
  have hp : (orderK x.body).Perm (List.range x.body.length) := by
    unfold orderK orderS
    refine order_all (right_bare hr) hb (fun y hy v hv => hin v (body_vars hy hv)) _ _ _ (by simp) List.nodup_range (fun k hk => List.mem_range.1 hk) ?_
    intro k y hk hn
    exact absurd (List.mem_range.2 (List.getElem?_eq_some_iff.1 hk).1) hn
  refine ⟨hp, fun v hv => ?_⟩
  obtain ⟨y, hy, hv2⟩ := List.mem_flatMap.1 (bound_in hb posV_in v (hin v hv))
  obtain ⟨k, hk⟩ := List.mem_iff_getElem?.1 hy
  unfold varsOf
  refine List.mem_flatMap.2 ⟨k, hp.mem_iff.2 (List.mem_range.2 (List.getElem?_eq_some_iff.1 hk).1), ?_⟩
  rw [litVars_at hk]; exact hv2
def cntV (n : Nat) (l : List Nat) : List Value := (List.range n).map (fun j => Value.int .i64 ((l.count j : Nat) : Int))
theorem cntV_len (n : Nat) (l : List Nat) : (cntV n l).length = n := by simp [cntV]
theorem cntV_get {n : Nat} {l : List Nat} {k : Nat} (hk : k < n) : (cntV n l)[k]? = some (.int .i64 ((l.count k : Nat) : Int)) := by
  unfold cntV
  rw [List.getElem?_map, List.getElem?_range hk]; rfl
theorem cntV_zero (n : Nat) : cntV n [] = List.replicate n (.int .i64 0) := by
  apply List.ext_getElem?
  intro j
  by_cases h : j < n
  · rw [cntV_get h, List.getElem?_replicate, if_pos h]; simp
  · rw [List.getElem?_eq_none (by rw [cntV_len]; omega), List.getElem?_eq_none (by simp; omega)]
theorem cntV_step {n : Nat} {l : List Nat} {i k : Nat} (hk : l[i]? = some k) (hn : k < n) : (cntV n (l.take i)).set k (.int .i64 ((((l.take i).count k : Nat) : Int) + 1)) = cntV n (l.take (i + 1)) := by
  apply List.ext_getElem?
  intro j
  rw [List.take_add_one, hk]
  by_cases h : j < n
  · rw [cntV_get h]
    by_cases hj : k = j
    · subst hj
      rw [List.getElem?_set_self (by rw [cntV_len]; exact hn)]
      simp
    · rw [List.getElem?_set_ne hj, cntV_get h]
      simp [List.count_append, hj]
  · rw [List.getElem?_eq_none (by simp [cntV_len]; omega), List.getElem?_eq_none (by rw [cntV_len]; omega)]
theorem count_perm {l : List Nat} {n : Nat} (h : l.Perm (List.range n)) {k : Nat} (hk : k < n) : l.count k = 1 := by
  rw [h.count_eq, List.nodup_range.count, if_pos (List.mem_range.2 hk)]
end Go.Proofs.YtfklheagafffmaaGreatDoor

namespace Go.Proofs.YtfklheagafffmaaGreatDoor
open Go.RowKit
theorem under_set2 : Tryz.prog.underlying 62 = some (.map 9 3) := Tryz.underlying62
theorem sz_rule {x : GRule} {l : Int} (h : 0 ≤ szR x l) (hl : l ≤ 1500) : (ruleT x).length ≤ 1500 ∧ (x.body.length : Int) ≤ l := by
  have h1 := (szR_all h hl).1
  refine ⟨by unfold ruleT; rw [List.length_append]; exact h1.all, ?_⟩
  unfold szR at h
  have h0 := szA_le x.head l
  obtain ⟨h2, h3, -⟩ := szB_all _ _ h (by omega)
  have h4 := szA_len h3
  omega
theorem safeWhole_walk (d : Nat) (x : GRule) (aA : Option Addr) (an ac : Nat) (b_A : Option Addr) (b_n b_c : Nat) (w : World) (hx : RuleAt d w w.heap.size x ⟨aA, an, ac⟩ ⟨b_A, b_n, b_c⟩) (hW : ParW w) :
    Calls Tryz.prog 4 #[.agg (ruleC x ⟨aA, an, ac⟩ ⟨b_A, b_n, b_c⟩).toArray] w (RetBool true w) := by
  have Hbn : Hid (x.body.length = b_n) := hx.body.1
  obtain ⟨V, hV⟩ : ∃ V, V = w.alloc (.cells (ruleC x ⟨aA, an, ac⟩ ⟨b_A, b_n, b_c⟩).toArray 27) := ⟨_, rfl⟩
  have HVe := Lib.hid hV.symm
  have hg : V.heap[w.heap.size]? = some (.cells (ruleC x ⟨aA, an, ac⟩ ⟨b_A, b_n, b_c⟩).toArray 27 (0, 0)) := by rw [hV]; exact heapNew rfl
  have hbV : Below w.heap.size w V := by rw [hV]; exact belowA (Below.refl _ _) _
  have hgl : w.heap.size < V.heap.size := (Array.getElem?_eq_some_iff.1 hg).1
  have HbV := Lib.hid hbV
  have HRow : Hid (∀ W, Below V.heap.size V W → W.heap[w.heap.size]? = some (.cells (ruleC x ⟨aA, an, ac⟩ ⟨b_A, b_n, b_c⟩).toArray 27 (0, 0))) := fun W hW => (hW.block _ hgl).trans hg
  have HRA : Hid (∀ W, Below V.heap.size V W → RuleAt d W W.heap.size x ⟨aA, an, ac⟩ ⟨b_A, b_n, b_c⟩) := fun W hW => (hx.keep hbV).keep hW
  have HPW : Hid (∀ W, Below V.heap.size V W → ParW W) := fun W hWb => hW.on (hbV.trans (hWb.mono hbV.size))
  have K27 : Hid ((Tryz.prog.info? 27).map (·.size) = some (ruleC x ⟨aA, an, ac⟩ ⟨b_A, b_n, b_c⟩).length) := by show _ = some 6; kernel_rfl
  have HAl := Lib.hid (alive9_any V (HPW.out V (Below.refl _ _)))
  clear hx hW hV hg hbV
  go_enter Tryz.func4, Tryz.ntmps4
  go_wp2_with (rw [HVe.out])
  refine HAl.out.mono ?_
  rintro e w1 ⟨rfl, hb1⟩
  have HB1 := Lib.hid hb1
  have HSz := Lib.hid (szRule_any d x ⟨aA, an, ac⟩ ⟨b_A, b_n, b_c⟩ 400 w1 (HRA.out w1 hb1) (by omega) (by omega))
  have HR1 := Lib.hid (row_cells (HRow.out w1 hb1))
  clear hb1 HAl
  go_wp2_with (refine wpList_load_at w.heap.size 0 (ruleC x ⟨aA, an, ac⟩ ⟨b_A, b_n, b_c⟩) _ HR1.out Tryz.underlying27 rfl K27.out rfl rfl ?_)
  refine HSz.out.mono ?_
  rintro e w2 ⟨rfl, hb2⟩
  have HB2 : Hid (Below V.heap.size V w2) := HB1.out.trans (hb2.mono HB1.out.size)
  have HE2 : Hid (Below w.heap.size w w2) := HbV.out.trans (HB2.out.mono HbV.out.size)
  clear hb2 HSz
  obtain ⟨R, HRe⟩ : ∃ R, Hid (szR x 400 = R) := ⟨_, rfl⟩
  rw [HRe.out]
  by_cases hs : R < 0
  · go_wp2_with fail
    go_ret
    exact ⟨rfl, HE2.out⟩
  obtain ⟨hrt, hbl⟩ := sz_rule (x := x) (l := 400) (by rw [HRe.out]; omega) (by omega)
  rw [Hbn.out] at hbl
  have hbn4 : b_n ≤ 400 := by omega
  have HRT := Lib.hid hrt
  have HRR := Lib.hid (rightRule_any d x ⟨aA, an, ac⟩ ⟨b_A, b_n, b_c⟩ w2 (HRA.out w2 HB2.out) (HPW.out w2 HB2.out).lex)
  have HR2 := Lib.hid (row_cells (HRow.out w2 HB2.out))
  clear hrt hbl
  have e0 : decide (R < 0) = false := by simp; omega
  go_wp2_with (first | rw [e0] | refine wpList_load_at w.heap.size 0 (ruleC x ⟨aA, an, ac⟩ ⟨b_A, b_n, b_c⟩) _ HR2.out Tryz.underlying27 rfl K27.out rfl rfl ?_)
  refine HRR.out.mono ?_
  rintro e w3 ⟨rfl, hb3⟩
  have HB3 : Hid (Below V.heap.size V w3) := HB2.out.trans (hb3.mono HB2.out.size)
  have HE3 : Hid (Below w.heap.size w w3) := HbV.out.trans (HB3.out.mono HbV.out.size)
  clear hb3 HRR
  cases hr : rightRule x with
  | false =>
    clear hr
    go_wp2_with fail
    go_ret
    exact ⟨rfl, HE3.out⟩
  | true =>
  have HRt := Lib.hid hr
  have HUn := Lib.hid (unbound_any (HRA.out w3 HB3.out) HRT.out (by rw [Hbn.out]; omega))
  have HR3 := Lib.hid (row_cells (HRow.out w3 HB3.out))
  clear hr
  go_wp2_with (refine wpList_load_at w.heap.size 0 (ruleC x ⟨aA, an, ac⟩ ⟨b_A, b_n, b_c⟩) _ HR3.out Tryz.underlying27 rfl K27.out rfl rfl ?_)
  refine HUn.out.mono ?_
  rintro e w4 ⟨S, A4, m4, c4, rfl, hbd4, hs4, hb4⟩
  have HB4 : Hid (Below V.heap.size V w4) := HB3.out.trans (hb4.mono HB3.out.size)
  have HE4 : Hid (Below w.heap.size w w4) := HbV.out.trans (HB4.out.mono HbV.out.size)
  have Hm4 : Hid ((sieveL x S false).length = m4) := hs4.1
  have HBd := Lib.hid hbd4
  clear hb4 hs4 HUn hbd4
  by_cases hm : m4 = 0
  rotate_left
  · have i4 : (0 : Int) < (m4 : Int) := by omega
    go_wp2_with fail
    go_ret
    exact ⟨rfl, HE4.out⟩
  subst hm
  have HLaw := Lib.hid (whole_law HRt.out HBd.out (List.length_eq_zero_iff.1 Hm4.out))
  have hz4 := HB4.out.size
  obtain ⟨U, hU⟩ : ∃ U, U = w4.alloc (.cells (madeCells #[.int .i64 0] b_n) 3) := ⟨_, rfl⟩
  have HUe := Lib.hid hU.symm
  have hbU : Below w4.heap.size w4 U := by rw [hU]; exact belowA (Below.refl _ _) _
  have hzU : U.heap.size = w4.heap.size + 1 := by rw [hU]; simp
  have hgm : U.heap[w4.heap.size]? = some (.cells (cntV b_n []).toArray 3 (0, 0)) := by
    rw [hU, cntV_zero]
    have e : (List.replicate b_n (Value.int .i64 0)).toArray = madeCells #[.int .i64 0] b_n := by rw [← toList_madeCells_one]
    rw [e]; exact heapNew rfl
  obtain ⟨Y, hY⟩ : ∃ Y, Y = U.alloc (.map #[] 0) := ⟨_, rfl⟩
  have HYe := Lib.hid hY.symm
  have hbY : Below U.heap.size U Y := by rw [hY]; exact belowA (Below.refl _ _) _
  have hzY : Y.heap.size = w4.heap.size + 2 := by rw [hY]; simp; omega
  have hmk := fun W => run_make_row' (P := Tryz.prog) 37 3 (.int .i64 0) 8 Tryz.underlying37 int_infoD rfl .i64 .i64 b_n (by omega) (by omega) W
  have hmm := @run_makeMap Tryz.prog
  have HBY : Hid (Below V.heap.size V Y) := (HB4.out.trans (hbU.mono hz4)).trans (hbY.mono (by omega))
  have HSY : Hid (SetV Y (w4.heap.size + 1) [] 0) := by
    have h : SetV Y U.heap.size [] 0 := by rw [hY]; exact SetV.made
    rw [hzU] at h; exact h
  have HGY : Hid (Y.heap[w4.heap.size]? = some (.cells (cntV b_n []).toArray 3 (0, 0))) := (hbY.block _ (by omega)).trans hgm
  have HOr := Lib.hid (order_any (HRA.out Y HBY.out) HRT.out (by rw [Hbn.out]; omega))
  have HRY := Lib.hid (row_cells (HRow.out Y HBY.out))
  have d4 : w4.cell? ⟨w.heap.size, 4, none⟩ = some (.slice b_A b_n b_c) := (facts6 (HRow.out w4 HB4.out)).2.2.2.2.1
  clear hU hbU hY hbY hgm
  go_wp2_with (first
    | rw [HUe.out]
    | rw [HYe.out]
    | refine wpList_load_at w.heap.size 0 (ruleC x ⟨aA, an, ac⟩ ⟨b_A, b_n, b_c⟩) _ HRY.out Tryz.underlying27 rfl K27.out rfl rfl ?_)
  clear hmk hmm d4 HUe HYe
  refine HOr.out.mono ?_
  rintro e w5 ⟨A5, c5, rfl, ho5, hb5⟩
  have hol := orderK_len x.body
  rw [Hbn.out] at hol
  obtain ⟨ord, Hord⟩ : ∃ ord, Hid (orderK x.body = ord) := ⟨_, rfl⟩
  rw [Hord.out] at ho5 HLaw hol ⊢
  obtain ⟨on, Hon⟩ : ∃ on, Hid (ord.length = on) := ⟨_, rfl⟩
  rw [Hon.out] at ho5 hol ⊢
  rw [Hbn.out] at HLaw
  have hz5 := hb5.size
  obtain ⟨gm, hgm⟩ : ∃ gm, gm = w4.heap.size := ⟨_, rfl⟩
  rw [← hgm] at HSY HGY hzY hz4 ⊢
  have HG5 : Hid (w5.heap[gm]? = some (.cells (cntV b_n (ord.take 0)).toArray 3 (0, 0))) := (hb5.block _ (by omega)).trans (by rw [List.take_zero]; exact HGY.out)
  have HS5 : Hid (SetV w5 (gm + 1) (varsOf x.body (ord.take 0)) 0) := by show SetV _ _ _ _; rw [List.take_zero]; exact HSY.out.below hb5
  have HB5 : Hid (Below V.heap.size V w5) := HBY.out.trans (hb5.mono HBY.out.size)
  have HKp : Hid (∀ W, Out [gm, gm + 1] w5 W → Below V.heap.size V W) := fun W hW => HB5.out.trans ⟨hW.os, hW.tape, hW.output, hW.size, fun b' hb' => hW.block b' (by have := HB5.out.size; omega) (by simp; omega)⟩
  have Hlt : Hid (∀ k ∈ ord, k < b_n) := fun k hk => List.mem_range.1 (HLaw.out.1.mem_iff.1 hk)
  have HOrd : Hid (∀ W, Out [gm, gm + 1] w5 W → SliceIs Enc.int W W.heap.size A5 on c5 (intL ord)) := fun W hW =>
    ints_is (own_out' ho5 hW (fun b' hb' hm => by have := (own_blk ho5 hb').1; simp at hm; omega)) (by simp [intL, Hon.out]) (by omega) (intL_fits Hlt.out (by omega))
  clear ho5 hb5 HOr HSY HGY hgm HBY HRY
  go_wp2_with fail
  go_loopw [37] (fun i wr => ∃ (k M : Nat), k ≤ on ∧ i = .int .i64 (k : Int) ∧ M ≤ 1500 * k ∧ Hid (wr.heap[gm]? = some (.cells (cntV b_n (ord.take k)).toArray 3 (0, 0))) ∧ Hid (SetV wr (gm + 1) (varsOf x.body (ord.take k)) M) ∧ Hid (Out [gm, gm + 1] w5 wr)) (fun i _ => on - (intOf i).toNat)
  case atStart => exact ⟨0, 0, by omega, rfl, by omega, HG5, HS5, Out.refl _ _⟩
  case round =>
    clear HG5 HS5
    obtain ⟨k, M, hk, rfl, hM, HG, HS, HO⟩ := hrel
    have i0 : (0 : Int) ≤ (k : Int) := by omega
    by_cases hlt : k < on
    · have i1 : (k : Int) < (on : Int) := by omega
      obtain ⟨bo, oo, q', hA5, hbo, hq', x0, -⟩ := (HOrd.out wr HO.out).int_at hlt
      obtain ⟨q, Hq, rfl⟩ : ∃ q : Nat, Hid (ord[k]? = some q) ∧ q' = (q : Int) := by
        have h := hq'.out
        unfold intL at h
        rw [List.getElem?_map, Option.map_eq_some_iff] at h
        obtain ⟨q, h1, h2⟩ := h
        exact ⟨q, h1, h2.symm⟩
      subst hA5
      have hqn : q < b_n := Hlt.out q (List.mem_of_getElem? Hq.out)
      have j0 : (0 : Int) ≤ (q : Int) := by omega
      have j1 : (q : Int) < (b_n : Int) := by omega
      obtain ⟨cq, Hcq⟩ : ∃ cq : Nat, Hid ((ord.take k).count q = cq) := ⟨_, rfl⟩
      have hcq : cq ≤ 400 := by
        rw [← Hcq.out]
        have := List.count_le_length (a := q) (l := ord.take k)
        rw [List.length_take] at this
        omega
      have y0 : wr.cell? ⟨gm, q, none⟩ = some (.int .i64 (cq : Int)) := by
        rw [cell_of_row _ _ q _ _ _ HG.out, List.getElem?_toArray, cntV_get hqn, Hcq.out]
      have y1 : wr.frozen? ⟨gm, q, none⟩ = false := frozen_of_row _ _ _ _ _ HG.out
      have y2 : (0 : Int) ≤ (cq : Int) := by omega
      have y3 : (cq : Int) < 1000 := by omega
      obtain ⟨Z, hZ⟩ : ∃ Z, Z = wr.setCell ⟨gm, q, none⟩ (.int .i64 ((cq : Int) + 1)) := ⟨_, rfl⟩
      have HZe := Lib.hid hZ.symm
      have HGZ : Hid (Z.heap[gm]? = some (.cells (cntV b_n (ord.take (k + 1))).toArray 3 (0, 0))) := by
        show _ = _
        rw [hZ, ← cntV_step Hq.out hqn, Hcq.out]
        simp [World.setCell, Array.getElem?_modify, HG.out]
      have hOZ : Out [gm] wr Z := by rw [hZ]; exact set_out wr gm q _
      have HSZ : Hid (SetV Z (gm + 1) (varsOf x.body (ord.take k)) M) := HS.out.same (hOZ.block _ HS.out.lt (by simp))
      have HOZ : Hid (Out [gm, gm + 1] w5 Z) := HO.out.trans hOZ (fun b' hb' _ => by simp at hb' ⊢; exact .inl hb')
      obtain ⟨bb, o, y, cs, hbA', hblt, hy, ⟨a', p', q2, rfl, hL⟩, hcs⟩ := (HRA.out Z (HKp.out Z HOZ.out)).body.cells_at hqn
      dsimp only at hbA'
      subst hbA'
      have HyL : Hid ((insideL y).length ≤ 1500) := by
        have h1 := flatMap_len x.body insideL (q + 1)
        rw [flatMap_take hy.out, List.length_append] at h1
        have h2 := HRT.out
        unfold ruleT at h2
        rw [List.length_append] at h2
        show _ ≤ _
        omega
      have HCs : Hid (∀ j' v, (litC y a' p' q2)[j']? = some v → Z.cell? ⟨bb, o + q * 17 + j', none⟩ = some v) := hcs
      have K70 : Hid ((Tryz.prog.info? 70).map (·.size) = some (litC y a' p' q2).length) := by show _ = some 17; kernel_rfl
      have HIn := Lib.hid (inT_any d y a' p' q2 Z hL HyL.out)
      have HVs : Hid (∀ s ∈ varsL y, s.size ≤ reachN) := fun s hs => by
        obtain ⟨t, ht, rfl, -⟩ := varsL_has.1 hs
        exact (inside_ok hL t ht).1
      have HT : Hid (varsOf x.body (ord.take (k + 1)) = varsOf x.body (ord.take k) ++ varsL y) := varsOf_take Hq.out hy.out
      have d4 : Z.cell? ⟨w.heap.size, 4, none⟩ = some (.slice (some ⟨bb, o, none⟩) b_n b_c) := (facts6 (HRow.out Z (HKp.out Z HOZ.out))).2.2.2.2.1
      clear hZ hOZ hL hcs hy hq' HG HS HO
      go_wp2_with (first
        | rw [HZe.out]
        | refine wpList_load_at bb (o + q * 17) (litC y a' p' q2) _ HCs.out Tryz.underlying70 rfl K70.out rfl rfl ?_)
      refine HIn.out.mono ?_
      rintro e w6 ⟨A6, c6, rfl, ho6, hb6⟩
      have hz6 := hb6.size
      have hzo := HOZ.out.size
      have hvl : (varsL y).length ≤ 1500 := Nat.le_trans (varsL_le y) HyL.out
      obtain ⟨vn, Hvn⟩ : ∃ vn, Hid ((varsL y).length = vn) := ⟨_, rfl⟩
      have hvn : (putL [] (insideL y)).length = vn := Hvn.out
      have ho6' : w6.ownsRow Z.heap.size 9 1 (.slice A6 (varsL y).length c6) (varsL y).length ((varsL y).flatMap strC) := ho6
      rw [Hvn.out] at ho6' hvl
      have HRw6 : Hid (∀ W, Out [gm + 1] w6 W → SliceIs Enc.str W W.heap.size A6 vn c6 (varsL y)) := fun W hW =>
        texts_is (own_out' ho6' hW (fun b' hb' hm => by have := (own_blk ho6' hb').1; simp at hm; omega)) Hvn.out (by omega) HVs.out
      have HG6 : Hid (w6.heap[gm]? = some (.cells (cntV b_n (ord.take (k + 1))).toArray 3 (0, 0))) := (hb6.block _ (by omega)).trans HGZ.out
      have HS6 : Hid (SetV w6 (gm + 1) (varsOf x.body (ord.take k) ++ (varsL y).take 0) (M + 0)) := by show SetV _ _ _ _; rw [List.take_zero, List.append_nil]; exact HSZ.out.below hb6
      have HO6 : Hid (Out [gm, gm + 1] w5 w6) := HOZ.out.trans (Out.of_below hb6 _) (fun b' hb' _ => hb')
      rw [hvn]
      clear ho6 ho6' hb6 HIn HCs HZe HGZ HSZ HOZ d4 y0 y1
      go_wp2_with fail
      go_loopw [62] (fun i wr => ∃ j : Nat, j ≤ vn ∧ i = .int .i64 (j : Int) ∧ Hid (SetV wr (gm + 1) (varsOf x.body (ord.take k) ++ (varsL y).take j) (M + j)) ∧ Hid (Out [gm + 1] w6 wr)) (fun i _ => vn - (intOf i).toNat)
      case atStart => exact ⟨0, by omega, rfl, HS6, Out.refl _ _⟩
      case round =>
        clear HS6
        obtain ⟨j, hj, rfl, HS, HO⟩ := hrel
        have m0 : (0 : Int) ≤ (j : Int) := by omega
        by_cases hjl : j < vn
        · have m1 : (j : Int) < (vn : Int) := by omega
          obtain ⟨bv, ov, s, hA6, -, hs, x1, -⟩ := (HRw6.out wr HO.out).str_at hjl
          subst hA6
          obtain ⟨cn, u1, v0, v1, w7, u2', sv2, g2, z2⟩ := HS.out.put under_set2 under_key (zero_cnt _) s
          have v2 : cn + 1 ≤ 100000001 := by omega
          have HS7 : Hid (SetV w7 (gm + 1) (varsOf x.body (ord.take k) ++ (varsL y).take (j + 1)) (M + (j + 1))) := by
            have e : (varsL y).take (j + 1) = (varsL y).take j ++ [s] := by rw [List.take_add_one, hs.out]; rfl
            show SetV _ _ _ _
            rw [e, ← List.append_assoc]
            refine (SetV.congr sv2 (fun s' => ?_)).mono (by omega)
            simp only [List.mem_cons, List.mem_append, List.not_mem_nil, or_false]
            constructor
            · rintro (h | h | h)
              · exact .inr h
              · exact .inl (.inl h)
              · exact .inl (.inr h)
            · rintro ((h | h) | h)
              · exact .inr (.inl h)
              · exact .inr (.inr h)
              · exact .inl h
          have HO7 : Hid (Out [gm + 1] w6 w7) := HO.out.trans (grown_out g2) (fun b hb _ => by simpa using hb)
          clear hs sv2 g2 z2 HS HO
          go_wp2_with fail
          go_roundw
          case rel => exact ⟨j + 1, by omega, by go_num, HS7, HO7⟩
          case measure => simp [intOf]; omega
        · obtain rfl : vn = j := by omega
          have m1 : ¬ (vn : Int) < (vn : Int) := by omega
          have HSe : Hid (SetV wr (gm + 1) (varsOf x.body (ord.take (k + 1))) (M + vn)) := by
            have h := HS.out
            rw [List.take_of_length_le (l := varsL y) (i := vn) (by rw [Hvn.out]; exact Nat.le_refl _), ← HT.out] at h
            exact h
          have HGe : Hid (wr.heap[gm]? = some (.cells (cntV b_n (ord.take (k + 1))).toArray 3 (0, 0))) := (HO.out.block _ (Array.getElem?_eq_some_iff.1 HG6.out).1 (by simp)).trans HG6.out
          have HOe : Hid (Out [gm, gm + 1] w5 wr) := HO6.out.trans HO.out (fun b' hb' _ => by simp at hb' ⊢; exact .inr hb')
          clear HS HO HG6 HO6
          go_wp2_with fail
          go_roundw
          case rel => exact ⟨k + 1, M + vn, by omega, by go_num, by omega, HGe, HSe, HOe⟩
          case measure => simp [intOf]; omega
    · obtain rfl : on = k := by omega
      have i1 : ¬ (on : Int) < (on : Int) := by omega
      have hto : ord.take on = ord := List.take_of_length_le (by rw [Hon.out]; exact Nat.le_refl _)
      rw [hto] at HG HS
      have hbW := HKp.out wr HO.out
      have HBW := Lib.hid hbW
      have HRr := Lib.hid (row_cells (HRow.out wr hbW))
      have HVa := Lib.hid (vars_any d x ⟨aA, an, ac⟩ ⟨b_A, b_n, b_c⟩ wr (HRA.out wr hbW) HRT.out)
      have HOkV := Lib.hid (rule_ok (HRA.out wr hbW))
      have HRe : Hid (∀ k, k < b_n → wr.cell? ⟨gm, k, none⟩ = some (.int .i64 1)) := fun k hk => by
        rw [cell_of_row _ _ k _ _ _ HG.out, List.getElem?_toArray, cntV_get hk, count_perm HLaw.out.1 hk]; rfl
      have HEw : Hid (Below w.heap.size w wr) := HbV.out.trans (hbW.mono HbV.out.size)
      clear hto HG hbW HO
      go_wp2_with fail
      go_loopw [74] (fun i wr2 => ∃ k : Nat, k ≤ b_n ∧ i = .int .i64 (k : Int) ∧ wr2 = wr) (fun i _ => b_n - (intOf i).toNat)
      case atStart => exact ⟨0, by omega, rfl, rfl⟩
      case round =>
        obtain ⟨k, hk, rfl, rfl⟩ := hrel
        have m0 : (0 : Int) ≤ (k : Int) := by omega
        by_cases hlt2 : k < b_n
        · have m1 : (k : Int) < (b_n : Int) := by omega
          have x1 := HRe.out k hlt2
          go_wp2_with fail
          go_roundw
          case rel => exact ⟨k + 1, by omega, by go_num, by first | rfl | trivial⟩
          case measure => simp [intOf]; omega
        · obtain rfl : b_n = k := by omega
          have m1 : ¬ (b_n : Int) < (b_n : Int) := by omega
          obtain ⟨vn, Hvn⟩ : ∃ vn, Hid ((ruleVars x).length = vn) := ⟨_, rfl⟩
          have hvn : (putL [] (ruleT x)).length = vn := Hvn.out
          have hv15 : vn ≤ 1500 := by rw [← Hvn.out]; exact Nat.le_trans (putL_le0 _) HRT.out
          go_wp2_with (refine wpList_load_at w.heap.size 0 (ruleC x ⟨aA, an, ac⟩ ⟨b_A, b_n, b_c⟩) _ HRr.out Tryz.underlying27 rfl K27.out rfl rfl ?_)
          refine HVa.out.mono ?_
          rintro e w8 ⟨A8, c8, rfl, ho8, hb8⟩
          have hs8 : SliceIs Enc.str w8 w8.heap.size A8 (ruleVars x).length c8 (ruleVars x) := TextsPost.is ho8 (by rw [Hvn.out]; omega) (fun s hs => by
            obtain ⟨t, ht, rfl, -⟩ : ∃ t ∈ ruleT x, s = t.x ∧ t.x.toList.isEmpty = false := by
              have := putL_has.1 hs; simpa using this
            exact (HOkV.out t ht).1)
          rw [Hvn.out] at hs8
          have HS8 := Lib.hid hs8
          have HSet := Lib.hid (HS.out.below hb8)
          have HE8 : Hid (Below w.heap.size w w8) := HEw.out.trans (hb8.mono HEw.out.size)
          rw [hvn]
          clear ho8 hb8 hs8 HVa HS hvn
          go_wp2_with fail
          go_loopw [84] (fun i wr2 => ∃ k : Nat, k ≤ vn ∧ i = .int .i64 (k : Int) ∧ wr2 = w8) (fun i _ => vn - (intOf i).toNat)
          case atStart => exact ⟨0, by omega, rfl, rfl⟩
          case round =>
            obtain ⟨k, hk, rfl, rfl⟩ := hrel
            have n0 : (0 : Int) ≤ (k : Int) := by omega
            by_cases hlt3 : k < vn
            · have n1 : (k : Int) < (vn : Int) := by omega
              obtain ⟨bv, ov, s, hA8, -, hs, x1, -⟩ := HS8.out.str_at hlt3
              subst hA8
              obtain ⟨cn, u1, v0, v1, z0⟩ := HSet.out.look under_set2 under_key (zero_cnt _) s
              have hin : s ∈ varsOf x.body ord := HLaw.out.2 s (List.mem_of_getElem? hs.out)
              have z1 : (cn == 0) = false := by simp; intro h; exact (z0.1 h) hin
              clear hs z0 hin
              go_wp2_with fail
              go_roundw
              case rel => exact ⟨k + 1, by omega, by go_num, by first | rfl | trivial⟩
              case measure => simp [intOf]; omega
            · obtain rfl : vn = k := by omega
              have n1 : ¬ (vn : Int) < (vn : Int) := by omega
              go_wp2_with fail
              go_ret
              exact ⟨rfl, HE8.out⟩
end Go.Proofs.YtfklheagafffmaaGreatDoor

namespace Go.Proofs.YtfklheagafffmaaGreatDoor
open Go.ChangeShapes Go.WideShapes Go.ChangeAt Go.RowKit
set_option linter.unusedVariables false
theorem u_ruleP : ∃ fs, Tryz.prog.underlying 27 = some (.struct fs) := ⟨_, Tryz.underlying27⟩
theorem params : Tryz.f4.params = #[27] := by kernel_rfl
theorem lifted (os : Os) (started : os.Started) (H : Type) (enc : TypeId × Value → H) :
    ReturnsInHanded {} Tryz.checked os 4 .any (fun w args => (Rows.safeWholeSpec.pre enc Tryz.prog Tryz.f4 Rows.safeWholeRow.domain false w args ∧ laidMet Tryz.prog laidP w) ∧ sizedMet enc Tryz.prog Tryz.f4 (OpenSpec.ofChange Rows.safeWholeSpec) false w args)
      (Rows.safeWholeSpec.post enc Tryz.prog Tryz.f4 false true false false) := by
  refine returnsInHanded_of_change_and (C := Tryz.checked) (X := fun w _ => laidMet Tryz.prog laidP w) (fun _ _ _ hh h => h.of_heap hh) own started (by kernel_rfl) Tryz.func4
    (ChangeSpec.witness_at (enc := enc) (C := Tryz.checked) (os := os) (X := fun w _ => laidMet Tryz.prog laidP w) false (laidWorldP os) #[.agg #[.string ⟨#[]⟩, .slice none 0 0, .int .i64 0, .int .i64 0, .slice none 0 0, .int .i64 0]] 8 rfl (by kernel_rfl) (by kernel_rfl) (by kernel_rfl) (by kernel_rfl) (by kernel_rfl) (laidWorldP_met os _)) ?_
  intro W base args ds gs before hval0 hW hcnd hsz0 hL _
  have hval : ∀ (j : Nat) t v, Tryz.f4.params[j]? = some t → args[j]? = some v → Value.okWide Tryz.prog W .any base t v := hval0
  have hW' := hW
  obtain ⟨p, q, hA0, hV, rfl, hfz, hnd⟩ := hW
  have hA : DataW.TrodAll enc Tryz.prog W 0 (fun _ => true) true Tryz.f4.params.toList args.toList ds p := hA0
  have hsz : (DataW.weightsEach Tryz.prog (Tryz.f4.params.toList ++ Rows.safeWholeSpec.plain.varTypes Tryz.prog) (ds ++ gs)).all (· ≤ reachBytes) = true := hsz0
  rw [params] at hA hval hsz
  obtain ⟨v0, vs0, d0, ds0, p0, q0, hargs, rfl, rfl, h0, r0⟩ := trodAll_cons hA
  obtain ⟨rfl, rfl, rfl⟩ := trodAll_nil r0
  obtain rfl : args = #[v0] := by cases args; simp_all
  obtain ⟨rfl, rfl⟩ := trodVars_none hV
  have hwt : ∀ (j : Nat) (t : TypeId) (d : DataW H), [27][j]? = some t → [d0][j]? = some d → ∀ n ∈ d.weights Tryz.prog t, n ≤ reachBytes := fun j t d ht hd n hn => by
    have := List.all_eq_true.1 hsz n (DataW.weights_mem_each (j := j) (by rw [List.getElem?_append_left (by simpa using (List.getElem?_eq_some_iff.1 ht).1)]; exact ht) (by rw [List.getElem?_append_left (by simpa using (List.getElem?_eq_some_iff.1 hd).1)]; exact hd) n hn)
    simpa using this
  have lt0 : ∀ x ∈ p0, x.block < W.heap.size := by obtain ⟨m, hm⟩ := h0; exact DataW.trod_lt m _ _ _ hm
  obtain ⟨N0, e0, cs0, rfl, a0, b0, rfl, k0⟩ := open_encB u_ruleP o_rule (hval 0 27 v0 rfl rfl) h0 (hwt 0 _ _ rfl rfl)
  clear hA0 hval0
  refine (safeWhole_walk N0 e0 a0.A a0.n a0.c b0.A b0.n b0.c W k0 (parW_of_laidP hL)).mono fun e W' ⟨he, bel⟩ => ?_
  subst he
  exact ⟨_, rfl, _, _, _, [], _, [], hW', trodAll_mk1 (shut_bool u_bool _),
    (trodAll_cons_mk (Below.trod laidOut (by kernel_rfl) (of_decide_eq_true (by kernel_rfl)) h0 bel lt0)
      trodAll_mk0), rfl, bel.frame _, fun h => by cases h⟩
end Go.Proofs.YtfklheagafffmaaGreatDoor

namespace Go.Proofs.YtfklheagafffmaaGreatDoor
theorem closedF : joinedFacts Tryz.prog 4 Tryz.f4 Rows.safeWholeSpec Rows.safeWholeRow = true := by
  unfold joinedFacts
  simp only [Bool.and_eq_true]
  repeat' (with_reducible refine And.intro ?_ ?_)
  all_goals (as_aux_lemma => kernel_rfl)
end Go.Proofs.YtfklheagafffmaaGreatDoor
