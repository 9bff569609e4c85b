/- My own texts SdR, SfOf, as far as this claim needs them. -/
import Derived.Test.YtfklheagafffmaaGreatDoorZo27
import Derived.Test.YtfklheagafffmaaGreatDoorZo28
set_option linter.unusedVariables false
set_option linter.unusedSimpArgs false
namespace Go.Proofs.YtfklheagafffmaaGreatDoor
open Go.RowKit
theorem told_isS {w : World} {base e : Nat} {A : Option Addr} {n c : Nat} {l : List GTold} (h : w.ownsRow base e 4 (.slice A n c) n (l.flatMap GTold.cells)) (hl : l.length = n) (hn : n ≤ 1000000) (hok : ∀ t ∈ l, t.x.size ≤ reachN ∧ t.v.ok) : SliceIs Enc.told w w.heap.size A n c l :=
  SliceIs.of_flat (E := Enc.told) GTold.cells (fun _ => rfl) h hl (by simp [reachN]; omega) (fun t ht => ⟨rfl, hok t ht⟩)
set_option maxRecDepth 100000 in
set_option maxHeartbeats 8000000 in
theorem refVars_any (d : Nat) (x : GRule) (a b : Hd) (w : World) (hx : RuleAt d w w.heap.size x a b) (hsz : (ruleT x).length ≤ 1500) :
    Calls Tryz.prog 39 #[.agg (ruleC x a b).toArray] w (TextsPost (ruleVars x) w) := by
  obtain ⟨a_A, a_n, a_c⟩ := a
  obtain ⟨b_A, b_n, b_c⟩ := b
  have Hsz : Hid (x.head.args.length + (x.body.flatMap insideL).length ≤ 1500) := by unfold ruleT at hsz; simp only [List.length_append] at hsz; exact hsz
  have Hok := Lib.hid (rule_ok hx)
  have hbn := hx.body.bound
  have Hbl : Hid (x.body.length = b_n) := hx.body.1
  have hal : x.head.args.length = a_n := hx.args.1
  obtain ⟨P, HP⟩ : ∃ P : Ending → World → Prop, Hid (P = TextsPost (ruleVars x) w) := ⟨_, rfl⟩
  rw [← HP.out]
  obtain ⟨V, hV⟩ : ∃ V, V = w.alloc (.cells (ruleC x ⟨a_A, a_n, a_c⟩ ⟨b_A, b_n, b_c⟩).toArray 35) := ⟨_, rfl⟩
  have HVe := Lib.hid hV.symm
  have hg : V.heap[w.heap.size]? = some (.cells (ruleC x ⟨a_A, a_n, a_c⟩ ⟨b_A, b_n, b_c⟩).toArray 35 (0, 0)) := by rw [hV]; exact heapNew rfl
  have hbV : Below w.heap.size w V := by rw [hV]; exact belowA (Below.refl _ _) _
  have hgl : w.heap.size < V.heap.size := (Array.getElem?_eq_some_iff.1 hg).1
  have HX := Lib.hid (hx.keep hbV)
  have HbV := Lib.hid hbV
  have HC4 : Hid (∀ W, Below V.heap.size V W → W.cell? ⟨w.heap.size, 4, none⟩ = some (.slice b_A b_n b_c)) := fun W hW => (facts6 ((hW.block _ hgl).trans hg)).2.2.2.2.1
  have hb0 : Below V.heap.size V (V.alloc (.cells #[] 49)) := belowA (Below.refl _ _) _
  have c1' : (V.alloc (.cells #[] 49)).cell? ⟨w.heap.size, 1, none⟩ = some (.slice a_A a_n a_c) := (facts6 ((hb0.block _ hgl).trans hg)).2.1
  have hown0 : (V.alloc (.cells #[] 49)).ownsRow V.heap.size 49 4 (.slice (some ⟨V.heap.size, 0, none⟩) 0 0) 0 (([] : List GTold).flatMap GTold.cells) := own_empty (Nat.le_refl _) (Go.heap_alloc_new V _)
  obtain ⟨A1, c1, W1, hrun, hown1, hb1'⟩ := rterms_app hown0 (HX.out.args.below hb0) (by have := Hsz.out; show 0 + a_n ≤ _; omega) hb0.size
  dsimp only at hrun hown1
  rw [Nat.zero_add] at hrun hown1
  rw [List.nil_append] at hown1
  have HB1 : Hid (Below V.heap.size V W1) := hb0.trans hb1'
  have HO1 := Lib.hid hown1
  have HRun := Lib.hid hrun
  clear hx hsz hV hg hbV hown0 hb1' hrun hown1 hb0
  go_enter Tryz.func39, Tryz.ntmps39
  go_wp2_with (first
    | rw [HVe.out]
    | (at_builtin; refine wpList_append_run rfl _ _ _ rfl _ _ rfl rfl (HRun.out _) ?_))
  go_loopw [3, 4] (fun v i wr => ∃ (k m c' : Nat) (A' : Option Addr) (L : List GTold), k ≤ b_n ∧ i = .int .i64 (k : Int) ∧ v = .slice A' m c' ∧ Hid (x.head.args ++ (x.body.take k).flatMap insideL = L) ∧ Hid (L.length = m) ∧ Hid (wr.ownsRow V.heap.size 49 4 (.slice A' m c') m (L.flatMap GTold.cells)) ∧ Hid (Below V.heap.size V wr)) (fun _ i _ => b_n - (intOf i).toNat)
  case atStart => exact ⟨0, a_n, c1, A1, x.head.args, by omega, rfl, rfl, by show _ = _; simp, hal, HO1.out, HB1.out⟩
  case round =>
    clear HB1 HO1 HRun
    obtain ⟨k, m, c', A', L, hk, rfl, rfl, HL, HLm, HO, HB⟩ := hrel
    have i0 : (0 : Int) ≤ (k : Int) := by omega
    have c4 := HC4.out wr HB.out
    by_cases hlt : k < b_n
    · have i1 : (k : Int) < (b_n : Int) := by omega
      obtain ⟨bb, o, y, cs, hbA', hblt, hy, ⟨a', p', q', rfl, hL⟩, hcs⟩ := (HX.out.body.keep HB.out).cells_at hlt
      dsimp only at hbA'
      subst hbA'
      have HCs : Hid (∀ j' v, (litC y a' p' q')[j']? = some v → wr.cell? ⟨bb, o + k * 17 + j', none⟩ = some v) := hcs
      have K54 : Hid ((Tryz.prog.info? 54).map (·.size) = some (litC y a' p' q').length) := by show _ = some 17; kernel_rfl
      have hml : L.length + (insideL y).length ≤ 1500 := by
        have h1 := flatMap_len x.body insideL (k + 1)
        rw [flatMap_take hy.out] at h1
        simp only [List.length_append] at h1
        have h2 := Hsz.out
        rw [← HL.out]
        simp only [List.length_append]
        omega
      have hm := HLm.out
      have hyl : (insideL y).length ≤ 1500 := by omega
      have HI := Lib.hid (refInside_any d y a' p' q' wr hL hyl)
      have HT : Hid (x.head.args ++ (x.body.take (k + 1)).flatMap insideL = L ++ insideL y) := by
        show _ = _
        rw [flatMap_take hy.out, ← List.append_assoc, HL.out]
      have Hyo := Lib.hid (inside_ok hL)
      have HLs : Hid ((L ++ insideL y).length = m + (insideL y).length) := by show _ = _; rw [List.length_append, hm]
      clear hL hcs hy HL
      go_wp2_with (refine wpList_load_at bb (o + k * 17) (litC y a' p' q') _ HCs.out Tryz.underlying54 rfl K54.out rfl rfl ?_)
      refine HI.out.mono ?_
      rintro e w1 ⟨A2, c2, rfl, ho2, hb2⟩
      have hzB := HB.out.size
      have hz2 := hb2.size
      obtain ⟨A3, c3, W3, hrun, hown3, hb3⟩ := rterms_app (own_below HO.out hb2) (told_isS ho2 rfl (by omega) Hyo.out) (by omega) (by omega)
      have HRun := Lib.hid hrun
      have HO3 := Lib.hid hown3
      have HB3 : Hid (Below V.heap.size V W3) := (HB.out.trans (hb2.mono hzB)).trans hb3
      clear ho2 hb2 hrun hown3 hb3 HI HCs HO
      go_wp2_with (at_builtin; refine wpList_append_run rfl _ _ _ rfl _ _ rfl rfl (HRun.out _) ?_)
      go_roundw
      case rel => exact ⟨k + 1, m + (insideL y).length, c3, A3, L ++ insideL y, by omega, by go_num, rfl, HT, HLs, HO3, HB3⟩
      case measure => simp [intOf]; omega
    · have i1 : ¬ (k : Int) < (b_n : Int) := by omega
      have e : ruleT x = L := by
        rw [← HL.out, List.take_of_length_le (by have := Hbl.out; omega)]; rfl
      have hm := HLm.out
      have hsL : L.length ≤ 1500 := by rw [← e]; unfold ruleT; rw [List.length_append]; exact Hsz.out
      have HN := Lib.hid (refNames_any A' m c' L wr (told_isS HO.out HLm.out (by omega) (fun t ht => Hok.out t (by rw [e]; exact ht))) (by omega))
      have He : Hid (ruleVars x = putL [] L) := by show _ = _; unfold ruleVars; rw [e]
      have HBw : Hid (Below w.heap.size w wr) := HbV.out.trans (HB.out.mono HbV.out.size)
      clear HO HB HL e
      go_wp2_with fail
      refine HN.out.mono ?_
      rintro r w2 ⟨A2, c2, rfl, ho2, hb2⟩
      have HPP : Hid (P (.returned (.slice A2 (putL [] L).length c2)) w2) := by
        show P _ _
        rw [HP.out, He.out]
        exact ⟨A2, c2, rfl, own_down ho2 HBw.out.size, HBw.out.trans (hb2.mono HBw.out.size)⟩
      clear ho2 hb2 HN
      go_wp2_with fail
      exact HPP.out
set_option maxRecDepth 100000 in
set_option maxHeartbeats 8000000 in
theorem refSieve_any (d : Nat) (x : GRule) (a b : Hd) (A : Option Addr) (n c : Nat) (S : List ByteArray) (inb : Bool) (w : World) (hx : RuleAt d w w.heap.size x a b) (hS : SliceIs Enc.str w w.heap.size A n c S) (hsz : (ruleT x).length ≤ 1500) :
    Calls Tryz.prog 13 #[.agg (ruleC x a b).toArray, .slice A n c, .bool inb] w (TextsPost (sieveL x S inb) w) := by
  obtain ⟨P, HP⟩ : ∃ P : Ending → World → Prop, Hid (P = TextsPost (sieveL x S inb) w) := ⟨_, rfl⟩
  rw [← HP.out]
  obtain ⟨V, hV⟩ : ∃ V, V = w.alloc (.cells (ruleC x a b).toArray 35) := ⟨_, rfl⟩
  have HVe := Lib.hid hV.symm
  have hg : V.heap[w.heap.size]? = some (.cells (ruleC x a b).toArray 35 (0, 0)) := by rw [hV]; exact heapNew rfl
  have hbV : Below w.heap.size w V := by rw [hV]; exact belowA (Below.refl _ _) _
  have HRw := Lib.hid (row_cells hg)
  have K35 : Hid ((Tryz.prog.info? 35).map (·.size) = some (ruleC x a b).length) := by show _ = some 6; kernel_rfl
  have HVs := Lib.hid (refVars_any d x a b V (hx.keep hbV) hsz)
  have HbV := Lib.hid hbV
  have HS := Lib.hid hS
  have hvl : (ruleVars x).length ≤ 1500 := Nat.le_trans (putL_le0 _) hsz
  have HOk : Hid (∀ s ∈ ruleVars x, s.size ≤ reachN) := fun s hs => by
    obtain ⟨t, ht, rfl, -⟩ : ∃ t ∈ ruleT x, s = t.x ∧ t.x.toList.isEmpty = false := by
      have := putL_has.1 hs; simpa using this
    exact (rule_ok hx t ht).1
  obtain ⟨R, HR⟩ : ∃ R, Hid (ruleVars x = R) := ⟨_, rfl⟩
  have HF : Hid (sieveL x S inb = R.filter fun v => hasB S v == inb) := by show _ = _; unfold sieveL; rw [HR.out]
  rw [HR.out] at HVs hvl HOk
  clear hx hS hV hg hbV hsz
  go_enter Tryz.func13, Tryz.ntmps13
  go_wp2_with (first
    | rw [HVe.out]
    | refine wpList_load_at w.heap.size 0 (ruleC x a b) _ HRw.out Tryz.underlying35 rfl K35.out rfl rfl ?_)
  refine HVs.out.mono ?_
  rintro e w1 ⟨A1, c1, rfl, ho1, hb1⟩
  have HRi := Lib.hid (TextsPost.is ho1 (by omega) HOk.out)
  have HB1 : Hid (Below w.heap.size w w1) := HbV.out.trans (hb1.mono HbV.out.size)
  clear ho1 hb1 HVs
  go_wp2_with fail
  go_loopw [7, 9] (fun v i wr => ∃ (k m c' : Nat) (A' : Option Addr) (L : List ByteArray), k ≤ R.length ∧ i = .int .i64 (k : Int) ∧ v = .slice A' m c' ∧ Hid ((R.take k).filter (fun v => hasB S v == inb) = L) ∧ m ≤ k ∧ Hid (L.length = m) ∧ Hid (wr.ownsRow w1.heap.size 9 1 (.slice A' m c') m (L.flatMap strC)) ∧ Hid (Below w1.heap.size w1 wr)) (fun _ i _ => R.length - (intOf i).toNat)
  case atStart => exact ⟨0, 0, 0, none, [], by omega, rfl, rfl, by show _ = _; simp, by omega, rfl, World.ownsRow_nil _ _ _ _, Below.refl _ _⟩
  case round =>
    obtain ⟨k, m, c', A', L, hk, rfl, rfl, HL, hmk, HLm, HO, HB⟩ := hrel
    have i0 : (0 : Int) ≤ (k : Int) := by omega
    by_cases hlt : k < R.length
    · have i1 : (k : Int) < (R.length : Int) := by omega
      obtain ⟨bb, o, s, rfl, hbb, hs, x0, -⟩ := (HRi.out.keep HB.out).str_at hlt
      have HC := Lib.hid (has_any A n c S s wr ((HS.out.keep HB1.out).keep HB.out))
      have HSt : Hid ((R.take (k + 1)).filter (fun v => hasB S v == inb) = if (decide (s ∈ S) == inb) = true then L ++ [s] else L) := by
        show _ = _
        rw [List.take_add_one, hs.out, List.filter_append, HL.out]
        simp only [Option.toList_some, List.filter_cons, List.filter_nil, hasB]
        split <;> simp_all
      have hzB := HB.out.size
      have hz1 := HB1.out.size
      go_wp2_with fail
      refine HC.out.mono ?_
      rintro e w2 ⟨rfl, hb2⟩
      have hz2 := hb2.size
      have HO2 := Lib.hid (own_below HO.out hb2)
      have HB2 : Hid (Below w1.heap.size w1 w2) := HB.out.trans (hb2.mono hzB)
      have x0b : w2.cell? ⟨bb, o + k, none⟩ = some (.string s) := (hb2.cell (p := ⟨bb, o + k, none⟩) hbb).trans x0
      clear hb2 HC x0 HO
      cases hq : (decide (s ∈ S) == inb) with
      | true =>
        rw [hq] at HSt
        simp only [if_true] at HSt
        obtain ⟨A2, c2, w3, hrun, hown2, hb3, hk3⟩ := str_push HO2.out s (by omega) (by omega)
        have HRun := Lib.hid hrun
        have HO3 := Lib.hid hown2
        have HB3 : Hid (Below w1.heap.size w1 w3) := HB2.out.trans hb3
        have HLm2 : Hid ((L ++ [s]).length = m + 1) := by show _ = _; simp [HLm.out]
        clear hrun hown2 hb3 hk3 HO2
        go_wp2_with (at_builtin; refine wpList_append_run rfl _ _ _ rfl _ _ rfl rfl (HRun.out _) ?_)
        go_roundw
        case rel => exact ⟨k + 1, m + 1, c2, A2, L ++ [s], by omega, by go_num, rfl, HSt, by omega, HLm2, HO3, HB3⟩
        case measure => simp [intOf]; omega
      | false =>
        rw [hq] at HSt
        simp only [Bool.false_eq_true, if_false] at HSt
        go_wp2_with fail
        go_roundw
        case rel => exact ⟨k + 1, m, c', A', L, by omega, by go_num, rfl, HSt, by omega, HLm, HO2, HB2⟩
        case measure => simp [intOf]; omega
    · have i1 : ¬ (k : Int) < (R.length : Int) := by omega
      have e : (R.filter fun v => hasB S v == inb) = L := by rw [← HL.out, List.take_of_length_le (by omega)]
      have HPP : Hid (P (.returned (.slice A' m c')) wr) := by
        show P _ _
        rw [HP.out, HF.out, e]
        exact ⟨A', c', by rw [HLm.out], by rw [HLm.out]; exact own_down HO.out HB1.out.size, HB1.out.trans (HB.out.mono HB1.out.size)⟩
      clear e HO HB HL
      go_wp2_with fail
      first | exact HPP.out | (go_ret; exact HPP.out)
end Go.Proofs.YtfklheagafffmaaGreatDoor

namespace Go.Proofs.YtfklheagafffmaaGreatDoor
open Go.RowKit
set_option maxRecDepth 100000 in
set_option maxHeartbeats 2000000 in
theorem termOf_any (d : Nat) (e : GExp) (A : Option Addr) (n c : Nat) (w : World) (hk : SliceIs (Enc.exp d) w w.heap.size A n c e.kids) (hx : e.t.x.size ≤ reachN) (hv : e.t.v.ok) (hsz : (leavesE e).length ≤ 1500) :
    Calls Tryz.prog 99 #[expV e A n c] w (TextsPost (varsE e) w) := by
  have HK := Lib.hid hk
  have Hsz := Lib.hid hsz
  have Hok := Lib.hid (leaves_ok d e A n c w _ hk hx hv)
  obtain ⟨P, HP⟩ : ∃ P : Ending → World → Prop, Hid (P = TextsPost (varsE e) w) := ⟨_, rfl⟩
  rw [← HP.out]
  have hbw : Below w.heap.size w (w.alloc (.cells #[.int .i64 e.op, .string e.t.x, .int .i64 e.t.v.k, .int .i64 e.t.v.n, .string e.t.v.s, .slice A n c] 68)) := belowA (Below.refl _ _) _
  have HBw := Lib.hid hbw
  have HT := Lib.hid (fun W => termsF_any2 W e A n c)
  clear hk hsz hx hv hbw
  go_enter Tryz.func99, Tryz.ntmps99
  go_wp2_with fail
  refine (HT.out _).mono ?_
  rintro r w1 ⟨g, rfl, hg, hzg, hb1⟩
  have hb2 : Below w.heap.size w w1 := HBw.out.trans (hb1.mono HBw.out.size)
  have HC := Lib.hid (collect_any hg w (by have := HBw.out.size; omega) hb2 HK.out Hsz.out)
  have HB1 := Lib.hid hb2
  clear hg hzg hb1 hb2 HT
  go_wp2_with fail
  refine HC.out.mono ?_
  rintro r w2 ⟨A1, c1, rfl, ho1, hb2⟩
  have hz1 := HB1.out.size
  have hz2 := hb2.size
  have HB2 : Hid (Below w.heap.size w w2) := HB1.out.trans (hb2.mono HB1.out.size)
  have HC2 := Lib.hid (put_any w2.heap.size none 0 0 [] A1 (leavesE e).length c1 (leavesE e) w2 (Nat.le_refl _) rfl (World.ownsRow_nil _ _ _ _) (fun _ h => by cases h) (fun W hk hb => told_own (own_below ho1 hb) rfl (by have := Hsz.out; omega) Hok.out) (by have := Hsz.out; omega))
  clear HC ho1 hb2
  go_wp2_with fail
  refine HC2.out.mono ?_
  rintro r w3 ⟨A2, c2, rfl, ho2, -, hb3⟩
  have HPP : Hid (P (.returned (.slice A2 (putL [] (leavesE e)).length c2)) w3) := by
    show P _ _
    rw [HP.out]
    exact ⟨A2, c2, rfl, own_down ho2 (by omega), below_next HB2.out hb3⟩
  clear HC2 ho2 hb3
  go_wp2_with fail
  exact HPP.out
end Go.Proofs.YtfklheagafffmaaGreatDoor
