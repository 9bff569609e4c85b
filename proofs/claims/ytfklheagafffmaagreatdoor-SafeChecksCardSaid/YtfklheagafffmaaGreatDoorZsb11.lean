/- My own texts SdC, CpDoc, SfChs, as far as this claim needs them. -/
import Derived.Test.YtfklheagafffmaaGreatDoorZsb8
import Derived.Test.YtfklheagafffmaaGreatDoorZsb10
set_option linter.unusedVariables false
set_option linter.unusedSimpArgs false
set_option maxRecDepth 1000000
set_option maxHeartbeats 16000000
namespace Go.Proofs.YtfklheagafffmaaGreatDoor
open Go.RowKit
theorem rrule_info : (Tryz.prog.info? 35).map (fun i => (i.zero, i.size)) = some (some (.agg zRuleC.toArray), zRuleC.toArray.size) := by kernel_rfl
theorem rrule_size (x : GRule) (a b : Hd) : (Tryz.prog.info? 35).map (·.size) = some (ruleC x a b).length := by
  show _ = some 6
  kernel_rfl
def ChkR (r : Int × Int) (w : World) (e : Ending) (w' : World) : Prop := e = .returned (.tuple #[.int .i64 r.1, .int .i64 r.2]) ∧ Below w.heap.size w w'
theorem refCheck_any (d : Nat) (x : GProg) (aA : Option Addr) (an ac : Nat) (bA : Option Addr) (bn bc : Nat) (w : World) (hx : ProgAt d w w.heap.size x ⟨aA, an, ac⟩ ⟨bA, bn, bc⟩) (hsm : SmProg x) :
    Calls Tryz.prog 22 #[.agg (progC ⟨aA, an, ac⟩ ⟨bA, bn, bc⟩).toArray] w (ChkR (chkP x) w) := by
  have hbn := hx.rules.bound
  have Hbl : Hid (x.rules.length = bn) := hx.rules.1
  obtain ⟨V, hV⟩ : ∃ V, V = w.alloc (.cells #[.slice aA an ac, .slice bA bn bc] 85) := ⟨_, rfl⟩
  have HVe := Lib.hid hV.symm
  have hg : V.heap[w.heap.size]? = some (.cells #[.slice aA an ac, .slice bA bn bc] 85 (0, 0)) := by rw [hV]; exact heapNew rfl
  have hbV : Below w.heap.size w V := by rw [hV]; exact belowA (Below.refl _ _) _
  have hgl : w.heap.size < V.heap.size := (Array.getElem?_eq_some_iff.1 hg).1
  have HbV := Lib.hid hbV
  obtain ⟨c0, c1⟩ := facts2 hg
  have HX := Lib.hid (hx.keep hbV)
  have HF := Lib.hid (refFormed_any d x ⟨aA, an, ac⟩ ⟨bA, bn, bc⟩ V HX.out)
  have HC1 : Hid (∀ W, Below V.heap.size V W → W.cell? ⟨w.heap.size, 1, none⟩ = some (.slice bA bn bc)) := fun W hW => (facts2 ((hW.block _ hgl).trans hg)).2
  have HSm := Lib.hid hsm
  obtain ⟨P, HP⟩ : ∃ P : Ending → World → Prop, Hid (P = ChkR (chkP x) w) := ⟨_, rfl⟩
  rw [← HP.out]
  clear hx hV hg hbV hsm
  go_enter Tryz.func22, Tryz.ntmps22
  go_wp2_with (rw [HVe.out])
  refine HF.out.mono ?_
  rintro e w1 ⟨rfl, hb1⟩
  have HB1 := Lib.hid hb1
  clear hb1 HF
  cases hfo : formedB x with
  | false =>
    have HPP : Hid (P (.returned (.tuple #[.int .i64 0, .int .i64 2])) w1) := by
      show P _ _
      rw [HP.out]
      refine ⟨?_, HbV.out.trans (HB1.out.mono HbV.out.size)⟩
      unfold chkP; rw [hfo]; rfl
    clear hfo
    go_wp2_with fail
    first | exact HPP.out | (go_ret2; exact HPP.out)
  | true =>
  have HFr := Lib.hid (formed_rule hfo)
  have HR : Hid (chkP x = chkRs (x.rules.drop 0)) := by show _ = _; unfold chkP; rw [hfo, List.drop_zero]; rfl
  clear hfo c0 c1
  go_wp2_with fail
  go_loopw [4] (fun i wr => ∃ k : Nat, k ≤ bn ∧ i = .int .i64 (k : Int) ∧ Hid (chkP x = chkRs (x.rules.drop k)) ∧ Hid (Below V.heap.size V wr)) (fun i _ => bn - (intOf i).toNat)
  case atStart => exact ⟨0, by omega, rfl, HR, HB1.out⟩
  case round =>
    clear HR HB1
    obtain ⟨k, hk, rfl, HR, HB⟩ := hrel
    have i0 : (0 : Int) ≤ (k : Int) := by omega
    have d1 := HC1.out wr HB.out
    by_cases hlt : k < bn
    · have i1 : (k : Int) < (bn : Int) := by omega
      obtain ⟨rb, ro, y, cs, hbA, hrb, hy, ⟨a, m, rfl, hyA⟩, hcs⟩ := (HX.out.rules.keep HB.out).cells_at hlt
      dsimp only at hbA
      subst hbA
      obtain ⟨m_A, m_n, m_c⟩ := m
      obtain ⟨a_A, a_n, a_c⟩ := a
      have hym := List.mem_of_getElem? hy.out
      have hsy := HSm.out.each y hym
      have hry := HFr.out y hym
      have hrt : (ruleT y).length ≤ 1500 := by unfold ruleT; rw [List.length_append]; exact hsy.all
      have HCs : Hid (∀ j' v, (ruleC y ⟨a_A, a_n, a_c⟩ ⟨m_A, m_n, m_c⟩)[j']? = some v → wr.cell? ⟨rb, ro + k * 6 + j', none⟩ = some v) := hcs
      obtain ⟨U, hU⟩ : ∃ U, U = wr.alloc (.cells (ruleC y ⟨a_A, a_n, a_c⟩ ⟨m_A, m_n, m_c⟩).toArray 35) := ⟨_, rfl⟩
      have HUe := Lib.hid hU.symm
      have hbU : Below wr.heap.size wr U := by rw [hU]; exact belowA (Below.refl _ _) _
      have hrU : U.heap[wr.heap.size]? = some (.cells (ruleC y ⟨a_A, a_n, a_c⟩ ⟨m_A, m_n, m_c⟩).toArray 35 (0, 0)) := by rw [hU]; exact heapNew rfl
      have hzU : wr.heap.size < U.heap.size := (Array.getElem?_eq_some_iff.1 hrU).1
      have HBU : Hid (Below V.heap.size V U) := HB.out.trans (hbU.mono HB.out.size)
      have HRow : Hid (∀ W, Below U.heap.size U W → W.heap[wr.heap.size]? = some (.cells (ruleC y ⟨a_A, a_n, a_c⟩ ⟨m_A, m_n, m_c⟩).toArray 35 (0, 0))) := fun W hW => (hW.block _ hzU).trans hrU
      have HRA : Hid (∀ W, Below U.heap.size U W → RuleAt d W W.heap.size y ⟨a_A, a_n, a_c⟩ ⟨m_A, m_n, m_c⟩) := fun W hW => (hyA.keep hbU).keep hW
      have HBo := Lib.hid (refBound_any d y ⟨a_A, a_n, a_c⟩ ⟨m_A, m_n, m_c⟩ U (HRA.out U (Below.refl _ _)) hrt hsy.body)
      have HRU := Lib.hid (row_cells (HRow.out U (Below.refl _ _)))
      have HEnd : Hid (∀ W at_, Below U.heap.size U W → chkR y (bndF y) = some at_ → P (.returned (.tuple #[.int .i64 at_, .int .i64 8])) W) := fun W at_ hW hc => by
        rw [HP.out]
        have e : chkP x = (at_, 8) := by rw [HR.out]; exact chkRs_some hy.out hc
        rw [e]
        exact ⟨rfl, HbV.out.trans ((HBU.out.trans (hW.mono HBU.out.size)).mono HbV.out.size)⟩
      have HNext : Hid (chkR y (bndF y) = none → chkP x = chkRs (x.rules.drop (k + 1))) := fun hc => by rw [HR.out]; exact chkRs_none hy.out hc
      have Hsy := Lib.hid hsy
      have Hry := Lib.hid hry
      have Hmn : Hid (y.body.length = m_n) := hyA.body.1
      have hmn8 : m_n ≤ 8 := by rw [← Hmn.out]; exact right_len hry
      clear hU hbU hrU hyA hcs hy hym hsy hry hrt
      go_wp2_with (first
        | rw [HUe.out]
        | refine wpList_load_at rb (ro + k * 6) (ruleC y ⟨a_A, a_n, a_c⟩ ⟨m_A, m_n, m_c⟩) _ HCs.out Tryz.underlying35 rfl (rrule_size _ _ _) rfl rfl ?_
        | refine wpList_new rfl rfl 35 5 (.tmp 22) rfl rfl rfl rfl _ (ruleC y ⟨a_A, a_n, a_c⟩ ⟨m_A, m_n, m_c⟩).toArray rrule_info rfl (rule_oneS _ _ _) rfl rfl ?_
        | refine wpList_load_at wr.heap.size 0 (ruleC y ⟨a_A, a_n, a_c⟩ ⟨m_A, m_n, m_c⟩) _ HRU.out Tryz.underlying35 rfl (rrule_size _ _ _) rfl rfl ?_)
      refine HBo.out.mono ?_
      rintro e w2 ⟨SA, sc, S, rfl, ho2, hbd2, hok2, hl2, hb2⟩
      have hcb := right_bare Hry.out
      have HChk : Hid (chkR y S = chkR y (bndF y)) := bndF_eq hcb hbd2
      have hra2 := HRA.out w2 hb2
      have HH := Lib.hid (refNames_any a_A a_n a_c y.head.args w2 hra2.args (by have h1 : y.head.args.length = a_n := hra2.args.1; have := right_head Hry.out; omega))
      have HOkH := Lib.hid (told_ok hra2.args)
      have HS2 := Lib.hid (texts_isB ho2 rfl (by omega) hok2)
      have HB2 := Lib.hid hb2
      obtain ⟨x0, x1, -, x3, -, -⟩ := facts6 (HRow.out w2 hb2)
      dsimp only [Hd.v] at x1
      obtain ⟨sn, Hsn⟩ : ∃ sn, Hid (S.length = sn) := ⟨_, rfl⟩
      rw [Hsn.out] at HS2 ⊢
      clear ho2 hok2 hbd2 hb2 hra2 hcb HBo
      go_wp2_with fail
      refine HH.out.mono ?_
      rintro e w3 ⟨A3, c3, rfl, ho3, hb3⟩
      have hb3' : Below U.heap.size U w3 := HB2.out.trans (hb3.mono HB2.out.size)
      have HAll := Lib.hid (refAll09_any SA sn sc S A3 _ c3 (putL [] y.head.args) w3 (HS2.out.keep hb3) (TextsPost.is ho3 (by have := putL_le0 y.head.args; have := right_head Hry.out; omega) (fun s hs => by
        obtain ⟨t, ht, rfl, -⟩ : ∃ t ∈ y.head.args, s = t.x ∧ t.x.toList.isEmpty = false := by
          have := putL_has.1 hs; simpa using this
        exact (HOkH.out t ht).1)))
      have HS3 := Lib.hid (HS2.out.keep hb3)
      have HB3 := Lib.hid hb3'
      clear ho3 hb3 hb3' HH x0 x1 x3
      go_wp2_with fail
      refine HAll.out.mono ?_
      rintro e w4 ⟨rfl, hb4⟩
      have hb4' : Below U.heap.size U w4 := HB3.out.trans (hb4.mono HB3.out.size)
      have HS4 := Lib.hid (HS3.out.keep hb4)
      have HB4 := Lib.hid hb4'
      obtain ⟨-, -, -, -, x4, x5⟩ := facts6 (HRow.out w4 hb4')
      dsimp only [Hd.v] at x4
      clear hb4 hb4' HAll
      cases hal : allB S (putL [] y.head.args) with
      | false =>
        have hc : chkR y (bndF y) = some y.pos := by rw [← HChk.out]; unfold chkR; rw [hal]; rfl
        have HPP := Lib.hid (HEnd.out w4 y.pos HB4.out hc)
        clear hal hc
        go_wp2_with fail
        first | exact HPP.out | (go_ret2; exact HPP.out)
      | true =>
        have HC2 : Hid (chkR y (bndF y) = (y.body.find? (fun z => !allB S (varsL z))).map GLit.pos) := by show _ = _; rw [← HChk.out]; unfold chkR; rw [hal]; rfl
        clear hal x4 x5
        go_wp2_with fail
        go_loopw [7] (fun i wr2 => ∃ j : Nat, j ≤ m_n ∧ i = .int .i64 (j : Int) ∧ Hid (∀ z ∈ y.body.take j, allB S (varsL z) = true) ∧ Hid (Below U.heap.size U wr2) ∧ Hid (SliceIs Enc.str wr2 wr2.heap.size SA sn sc S)) (fun i _ => m_n - (intOf i).toNat)
        case atStart => exact ⟨0, by omega, rfl, (fun z hz => by simp at hz), HB4.out, HS4.out⟩
        case round =>
          clear HB4 HS4 HS3 HB3 HS2 HB2 d1
          obtain ⟨j, hj, rfl, HNo, HB5, HS5⟩ := hrel
          have j0 : (0 : Int) ≤ (j : Int) := by omega
          obtain ⟨-, -, -, -, x4, -⟩ := facts6 (HRow.out wr HB5.out)
          dsimp only [Hd.v] at x4
          by_cases hjl : j < m_n
          · have j1 : (j : Int) < (m_n : Int) := by omega
            obtain ⟨bb, o, z, cs, hmA, hbb, hz, ⟨a', p', q', rfl, hlz⟩, hcs⟩ := (HRA.out wr HB5.out).body.cells_at hjl
            dsimp only at hmA
            subst hmA
            have HLz : Hid (∀ j' v, (litC z a' p' q')[j']? = some v → wr.cell? ⟨bb, o + j * 17 + j', none⟩ = some v) := hcs
            have K54 : Hid ((Tryz.prog.info? 54).map (·.size) = some (litC z a' p' q').length) := by show _ = some 17; kernel_rfl
            have hzl : (insideL z).length ≤ 1500 := by
              have := (Hsy.out.lits z (List.mem_of_getElem? hz.out)).all
              unfold insideL
              simp only [List.length_append]
              exact this
            have hvl : (varsL z).length ≤ 1500 := Nat.le_trans (varsL_le z) hzl
            have HI := Lib.hid (refIn_any d z a' p' q' wr hlz hzl)
            have HVs : Hid (∀ s ∈ varsL z, s.size ≤ reachN) := fun s hs => by
              obtain ⟨t, ht, rfl, -⟩ := varsL_has.1 hs
              exact (inside_ok hlz t ht).1
            have HPz : Hid (∀ W, Below wr.heap.size wr W → W.cell? ⟨bb, o + j * 17 + 16, none⟩ = some (.int .i64 z.pos)) := fun W hW => (hW.cell (p := ⟨bb, o + j * 17 + 16, none⟩) hbb).trans (hcs 16 _ rfl)
            clear hcs hlz
            go_wp2_with (refine wpList_load_at bb (o + j * 17) (litC z a' p' q') _ HLz.out Tryz.underlying54 rfl K54.out rfl rfl ?_)
            refine HI.out.mono ?_
            rintro e w5 ⟨A5, c5, rfl, ho5, hb5⟩
            have HAll := Lib.hid (refAll09_any SA sn sc S A5 _ c5 (varsL z) w5 (HS5.out.keep hb5) (TextsPost.is ho5 (by omega) HVs.out))
            have HS6 := Lib.hid (HS5.out.keep hb5)
            have HB6 := Lib.hid hb5
            clear ho5 hb5 HI
            go_wp2_with fail
            refine HAll.out.mono ?_
            rintro e w6 ⟨rfl, hb6⟩
            have hQ6 : Below wr.heap.size wr w6 := HB6.out.trans (hb6.mono HB6.out.size)
            have HB7 : Hid (Below U.heap.size U w6) := HB5.out.trans (hQ6.mono HB5.out.size)
            have HS7 := Lib.hid (HS6.out.keep hb6)
            have x6 := HPz.out w6 hQ6
            obtain ⟨-, -, -, -, y4, -⟩ := facts6 (HRow.out w6 HB7.out)
            dsimp only [Hd.v] at y4
            clear hb6 hQ6 HAll HS6 HB6 HB5 HS5 x4
            cases hal : allB S (varsL z) with
            | false =>
              have hc : chkR y (bndF y) = some z.pos := by
                rw [HC2.out, find_atL hz.out (by rw [hal]; rfl) (fun v hv => by rw [HNo.out v hv]; rfl)]; rfl
              have HPP := Lib.hid (HEnd.out w6 z.pos HB7.out hc)
              clear hal hc
              go_wp2_with fail
              first | exact HPP.out | (go_ret2; exact HPP.out)
            | true =>
              have HNo2 : Hid (∀ v ∈ y.body.take (j + 1), allB S (varsL v) = true) := fun v hv => by
                rw [mem_take_step hz.out] at hv
                rcases hv with hv | rfl
                · exact HNo.out v hv
                · exact hal
              clear hal
              go_wp2_with fail
              go_roundw
              case rel => exact ⟨j + 1, by omega, by go_num, HNo2, HB7, HS7⟩
              case measure => simp [intOf]; omega
          · obtain rfl : m_n = j := by omega
            have j1 : ¬ (m_n : Int) < (m_n : Int) := by omega
            have hc : chkR y (bndF y) = none := by
              rw [HC2.out, List.find?_eq_none.2 (fun v hv => by rw [HNo.out v (by rw [List.take_of_length_le (by rw [Hmn.out]; exact Nat.le_refl _)]; exact hv)]; simp)]; rfl
            have HN := Lib.hid (HNext.out hc)
            have HBw : Hid (Below V.heap.size V wr) := HBU.out.trans (HB5.out.mono HBU.out.size)
            clear hc HB5 HS5
            go_wp2_with fail
            go_roundw
            case rel => exact ⟨k + 1, by omega, by go_num, HN, HBw⟩
            case measure => simp [intOf]; omega
    · have i1 : ¬ (k : Int) < (bn : Int) := by omega
      have HPP : Hid (P (.returned (.tuple #[.int .i64 0, .int .i64 0])) wr) := by
        show P _ _
        rw [HP.out]
        refine ⟨?_, HbV.out.trans (HB.out.mono HbV.out.size)⟩
        rw [HR.out, List.drop_of_length_le (by rw [Hbl.out]; omega)]; rfl
      go_wp2_with fail
      first | exact HPP.out | (go_ret2; exact HPP.out)
end Go.Proofs.YtfklheagafffmaaGreatDoor

namespace Go.Proofs.YtfklheagafffmaaGreatDoor
open Go.RowKit
def CopyProg (d : Nat) (x : GProg) (w : World) (r : Ending) (w' : World) : Prop :=
  ∃ a b : Hd, r = .returned (.agg (progC a b).toArray) ∧ ProgAt d w' w'.heap.size x a b ∧ Below w.heap.size w w'
theorem rows_is {α : Type} {E : Enc α} {w : World} {base e : Nat} {A : Option Addr} {k c : Nat} {L : List (α × List Value)} (h : w.ownsRow base e E.sz (.slice A k c) k (L.flatMap (·.2))) (hl : L.length = k) (hk : k ≤ reachN) (hf : ∀ p ∈ L, E.ok w w.heap.size p.2 p.1) : SliceIs E w w.heap.size A k c (L.map (·.1)) :=
  SliceIs.of_own (E := E) (l := L.map (·.1)) h (by simp [hl]) hk (fun i x hx => by
    rw [List.getElem?_map, Option.map_eq_some_iff] at hx
    obtain ⟨p, hp, rfl⟩ := hx
    rw [flat_piece2 E.sz L i p (fun q hq => E.len (hf q hq)) hp]
    exact hf p (List.mem_of_getElem? hp))
theorem decl_info : (Tryz.prog.info? 119).map (fun i => (i.zero, i.size, i.bytes)) = some (some (.agg #[.string ⟨#[]⟩, .slice none 0 0, .int .i64 0]), 3, 48) := by kernel_rfl
theorem decl_push {W : World} {base : Nat} {A : Option Addr} {c k : Nat} {xs : List Value} (hown : W.ownsRow base 119 3 (.slice A k c) k xs) (q : GDecl) (aA : Option Addr) (an ac : Nat) (hn : k + 1 ≤ 1000000) (hb : base ≤ W.heap.size) :
    ∃ A' c' w', (∀ ty, (Builtin.append_ #[82, 82] ty #[.slice A k c, .slice (some ⟨W.heap.size, 0, none⟩) 1 1]).run Tryz.prog (W.alloc (.cells #[.string q.rel, .slice aA an ac, .int .i64 q.pos] 119)) = .ok (.slice A' (k + 1) c') w') ∧
      w'.ownsRow base 119 3 (.slice A' (k + 1) c') (k + 1) (xs ++ declC q ⟨aA, an, ac⟩) ∧ Below base W w' ∧ KeepsT 119 W w' := by
  have ho : (W.alloc (.cells #[.string q.rel, .slice aA an ac, .int .i64 q.pos] 119)).ownsRow base 119 3 (.slice A k c) k xs := own_below hown (belowA (Below.refl _ _) _)
  obtain ⟨v', w', h1, h2, h3, h4⟩ := run_push_at (P := Tryz.prog) (ty := 82) (W.alloc (.cells #[.string q.rel, .slice aA an ac, .int .i64 q.pos] 119)) (base := base) Tryz.underlying82 decl_info rfl (by decide) ho W.heap.size (declC q ⟨aA, an, ac⟩) rfl (heapNew rfl) (by intro u hu; simp at hu; rcases hu with rfl | rfl | rfl <;> rfl)
    (by simp [maxLen]; omega) (by omega) (by simp; omega)
  obtain ⟨A', c', rfl⟩ := own_form h2
  refine ⟨A', c', w', fun _ => h1, h2, ?_, ?_⟩
  · exact ((Below.refl base W).alloc hb _).trans h4
  · have k1 : KeepsT 119 W (W.alloc (.cells #[.string q.rel, .slice aA an ac, .int .i64 q.pos] 119)) := KeepsT.of_below (belowA (Below.refl _ _) _)
    refine k1.trans ?_
    intro b cs t fr hbb ht
    refine ((grown_out h3).block b (Array.getElem?_eq_some_iff.1 hbb).1 (fun hbo => ?_)).trans hbb
    obtain ⟨cur, hc⟩ := own_type ho (b := b) (by simpa using hbo)
    rw [hc] at hbb
    injection hbb with hbb; injection hbb with _ h5 _; exact ht h5.symm
theorem set_first {W : World} {g e : Nat} {a b v : Value} (h : W.heap[g]? = some (.cells #[a, b] e (0, 0))) : (W.setCell ⟨g, 0, none⟩ v).heap[g]? = some (.cells #[v, b] e (0, 0)) := by
  simp [World.setCell, Array.getElem?_modify, h]
theorem copyProg_any (d : Nat) (x : GProg) (a b : Hd) (w : World) (hk : ProgAt d w w.heap.size x a b) (hs : SmProg x) :
    Calls Tryz.prog 23 #[.agg (progC a b).toArray] w (CopyProg d x w) := by
  have mixed : Tryz.prog.follows .mixedOrders = true := by kernel_rfl
  have hn := hk.decls.bound
  have hm := hk.rules.bound
  have Hlen := Lib.hid hk.decls.1
  have Hlen2 := Lib.hid hk.rules.1
  have HS := Lib.hid hs
  have HK := Lib.hid hk
  obtain ⟨P, HP⟩ : ∃ P : Ending → World → Prop, Hid (P = CopyProg d x w) := ⟨_, rfl⟩
  rw [← HP.out]
  obtain ⟨A, n, c⟩ := a
  obtain ⟨B, m, e⟩ := b
  have hg0 : (((w.alloc (.cells (progC ⟨A, n, c⟩ ⟨B, m, e⟩).toArray 74)).alloc (.cells #[.slice none 0 0, .slice none 0 0] 85)).alloc (.cells #[.slice none 0 0, .slice none 0 0] 85)).heap[w.heap.size]? = some (.cells (progC ⟨A, n, c⟩ ⟨B, m, e⟩).toArray 74 (0, 0)) := heapOld (heapOld (heapNew rfl))
  have hg1 : (((w.alloc (.cells (progC ⟨A, n, c⟩ ⟨B, m, e⟩).toArray 74)).alloc (.cells #[.slice none 0 0, .slice none 0 0] 85)).alloc (.cells #[.slice none 0 0, .slice none 0 0] 85)).heap[w.heap.size + 1]? = some (.cells #[.slice none 0 0, .slice none 0 0] 85 (0, 0)) := heapOld (heapNew (by simp))
  have hg2 : (((w.alloc (.cells (progC ⟨A, n, c⟩ ⟨B, m, e⟩).toArray 74)).alloc (.cells #[.slice none 0 0, .slice none 0 0] 85)).alloc (.cells #[.slice none 0 0, .slice none 0 0] 85)).heap[w.heap.size + 2]? = some (.cells #[.slice none 0 0, .slice none 0 0] 85 (0, 0)) := heapNew (by simp)
  have hbw : Below w.heap.size w (((w.alloc (.cells (progC ⟨A, n, c⟩ ⟨B, m, e⟩).toArray 74)).alloc (.cells #[.slice none 0 0, .slice none 0 0] 85)).alloc (.cells #[.slice none 0 0, .slice none 0 0] 85)) := belowA (belowA (belowA (Below.refl _ _) _) _) _
  have hzw : (((w.alloc (.cells (progC ⟨A, n, c⟩ ⟨B, m, e⟩).toArray 74)).alloc (.cells #[.slice none 0 0, .slice none 0 0] 85)).alloc (.cells #[.slice none 0 0, .slice none 0 0] 85)).heap.size = w.heap.size + 3 := by simp
  obtain ⟨b0, b1⟩ := facts2 hg0
  dsimp only [Hd.v] at b0 b1
  clear hk hs
  show Calls Tryz.prog 23 #[.agg #[.slice A n c, .slice B m e]] w P
  go_enter Tryz.func23, Tryz.ntmps23
  go_wp2_with fail
  try simp only [Nat.add_assoc, Nat.reduceAdd]
  generalize hw3 : ((w.alloc _).alloc _).alloc _ = w3
  rw [hw3] at hg0 hg1 hg2 hbw hzw
  have HZ : Hid (w.heap.size + 3 ≤ w3.heap.size) := by show _ ≤ _; omega
  clear hzw hw3 b0 b1
  go_loopw [12] (fun i wr => ∃ (j c' : Nat) (A' : Option Addr) (L : List (GDecl × List Value)), j ≤ n ∧ i = .int .i64 j ∧ Hid (L.map (·.1) = x.decls.take j) ∧ Hid (∀ p ∈ L, Enc.decl.ok w w.heap.size p.2 p.1) ∧ Hid (wr.ownsRow (w.heap.size + 3) 119 3 (.slice A' j c') j (L.flatMap (·.2))) ∧ Hid (wr.heap[w.heap.size + 2]? = some (.cells #[.slice A' j c', .slice none 0 0] 85 (0, 0))) ∧ Hid (wr.heap[w.heap.size + 1]? = some (.cells #[.slice none 0 0, .slice none 0 0] 85 (0, 0))) ∧
    Hid (wr.heap[w.heap.size]? = some (.cells (progC ⟨A, n, c⟩ ⟨B, m, e⟩).toArray 74 (0, 0))) ∧ Hid (Below w.heap.size w wr) ∧ w.heap.size + 3 ≤ wr.heap.size) (fun i _ => n - (intOf i).toNat)
  case atStart => exact ⟨0, 0, none, [], by omega, rfl, rfl, fun _ h => by (cases h), World.ownsRow_nil _ _ _ _, hg2, hg1, hg0, hbw, HZ.out⟩
  case round =>
    clear hg0 hg1 hg2 hbw
    obtain ⟨j, c', A', L, hj, rfl, HL, HF, HO, HG2, HG1, HG0, HB, hzr⟩ := hrel
    have i0 : (0 : Int) ≤ (j : Int) := by omega
    by_cases hlt : j < n
    · have i1 : (j : Int) < (n : Int) := by omega
      obtain ⟨b, o, t, aa, hAA, hb, ht, hat, v0, v1, v2⟩ := HK.out.decls.decl_at hlt
      try simp only at hAA
      subst hAA
      obtain ⟨aA, an, ac⟩ := aa
      dsimp only [Hd.v] at v0 v1 v2
      have x0 := below_cell HB.out v0
      have x1 := below_cell HB.out v1
      have x2 := below_cell HB.out v2
      have HT : Hid (x.decls.take (j + 1) = x.decls.take j ++ [t]) := by show _ = _; rw [List.take_add_one, ht.out]; rfl
      have hba : Below wr.heap.size wr (wr.alloc (.cells #[.string t.rel, .slice aA an ac, .int .i64 t.pos] 114)) := belowA (Below.refl _ _) _
      have hn1 : j + 1 ≤ 1500 := by have := HS.out.decls; have := Hlen.out; omega
      have hgA := heapOld (o := .cells #[.string t.rel, .slice aA an ac, .int .i64 t.pos] 114) HG2.out
      have hg1A := heapOld (o := .cells #[.string t.rel, .slice aA an ac, .int .i64 t.pos] 114) HG1.out
      have hg0A := heapOld (o := .cells #[.string t.rel, .slice aA an ac, .int .i64 t.pos] 114) HG0.out
      have hxA : (wr.alloc (.cells #[.string t.rel, .slice aA an ac, .int .i64 t.pos] 114)).heap[wr.heap.size]? = some (.cells #[.string t.rel, .slice aA an ac, .int .i64 t.pos] 114 (0, 0)) := heapNew rfl
      obtain ⟨r0, r1⟩ := facts2 hgA
      obtain ⟨z0, z1, z2⟩ := facts3 hxA
      have HOA := own_below HO.out hba
      obtain ⟨A2, c2, w4, hrun, hown2, hb4, hk4⟩ := decl_push HOA t aA an ac (by omega) (by simp; omega)
      simp only [World.size_alloc] at hrun
      have HRun := Lib.hid hrun
      have hbA := below_next HB.out hba
      have hgB := hk4 _ _ _ _ hgA (by decide)
      have hg1B := hk4 _ _ _ _ hg1A (by decide)
      have hg0B := hk4 _ _ _ _ hg0A (by decide)
      have hz4 : wr.heap.size + 1 ≤ w4.heap.size := by have := hb4.size; simp at this; exact this
      have HB2 : Hid (Below w.heap.size w (w4.setCell ⟨w.heap.size + 2, 0, none⟩ (.slice A2 (j + 1) c2))) := (hbA.trans (hb4.mono (by omega))).setCell (by show w.heap.size ≤ w.heap.size + 2; omega) _
      have HO2 : Hid ((w4.setCell ⟨w.heap.size + 2, 0, none⟩ (.slice A2 (j + 1) c2)).ownsRow (w.heap.size + 3) 119 3 (.slice A2 (j + 1) c2) (j + 1) ((L ++ [(t, declC t ⟨aA, an, ac⟩)]).flatMap (·.2))) := by
        have h9 := own_out' hown2 (set_out w4 (w.heap.size + 2) 0 (.slice A2 (j + 1) c2)) (fun b hb hb' => by have := (own_blk hown2 hb).1; simp at hb'; omega)
        show World.ownsRow _ _ _ _ _ _ _
        simpa using h9
      have HL2 : Hid ((L ++ [(t, declC t ⟨aA, an, ac⟩)]).map (·.1) = x.decls.take (j + 1)) := by show _ = _; rw [HT.out, List.map_append, HL.out]; rfl
      have HF2 : Hid (∀ p ∈ L ++ [(t, declC t ⟨aA, an, ac⟩)], Enc.decl.ok w w.heap.size p.2 p.1) := fun p hp => by
        rcases List.mem_append.1 hp with hp | hp
        · exact HF.out p hp
        · obtain rfl : p = (t, declC t ⟨aA, an, ac⟩) := by simpa using hp
          exact ⟨_, rfl, hat⟩
      have HGa := Lib.hid (set_first (v := .slice A2 (j + 1) c2) hgB)
      have HGb := Lib.hid ((World.heap_setCells_other' (W := w4) (g := w.heap.size + 2) (i := 0) (v := .slice A2 (j + 1) c2) (by omega)).trans hg1B)
      have HGc := Lib.hid ((World.heap_setCells_other' (W := w4) (g := w.heap.size + 2) (i := 0) (v := .slice A2 (j + 1) c2) (by omega)).trans hg0B)
      have hzs : (w4.setCell ⟨w.heap.size + 2, 0, none⟩ (.slice A2 (j + 1) c2)).heap.size = w4.heap.size := World.size_setCell'
      have HZ2 : Hid (w.heap.size + 3 ≤ (w4.setCell ⟨w.heap.size + 2, 0, none⟩ (.slice A2 (j + 1) c2)).heap.size) := by show _ ≤ _; rw [hzs]; omega
      have k1 : w4.cell? ⟨w.heap.size + 2, 0, none⟩ = some (.slice A' j c') := (cell_of_row _ _ 0 _ _ _ hgB).trans rfl
      have k2 : w4.frozen? ⟨w.heap.size + 2, 0, none⟩ = false := frozen_of_row _ _ _ _ _ hgB
      clear hrun hown2 hk4 hgA hg1A hg0A hgB hg1B hg0B hb4 hba hbA HOA HO ht hzs hxA HG0 HG1 HG2 hat v0 v1 v2 HB
      go_wp2_with (at_builtin; refine wpList_append_run (o := ⟨some 26, _, _, _, _, _⟩) rfl _ _ _ rfl _ _ rfl rfl (HRun.out _) ?_)
      go_roundw
      case rel => exact ⟨j + 1, c2, A2, _, by omega, by go_num, HL2, HF2, HO2, HGa, HGb, HGc, HB2, HZ2.out⟩
      case measure => simp [intOf]; omega
    · have i1 : ¬ (j : Int) < (n : Int) := by omega
      have hjn : j = n := by omega
      subst hjn
      have hll := Hlen.out
      have HDl : Hid (L.map (·.1) = x.decls) := by show _ = _; rw [HL.out, List.take_of_length_le (by omega)]
      have HLl : Hid (L.length = j) := by
        have h9 := congrArg List.length HDl.out
        simp at h9
        show _ = _
        omega
      obtain ⟨r0, r1⟩ := facts2 HG0.out
      dsimp only [Hd.v] at r0 r1
      have HG1' := HG1
      obtain ⟨b1z, Hb1⟩ : ∃ b1z, Hid (wr.heap.size = b1z) := ⟨_, rfl⟩
      have HDb : Hid (∀ bb, (Value.slice A' j c').ownBlock = some bb → w.heap.size + 3 ≤ bb ∧ bb < b1z) := fun bb hbb => by
        have h9 := own_blk HO.out hbb
        have := Hb1.out
        omega
      have hz1 : w.heap.size + 3 ≤ b1z := by have := Hb1.out; omega
      have HzW : Hid (b1z ≤ wr.heap.size) := by show _ ≤ _; rw [Hb1.out]; exact Nat.le_refl _
      clear HL HG0 hll
      go_wp2_with fail
      go_loopw [32] (fun i wr => ∃ (j2 c2 : Nat) (A2 : Option Addr) (L2 : List (GRule × List Value)), j2 ≤ m ∧ i = .int .i64 j2 ∧ Hid (L2.map (·.1) = x.rules.take j2) ∧ Hid (Rows (Enc.rule d) b1z 35 wr A2 j2 c2 L2) ∧ wr.heap[w.heap.size + 2]? = some (.cells #[.slice A' j c', .slice A2 j2 c2] 85 (0, 0)) ∧ wr.heap[w.heap.size + 1]? = some (.cells #[.slice none 0 0, .slice none 0 0] 85 (0, 0)) ∧
        Hid (wr.ownsRow (w.heap.size + 3) 119 3 (.slice A' j c') j (L.flatMap (·.2))) ∧ Below w.heap.size w wr ∧ b1z ≤ wr.heap.size) (fun i _ => m - (intOf i).toNat)
      case atStart => exact ⟨0, 0, none, [], by omega, rfl, rfl, Rows.nil _ _ _, HG2.out, HG1.out, HO, HB.out, HzW.out⟩
      case round =>
        clear HG1 HG2 HB HO HzW
        obtain ⟨j2, c2, A2, L2, hj2, rfl, HL, HR, hg, hg1, HOd, hbr, hzr2⟩ := hrel
        have q0 : (0 : Int) ≤ (j2 : Int) := by omega
        by_cases hlt2 : j2 < m
        · have q1 : (j2 : Int) < (m : Int) := by omega
          obtain ⟨bb, o, k, ak, bk, hAA, hbb, hk', hkl, y0, y1, y2, y3, y4, y5⟩ := (HK.out.keep hbr).rules.rule_at hlt2
          try simp only at hAA
          subst hAA
          have hkm := Lib.hid (List.mem_of_getElem? hk'.out)
          have HT : Hid (x.rules.take (j2 + 1) = x.rules.take j2 ++ [k]) := by show _ = _; rw [List.take_add_one, hk'.out]; rfl
          have hba : Below wr.heap.size wr (wr.alloc (.cells (ruleC k ak bk).toArray 27)) := belowA (Below.refl _ _) _
          have HC := Lib.hid (fun (W : World) (h : Below (wr.alloc (.cells (ruleC k ak bk).toArray 27)).heap.size (wr.alloc (.cells (ruleC k ak bk).toArray 27)) W) => copyRule_any d k ak bk W ((hkl.keep hba).keep h) (HS.out.each k hkm.out))
          have hn1 : j2 + 1 ≤ 1500 := by have := HS.out.rules; have := Hlen2.out; omega
          have hx2 : (wr.alloc (.cells (ruleC k ak bk).toArray 27)).heap[wr.heap.size]? = some (.cells (ruleC k ak bk).toArray 27 (0, 0)) := heapNew rfl
          have hgA := heapOld (o := .cells (ruleC k ak bk).toArray 27) hg
          have hg1A := heapOld (o := .cells (ruleC k ak bk).toArray 27) hg1
          have HRA := Lib.hid (HR.out.out (Out.of_below hba []) (fun _ h _ => by cases h))
          have hbA := below_next hbr hba
          have HOdA := Lib.hid (own_below HOd.out hba)
          have HoG : Hid (w.heap.size + 2 ∉ (Value.slice A2 j2 c2).ownBlock.toList) := fun hm => by
            have := (own_blk HR.out.own (b := w.heap.size + 2) (by simpa using hm)).1
            omega
          have HoX : Hid (wr.heap.size ∉ (Value.slice A2 j2 c2).ownBlock.toList) := fun hm => by
            have := (own_blk HR.out.own (b := wr.heap.size) (by simpa using hm)).2
            omega
          have HOr : Hid ((wr.alloc (.cells (ruleC k ak bk).toArray 27)).ownsRow b1z 35 6 (.slice A2 j2 c2) j2 (L2.flatMap (·.2))) := HRA.out.own
          have hrs : (Tryz.prog.info? 27).map (·.size) = some (ruleC k ak bk).length := by show _ = some 6; kernel_rfl
          have Hrs := Lib.hid hrs
          clear hk' hba hkl HR hg hg1 HOd hrs
          go_wp2_with fail
          refine push_region (n := 45) mixed rfl rfl (by kernel_rfl) (by kernel_rfl) (by kernel_rfl) (w.heap.size + 2) wr.heap.size 1 b1z 35 6 88 j2 (.agg zrC.toArray) A2 c2 (L2.flatMap (·.2)) (ruleC k ak bk) #[.slice A' j c', .slice A2 j2 c2]
            (fun vcs W => (Enc.rule d).ok (sans W (List.range (wr.heap.size + 1))) W.heap.size vcs k) (fun S vcs W => (Enc.rule d).ok (sans W (List.range (wr.heap.size + 1) ++ S)) W.heap.size vcs k) _
            rfl rfl hgA hx2 rfl (fun w => by simp [go_sem]) Tryz.underlying83 (by kernel_rfl) Tryz.underlying27 rfl Hrs.out (by kernel_rfl) rfl (by decide) (by decide) HOr.out HoG.out HoX.out (by simp [maxLen]; omega) (by omega) (by simp; omega) _ Tryz.func8 (by kernel_rfl) (by kernel_rfl) ?_ ?_ ?_ ?_ ?_ ?_
          · intro vcs W W' h hb
            exact (Enc.rule d).mono hb.size ((Out.of_below hb []).kept (fun _ h _ => by cases h) (fun _ h _ => h)) h
          · intro S vcs W W' h hb
            exact (Enc.rule d).mono hb.size ((Out.of_below hb []).kept (fun _ h _ => by cases h) (fun _ h _ => h)) h
          · intro S vcs W W' h hz ho hS
            refine (Enc.rule d).mono ho.size (ho.kept (T := List.range (wr.heap.size + 1)) (fun b hb _ => ?_) (fun b hb hl => ?_)) h
            · have := (own_blk HOr.out (b := b) (by simpa using hb)).2
              simp at this
              exact List.mem_range.2 this
            · rcases List.mem_append.1 hb with hb | hb
              · exact hb
              · rcases hS b hb with h1 | h1
                · have := (own_blk HOr.out (b := b) (by simpa using h1)).2
                  simp at this
                  exact List.mem_range.2 this
                · omega
          · intro vcs W W' h hz ho
            refine (Enc.rule d).mono ho.size (ho.kept (T := List.range (wr.heap.size + 1)) (fun b hb _ => ?_) (fun b hb hl => hb)) h
            have := (own_blk HOr.out (b := b) (by simpa using hb)).2
            simp at this
            exact List.mem_range.2 this
          · intro W hb
            refine (HC.out W hb).mono ?_
            rintro r w' ⟨a2, p2, rfl, hs, hb2⟩
            refine ⟨ruleC k a2 p2, rfl, rfl, by simp [Value.oneCell'], ?_, hb2⟩
            refine ⟨a2, p2, rfl, hs.mono' (Nat.le_refl _) ((Out.refl [] w').kept (fun _ h _ => by cases h) (fun b hb' _ => List.mem_range.2 ?_))⟩
            have h1 := List.mem_range.1 hb'
            have h2 := hb.size
            simp at h2
            omega
          · intro u W vcs A3 c3 hl hfar hown hblk ho hgW
            have hsA : (wr.alloc (.cells (ruleC k ak bk).toArray 27)).heap.size = wr.heap.size + 1 := by simp
            have hR2 := HRA.out.push (by rw [hsA]; omega) hown hblk ho (by rw [hsA]; exact hfar)
            have HR2 := Lib.hid (hR2.out (set_out W (w.heap.size + 2) 1 (.slice A3 (j2 + 1) c3)) (fun b hb _ => by simp at hb; omega))
            have HL2 : Hid ((L2 ++ [(k, vcs)]).map (·.1) = x.rules.take (j2 + 1)) := by show _ = _; rw [HT.out, List.map_append, HL.out]; rfl
            have hG2 : (W.setCell ⟨w.heap.size + 2, 1, none⟩ (.slice A3 (j2 + 1) c3)).heap[w.heap.size + 2]? = some (.cells #[.slice A' j c', .slice A3 (j2 + 1) c3] 85 (0, 0)) := set_one hgW
            have hnot : ∀ bb, bb < b1z → bb ∉ (Value.slice A2 j2 c2).ownBlock.toList := fun bb hbb hm => by
              have := (own_blk HOr.out (b := bb) (by simpa using hm)).1
              omega
            have hG1 : (W.setCell ⟨w.heap.size + 2, 1, none⟩ (.slice A3 (j2 + 1) c3)).heap[w.heap.size + 1]? = some (.cells #[.slice none 0 0, .slice none 0 0] 85 (0, 0)) :=
              (World.heap_setCells_other' (by omega)).trans ((ho.block _ (Array.getElem?_eq_some_iff.1 hg1A).1 (hnot _ (by omega))).trans hg1A)
            have HOd2 : Hid ((W.setCell ⟨w.heap.size + 2, 1, none⟩ (.slice A3 (j2 + 1) c3)).ownsRow (w.heap.size + 3) 119 3 (.slice A' j c') j (L.flatMap (·.2))) :=
              own_out' (own_out' HOdA.out ho (fun b hb => hnot b (HDb.out b hb).2)) (set_out W (w.heap.size + 2) 1 _) (fun b hb hb' => by have := (HDb.out b hb).1; simp at hb'; omega)
            have hzz : wr.heap.size + 1 ≤ W.heap.size := by rw [← hsA]; exact ho.size
            have hB2 : Below w.heap.size w (W.setCell ⟨w.heap.size + 2, 1, none⟩ (.slice A3 (j2 + 1) c3)) :=
              (hbA.trans (ho.below (B := w.heap.size) (fun b hb => by
                have := (own_blk HOr.out (b := b) (by simpa using hb)).1
                omega) (by rw [hsA]; omega))).setCell (by show w.heap.size ≤ w.heap.size + 2; omega) _
            have hzs : (W.setCell ⟨w.heap.size + 2, 1, none⟩ (.slice A3 (j2 + 1) c3)).heap.size = W.heap.size := World.size_setCell'
            have HZ2 := Lib.hid hzs
            clear hR2 hgW hfar hown hblk ho hsA hgA hg1A hx2 hzs hnot
            simp only [List.foldl_cons, List.foldl_nil, Act.put, List.setIfInBounds_toArray, List.set_cons_zero, List.set_cons_succ]
            generalize W.setCell ⟨w.heap.size + 2, 1, none⟩ (.slice A3 (j2 + 1) c3) = W3 at *
            go_wp2_with fail
            go_roundw
            case rel => exact ⟨j2 + 1, c3, A3, _, by omega, by go_num, HL2, HR2, hG2, hG1, HOd2, hB2, by rw [HZ2.out]; omega⟩
            case measure => simp [intOf]; omega
        · have q1 : ¬ (j2 : Int) < (m : Int) := by omega
          have hjn : j2 = m := by omega
          subst hjn
          have hll := Hlen2.out
          obtain ⟨c0, c1⟩ := facts2 hg
          have hSr := setRow_at (cs' := #[.slice A' j c', .slice A2 j2 c2]) hg1
          obtain ⟨s0, s1⟩ := facts2 hSr
          have hbS : Below w.heap.size w (wr.setRow (w.heap.size + 1) #[.slice A' j c', .slice A2 j2 c2]) := ⟨hbr.os, hbr.tape, hbr.output, by rw [setRow_size]; exact hbr.size, fun x hx => (setRow_ne (by omega)).trans (hbr.block x hx)⟩
          have hoS : Out [w.heap.size + 1] wr (wr.setRow (w.heap.size + 1) #[.slice A' j c', .slice A2 j2 c2]) := ⟨rfl, rfl, rfl, by rw [setRow_size]; exact Nat.le_refl _, fun x _ hx => setRow_ne (by simpa using hx)⟩
          have hR3 := HR.out.out hoS (fun b hb _ => by simp at hb; omega)
          have hR2 := (hR3.is (base := w.heap.size) (by simpa [reachN] using hm) (by omega)).is
          rw [HL.out, List.take_of_length_le (by omega)] at hR2
          have hO3 := own_out' HOd.out hoS (fun b hb hb' => by have := (HDb.out b hb).1; simp at hb'; omega)
          have hD3 := rows_is (E := Enc.decl) hO3 HLl.out (by have := HLl.out; simpa [reachN] using hn) (fun p hp => Enc.decl.mono hbS.size (Kept.of hbS.block) (HF.out p hp))
          rw [HDl.out] at hD3
          have hpost : P (.returned (.agg #[.slice A' j c', .slice A2 j2 c2])) (wr.setRow (w.heap.size + 1) #[.slice A' j c', .slice A2 j2 c2]) := by
            rw [HP.out]
            exact ⟨⟨A', j, c'⟩, ⟨A2, j2, c2⟩, rfl, ⟨hD3, hR2⟩, hbS⟩
          have HPo := Lib.hid hpost
          clear hR2 hR3 HR HL hll hpost hoS hbS hSr HP hO3 hD3
          go_wp2_with (refine wpList_store_rowTo rfl 85 (.tmp 2) (.tmp 44) rfl rfl (w.heap.size + 1) #[.slice A' j c', .slice A2 j2 c2] rfl rfl 85 #[.slice none 0 0, .slice none 0 0] hg1 (by kernel_rfl) rfl (by simp [Value.oneCell']) ?_)
          refine bodyPost_ret (v := .agg #[.slice A' j c', .slice A2 j2 c2]) ?_ rfl HPo.out
          simp [results, Tryz.results23, go_sem, s0, s1]
end Go.Proofs.YtfklheagafffmaaGreatDoor

namespace Go.Proofs.YtfklheagafffmaaGreatDoor
open Go.RowKit
theorem safeChecks_walk (d : Nat) (x : GProg) (aA : Option Addr) (an ac : Nat) (bA : Option Addr) (bn bc : Nat) (w : World) (hx : ProgAt d w w.heap.size x ⟨aA, an, ac⟩ ⟨bA, bn, bc⟩) (hW : ParW w) :
    Calls Tryz.prog 5 #[.agg (progC ⟨aA, an, ac⟩ ⟨bA, bn, bc⟩).toArray] w (RetBool true w) := by
  obtain ⟨V, hV⟩ : ∃ V, V = w.alloc (.cells #[.slice aA an ac, .slice bA bn bc] 74) := ⟨_, rfl⟩
  have HVe := Lib.hid hV.symm
  have hg : V.heap[w.heap.size]? = some (.cells #[.slice aA an ac, .slice bA bn bc] 74 (0, 0)) := by rw [hV]; exact heapNew rfl
  have hbV : Below w.heap.size w V := by rw [hV]; exact belowA (Below.refl _ _) _
  have hgl : w.heap.size < V.heap.size := (Array.getElem?_eq_some_iff.1 hg).1
  have HbV := Lib.hid hbV
  have HC : Hid (∀ W, Below V.heap.size V W → W.cell? ⟨w.heap.size, 0, none⟩ = some (.slice aA an ac) ∧ W.cell? ⟨w.heap.size, 1, none⟩ = some (.slice bA bn bc)) := fun W hW => facts2 ((hW.block _ hgl).trans hg)
  have HX : Hid (∀ W, Below V.heap.size V W → ProgAt d W W.heap.size x ⟨aA, an, ac⟩ ⟨bA, bn, bc⟩) := fun W hWb => (hx.keep hbV).keep hWb
  have HPW : Hid (∀ W, Below V.heap.size V W → ParW W) := fun W hWb => hW.on (hbV.trans (hWb.mono hbV.size))
  have HAl := Lib.hid (alive9_any V (HPW.out V (Below.refl _ _)))
  clear hx hW hV hg hbV
  go_enter Tryz.func5, Tryz.ntmps5
  go_wp2_with (rw [HVe.out])
  refine HAl.out.mono ?_
  rintro e w1 ⟨rfl, hb1⟩
  have HB1 := Lib.hid hb1
  have HSz := Lib.hid (size_any d x ⟨aA, an, ac⟩ ⟨bA, bn, bc⟩ w1 (HX.out w1 hb1))
  obtain ⟨c0, c1⟩ := HC.out w1 hb1
  clear hb1 HAl
  go_wp2_with fail
  refine HSz.out.mono ?_
  rintro e w2 ⟨R, rfl, hR, hb2⟩
  have HB2 : Hid (Below V.heap.size V w2) := HB1.out.trans (hb2.mono HB1.out.size)
  have HE2 : Hid (Below w.heap.size w w2) := HbV.out.trans (HB2.out.mono HbV.out.size)
  have HRi := Lib.hid hR
  clear hb2 HSz hR c0 c1
  by_cases hs : R < 0
  · go_wp2_with fail
    go_ret
    exact ⟨rfl, HE2.out⟩
  have hsm : SmProg x := szP_all (HRi.out.1 (by omega))
  have HCk := Lib.hid (check_any d x aA an ac bA bn bc w2 (HX.out w2 HB2.out) (HPW.out w2 HB2.out).lex hsm)
  have HSm := Lib.hid hsm
  obtain ⟨c0, c1⟩ := HC.out w2 HB2.out
  obtain ⟨r, Hr⟩ : ∃ r, Hid (chkP x = r) := ⟨_, rfl⟩
  rw [Hr.out] at HCk
  obtain ⟨r1, r2⟩ := r
  unfold ChkPost at HCk
  dsimp only at HCk
  clear hsm
  go_wp2_with fail
  refine HCk.out.mono ?_
  rintro e w3 ⟨rfl, hb3⟩
  have HB3 : Hid (Below V.heap.size V w3) := HB2.out.trans (hb3.mono HB2.out.size)
  have HDo := Lib.hid (copyProg_any d x ⟨aA, an, ac⟩ ⟨bA, bn, bc⟩ w3 (HX.out w3 HB3.out) HSm.out)
  clear c0 c1
  obtain ⟨c0, c1⟩ := HC.out w3 HB3.out
  clear hb3 HCk
  obtain ⟨ev, Hev⟩ : ∃ ev, Hid (errV 115 r2 = ev) := ⟨_, rfl⟩
  rw [Hev.out]
  go_wp2_with fail
  refine HDo.out.mono ?_
  rintro e w4 ⟨⟨a2, n2, k2⟩, ⟨b2, m2, l2⟩, rfl, hp4, hb4⟩
  have HB4 : Hid (Below V.heap.size V w4) := HB3.out.trans (hb4.mono HB3.out.size)
  have HRc := Lib.hid (refCheck_any d x a2 n2 k2 b2 m2 l2 w4 hp4 HSm.out)
  rw [Hr.out] at HRc
  unfold ChkR at HRc
  dsimp only at HRc
  clear hb4 hp4 HDo c0 c1
  go_wp2_with fail
  refine HRc.out.mono ?_
  rintro e w5 ⟨rfl, hb5⟩
  have HB5 : Hid (Below V.heap.size V w5) := HB4.out.trans (hb5.mono HB4.out.size)
  have HNm := Lib.hid (num_any r2 w5)
  rw [Hev.out] at HNm
  clear hb5 HRc
  go_wp2_with fail
  refine HNm.out.mono ?_
  rintro e w6 ⟨rfl, hb6⟩
  have HE6 : Hid (Below w.heap.size w w6) := HbV.out.trans ((HB5.out.trans (hb6.mono HB5.out.size)).mono HbV.out.size)
  have e1 : (r1 == r1) = true := by simp
  have e2 : (r2 == r2) = true := by simp
  clear hb6 HNm
  go_wp2_with fail
  go_ret
  exact ⟨by simp, HE6.out⟩
end Go.Proofs.YtfklheagafffmaaGreatDoor
