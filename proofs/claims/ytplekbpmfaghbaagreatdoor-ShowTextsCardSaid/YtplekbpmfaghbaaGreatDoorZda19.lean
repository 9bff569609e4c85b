/- My own texts PbW, ShowTx, LiftShTx, FactsShTx, as far as this claim needs them. -/
import Derived.Test.YtplekbpmfaghbaaGreatDoorZd1
import Derived.Test.YtplekbpmfaghbaaGreatDoorZd2
import Derived.Test.YtplekbpmfaghbaaGreatDoorZd3
import Derived.Test.YtplekbpmfaghbaaGreatDoorZd4
import Derived.Test.YtplekbpmfaghbaaGreatDoorZd5
import Derived.Test.YtplekbpmfaghbaaGreatDoorZd6
import Derived.Test.YtplekbpmfaghbaaGreatDoorZd7
import Derived.Test.YtplekbpmfaghbaaGreatDoorZd8
import Derived.Test.YtplekbpmfaghbaaGreatDoorZd9
import Derived.Test.YtplekbpmfaghbaaGreatDoorZd10
import Derived.Test.YtplekbpmfaghbaaGreatDoorZd11
import Derived.Test.YtplekbpmfaghbaaGreatDoorZd12
import Derived.Test.YtplekbpmfaghbaaGreatDoorZd13
import Derived.Test.YtplekbpmfaghbaaGreatDoorZd14
import Derived.Test.YtplekbpmfaghbaaGreatDoorZd15
import Derived.Test.YtplekbpmfaghbaaGreatDoorZd16
import Derived.Test.YtplekbpmfaghbaaGreatDoorZd17
import Derived.Test.YtplekbpmfaghbaaGreatDoorZda1
import Derived.Test.YtplekbpmfaghbaaGreatDoorZda14
import Derived.Test.YtplekbpmfaghbaaGreatDoorZda15
import Derived.Test.YtplekbpmfaghbaaGreatDoorZda17
import Derived.Test.YtplekbpmfaghbaaGreatDoorZda18
import Derived.Deep.MidRow
import Derived.Great.Walk
import Derived.Great.BuildSlice
import Derived.SizedLaws
import Derived.ProofKit
import Derived.Deep.Slices
import Derived.Test.YtplekbpmfaghbaaGreatDoorProg
import Derived.RangeFuncBox
import Derived.RangeFuncNested
import Derived.RangeFuncLeaves
import Derived.Lib.TrimU
import Derived.Lib.OthersKept
import Derived.Deep.LoopGhost
import Derived.Shelf.Strings.Builder1
import Derived.Shelf.Strings.Builder2
import Derived.Shelf.Strings.OnBuilder
import Derived.Shelf.Small.Strs
import Derived.Shelf.Strconv.Atoi
import Derived.Shelf.Strconv.Itoa0
import Derived.Shelf.Strconv.Itoa1
import Derived.Shelf.LaysM
import Derived.Shelf.Strconv.Itoa2
import Derived.Shelf.Strconv.Itoa3
import Derived.Shelf.Strconv.AtoiErrFast
import Derived.Shelf.Strconv.ParseIntEmpty
import Derived.Shelf.Strconv.AtoiFail
import Derived.Shelf.Strconv.Clone
import Derived.Shelf.Strconv.SyntaxError
import Derived.Shelf.LaysC
import Derived.Shelf.Strconv.ToError
import Derived.Shelf.Strconv.Lower
import Derived.Shelf.Strconv.ParseUint10
import Derived.Shelf.Strconv.ParseUint10Empty
import Derived.Shelf.Strconv.ParseUint10Any
import Derived.Shelf.Strconv.ParseInt10
import Derived.Shelf.Strconv.AtoiLong
import Derived.Shelf.Strconv.AtoiInnerAll
import Derived.Shelf.Strconv.RangeError
import Derived.Shelf.Strconv.ToErrorRange
import Derived.Shelf.Strconv.AtoiAll
import Derived.Shelf.Strconv.ErrVarAll
import Derived.Shelf.Strings.Search1
import Derived.Shelf.Strings.Search2
import Derived.Shelf.Strings.Cut
import Derived.Shelf.Strings.Shaped
import Derived.Shelf.Strings.Prefix
import Derived.Lib.AppendIntMem
import Derived.Lib.ItoaLen
import Derived.Laws.BitsAllLaws
import Derived.Laws.IdiomStrings
import Derived.Lib.AtoiTie
import Derived.Lib.ItoaNum
import Derived.Lib.ItoaMem
import Derived.Deep.DeepCutAuto
import Derived.Lib.Join
import Derived.Lib.CutLaws
import Derived.Deep.RegionHeld3
import Derived.Deep.RegionWith
import Derived.OwnWalkIn
import Derived.TacticsInMore
import Derived.RegionIn
import Derived.LoopNIn
import Derived.LoopIn
import Derived.Shelf.Abstract
import Derived.Shelf.Strings.BuilderK
import Derived.Test.YtplekbpmfaghbaaGreatDoorRows
import Derived.JoinedOf
set_option linter.unusedVariables false
set_option linter.unusedSimpArgs false
namespace Go.Proofs.YtplekbpmfaghbaaGreatDoor
open Go.RowKit
theorem parse_errV (s : ByteArray) (hs : s.size ≤ 140737488351232) (w : World) (hW : ParW w) : Calls Tryz.prog 45 #[.string s] w fun e w' => Below w.heap.size w w' ∧
    ∃ (d : Nat) (A1 : Option Addr) (k1 c1 : Nat) (A2 : Option Addr) (k2 c2 : Nat), e = .returned (.tuple #[.agg #[.slice A1 k1 c1, .slice A2 k2 c2], .int .i64 (parseP s.toList).2.1, errV 90 (parseP s.toList).2.2]) ∧ ProgAt d w' w'.heap.size (parseP s.toList).1 ⟨A1, k1, c1⟩ ⟨A2, k2, c2⟩ := by
  refine (parse_any s hs w hW).mono ?_
  rintro e w' ⟨hb, d, ⟨A1, k1, c1⟩, ⟨A2, k2, c2⟩, rfl, ha, hr⟩
  exact ⟨hb, d, A1, k1, c1, A2, k2, c2, rfl, ⟨ha.is, hr.is⟩⟩
end Go.Proofs.YtplekbpmfaghbaaGreatDoor

namespace Go.Proofs.YtplekbpmfaghbaaGreatDoor
open Go.RowKit
theorem progO_good {s : List UInt8} (h : (parseP s).2.2 = 0) : (4000 < (textS (linesS (parseP s).1)).length ∧ progO (parseP s).1 = ([], 3)) ∨ ((textS (linesS (parseP s).1)).length ≤ 4000 ∧ progO (parseP s).1 = (textS (linesS (parseP s).1), 0)) := by
  have hf := (parse_good h).1
  unfold progO
  rw [if_pos hf]
  by_cases h4 : 4000 < (textS (linesS (parseP s).1)).length
  · exact .inl ⟨h4, if_pos h4⟩
  · exact .inr ⟨by omega, if_neg h4⟩
set_option maxRecDepth 100000 in
set_option maxHeartbeats 8000000 in
theorem showTexts_walk (s : ByteArray) (hs : s.size ≤ 140737488351232) (w : World) (hW : ParW w) (hS : ShowW w) : Calls Tryz.prog 11 #[.string s] w (RetBool true w) := by
  have HA := Lib.hid (alive7_any w hW.lex hS)
  have HW := Lib.hid hW
  have HS := Lib.hid hS
  have HC := Lib.hid (fun (V : World) (hb : Below w.heap.size w V) => parse_errV s hs V (hW.on hb))
  have HG := Lib.hid (fun (h : (parseP s.toList).2.2 = 0) => progO_good h)
  have HR := Lib.hid (fun (h : (parseP s.toList).2.2 = 0) (hl : (textS (linesS (parseP s.toList).1)).length ≤ 4000) => round_trip h hl)
  have HP0 := Lib.hid (fun (d : Nat) (A1 : Option Addr) (k1 c1 : Nat) (A2 : Option Addr) (k2 c2 : Nat) (V : World) (hb : Below w.heap.size w V) (h : ProgAt d V V.heap.size (parseP s.toList).1 ⟨A1, k1, c1⟩ ⟨A2, k2, c2⟩) => program_any d (parseP s.toList).1 A1 k1 c1 A2 k2 c2 V h (hS.on hb) (hW.lex.on hb))
  clear hW hS
  go_enter Tryz.func11, Tryz.ntmps11
  go_wp2_with fail
  refine HA.out.mono ?_
  rintro e w1 ⟨rfl, hb1⟩
  have HB1 := Lib.hid hb1
  clear hb1 HA
  by_cases h2 : 2000 < s.size
  · have i0 : (2000 : Int) < (s.size : Int) := by omega
    clear HC HG HR HP0 h2
    go_wp2_with fail
    go_ret
    exact ⟨rfl, HB1.out⟩
  have i0 : ¬ (2000 : Int) < (s.size : Int) := by omega
  have HC1 := Lib.hid (HC.out w1 HB1.out)
  clear HC
  generalize parseP s.toList = pp at *
  obtain ⟨p, at1, er⟩ := pp
  dsimp only at HC1 HG HR HP0
  go_wp2_with fail
  refine HC1.out.mono ?_
  rintro e w2 ⟨hb2, d, A1, k1, c1, A2, k2, c2, rfl, hq2⟩
  have HB2 := Lib.hid (below_next HB1.out hb2)
  have hr2 : (w2.alloc (.cells #[.slice A1 k1 c1, .slice A2 k2 c2] 74)).heap[w2.heap.size]? = some (.cells #[.slice A1 k1 c1, .slice A2 k2 c2] 74 (0, 0)) := heapNew rfl
  have hba2 : Below w2.heap.size w2 (w2.alloc (.cells #[.slice A1 k1 c1, .slice A2 k2 c2] 74)) := belowA (Below.refl _ _) _
  have hq3 := hq2.keep hba2
  have HB3 := Lib.hid (below_next HB2.out hba2)
  clear hb2 hq2 HC1
  by_cases her : er = 0
  rotate_left
  · have ev : errV 90 er = .iface 90 (.int .i64 er) := by unfold errV; rw [if_neg her]
    rw [ev]
    clear HG HR HP0 her ev hq3 hba2 hr2
    go_wp2_with fail
    go_ret
    exact ⟨rfl, HB3.out⟩
  subst her
  have ev : errV 90 0 = .nilIface := rfl
  rw [ev]
  have HP := Lib.hid (HP0.out d A1 k1 c1 A2 k2 c2 _ HB3.out hq3)
  have Hq3 := Lib.hid hq3
  have Hr2 := Lib.hid hr2
  obtain ⟨f0, f1⟩ := facts2 hr2
  clear hba2 hq3 hr2 HP0
  go_wp2_with fail
  generalize (w2.alloc (.cells #[.slice A1 k1 c1, .slice A2 k2 c2] 74)) = w3 at *
  generalize w2.heap.size = ga at *
  unfold ProgT at HP
  rcases HG.out (by first | rfl | trivial) with ⟨h4, hpo⟩ | ⟨h4, hpo⟩
  · rw [hpo] at HP
    have e3 : showErr 3 = errV 90 3 := rfl
    rw [e3] at HP
    have HI := Lib.hid (fun V => is_any 3 3 V)
    clear hpo e3 HG HR
    refine HP.out.mono ?_
    rintro e w4 ⟨rfl, hb4⟩
    have HB4 := Lib.hid (below_next HB3.out hb4)
    have ev3 : errV 90 3 = .iface 90 (.int .i64 3) := rfl
    rw [ev3] at HI ⊢
    clear hb4 f0 f1 HP ev3
    go_wp2_with fail
    refine (HI.out _).mono ?_
    rintro e w5 ⟨rfl, hb5⟩
    have HB5 := Lib.hid (below_next HB4.out hb5)
    clear hb5 HI
    go_wp2_with fail
    go_ret
    exact ⟨rfl, HB5.out⟩
  · rw [hpo] at HP
    have e0 : showErr 0 = .nilIface := rfl
    rw [e0] at HP
    obtain ⟨t, Ht⟩ : ∃ t, Hid (t = bytes (textS (linesS p))) := ⟨_, rfl⟩
    dsimp only at HP
    rw [← Ht.out] at HP
    obtain ⟨hr1, hr2⟩ := HR.out (by first | rfl | trivial) h4
    have htl : t.toList = textS (linesS p) := by rw [Ht.out, bytes_list]
    have hts : t.size ≤ 4000 := by rw [Ht.out, bytes_size]; exact h4
    rw [← htl] at hr1 hr2
    have HC2 := Lib.hid (fun (V : World) (hb : Below w.heap.size w V) => parse_errV t (by omega) V (HW.out.on hb))
    rw [hr1] at HC2
    have Hsm := Lib.hid hr2
    clear hpo e0 HG HR hr1 hr2 htl Ht h4
    generalize parseP t.toList = p2 at *
    obtain ⟨p2, at2, er2⟩ := p2
    dsimp only at HC2 Hsm
    refine HP.out.mono ?_
    rintro e w4 ⟨rfl, hb4⟩
    have HB4 := Lib.hid (below_next HB3.out hb4)
    have Hb4 := Lib.hid hb4
    clear hb4 f0 f1 HP
    go_wp2_with fail
    refine (HC2.out _ HB4.out).mono ?_
    rintro e w5 ⟨hb5, d2, E1, m1, e1, E2, m2, e2, rfl, hq5⟩
    rw [ev]
    have hba5 : Below w5.heap.size w5 (w5.alloc (.cells #[.slice E1 m1 e1, .slice E2 m2 e2] 74)) := belowA (Below.refl _ _) _
    have hr5 : (w5.alloc (.cells #[.slice E1 m1 e1, .slice E2 m2 e2] 74)).heap[w5.heap.size]? = some (.cells #[.slice E1 m1 e1, .slice E2 m2 e2] 74 (0, 0)) := heapNew rfl
    have HB6 := Lib.hid (below_next HB4.out (below_next hb5 hba5))
    have hb36 := below_next Hb4.out (below_next hb5 hba5)
    have Hq6 := Lib.hid (Hq3.out.keep hb36)
    have Hr6 := Lib.hid (And.intro ((hb36.block _ (Array.getElem?_eq_some_iff.1 Hr2.out).1).trans Hr2.out) hr5)
    have Hq5 := Lib.hid (hq5.keep hba5)
    have HI := Lib.hid (fun V => is_any 0 4 V)
    rw [ev] at HI
    clear hb5 hba5 hr5 hb36 hq5 HC2 Hq3 Hr2
    go_wp2_with fail
    generalize (w5.alloc (.cells #[.slice E1 m1 e1, .slice E2 m2 e2] 74)) = w6 at *
    generalize w5.heap.size = gb at *
    refine (HI.out _).mono ?_
    rintro e w7 ⟨rfl, hb7⟩
    obtain ⟨f0, f1⟩ := facts2 ((hb7.block _ (Array.getElem?_eq_some_iff.1 Hr6.out.1).1).trans Hr6.out.1)
    obtain ⟨g0, g1⟩ := facts2 ((hb7.block _ (Array.getElem?_eq_some_iff.1 Hr6.out.2).1).trans Hr6.out.2)
    have HSm := Lib.hid (sameP_any d d2 p p2 A1 k1 c1 A2 k2 c2 E1 m1 e1 E2 m2 e2 w7 (Hq6.out.keep hb7) (Hq5.out.keep hb7))
    rw [Hsm.out] at HSm
    have HB7 := Lib.hid (below_next HB6.out hb7)
    clear hb7 Hq6 Hq5 Hr6 HI Hsm
    go_wp2_with fail
    refine HSm.out.mono ?_
    rintro e w8 ⟨rfl, hb8⟩
    have HB8 := Lib.hid (below_next HB7.out hb8)
    clear hb8 HSm
    go_wp2_with fail
    go_ret
    exact ⟨rfl, HB8.out⟩
end Go.Proofs.YtplekbpmfaghbaaGreatDoor

namespace Go.Proofs.YtplekbpmfaghbaaGreatDoor
open Go.ChangeShapes Go.WideShapes Go.ChangeAt Go.RowKit
set_option linter.unusedVariables false
theorem params : Tryz.f11.params = #[9] := by kernel_rfl
set_option maxRecDepth 100000 in
theorem lifted (os : Os) (started : os.Started) (H : Type) (enc : TypeId × Value → H) :
    ReturnsInHanded {} Tryz.checked os 11 .any (fun w args => (Rows.showTextsSpec.pre enc Tryz.prog Tryz.f11 Rows.showTextsRow.domain false w args ∧ laidMet Tryz.prog laidT w) ∧ sizedMet enc Tryz.prog Tryz.f11 (OpenSpec.ofChange Rows.showTextsSpec) false w args)
      (Rows.showTextsSpec.post enc Tryz.prog Tryz.f11 false true false false) := by
  refine returnsInHanded_of_change_and (C := Tryz.checked) (X := fun w _ => laidMet Tryz.prog laidT w) (fun _ _ _ hh h => h.of_heap hh) own started (by kernel_rfl) Tryz.func11
    (ChangeSpec.witness_at (enc := enc) (C := Tryz.checked) (os := os) (X := fun w _ => laidMet Tryz.prog laidT w) false (laidWorldT os) #[.string ⟨#[]⟩] 8 rfl (by kernel_rfl) (by kernel_rfl) (by kernel_rfl) (by kernel_rfl) (by kernel_rfl) (laidWorldT_met os _)) ?_
  intro W base args ds gs before hval0 hW hcnd hsz0 hL _
  have hval : ∀ (j : Nat) t v, Tryz.f11.params[j]? = some t → args[j]? = some v → Value.okWide Tryz.prog W .any base t v := hval0
  have hW' := hW
  obtain ⟨p, q, hA0, hV, rfl, hfz, hnd⟩ := hW
  have hA : DataW.TrodAll enc Tryz.prog W 0 (fun _ => true) true Tryz.f11.params.toList args.toList ds p := hA0
  have hsz : (DataW.weightsEach Tryz.prog (Tryz.f11.params.toList ++ Rows.showTextsSpec.plain.varTypes Tryz.prog) (ds ++ gs)).all (· ≤ reachBytes) = true := hsz0
  rw [params] at hA hval hsz
  obtain ⟨v0, vs0, d0, ds0, p0, q0, hargs, rfl, rfl, h0, r0⟩ := trodAll_cons hA
  obtain ⟨rfl, rfl, rfl⟩ := trodAll_nil r0
  obtain rfl : args = #[v0] := by cases args; simp_all
  obtain ⟨rfl, rfl⟩ := trodVars_none hV
  have hwt : ∀ (j : Nat) (t : TypeId) (d : DataW H), [9][j]? = some t → [d0][j]? = some d → ∀ n ∈ d.weights Tryz.prog t, n ≤ reachBytes := fun j t d ht hd n hn => by
    have := List.all_eq_true.1 hsz n (DataW.weights_mem_each (j := j) (by rw [List.getElem?_append_left (by simpa using (List.getElem?_eq_some_iff.1 ht).1)]; exact ht) (by rw [List.getElem?_append_left (by simpa using (List.getElem?_eq_some_iff.1 hd).1)]; exact hd) n hn)
    simpa using this
  have lt0 : ∀ x ∈ p0, x.block < W.heap.size := by obtain ⟨m, hm⟩ := h0; exact DataW.trod_lt m _ _ _ hm
  obtain ⟨a0, rfl, oka0⟩ := open_str' (by kernel_rfl) (hval 0 9 v0 rfl rfl) h0 (hwt 0 _ _ rfl rfl)
  clear hA0 hval0
  refine (showTexts_walk a0 oka0 W (parW_of_laidT hL) (showW_of_laidT hL)).mono fun e W' ⟨he, bel⟩ => ?_
  subst he
  exact ⟨_, rfl, _, _, _, [], _, [], hW', trodAll_mk1 (shut_bool u_bool _),
    (trodAll_cons_mk (Below.trod laidOut (by kernel_rfl) (of_decide_eq_true (by kernel_rfl)) h0 bel lt0)
      trodAll_mk0), rfl, bel.frame _, fun h => by cases h⟩
end Go.Proofs.YtplekbpmfaghbaaGreatDoor

namespace Go.Proofs.YtplekbpmfaghbaaGreatDoor
set_option maxHeartbeats 4000000 in
theorem closedF : joinedFacts Tryz.prog 11 Tryz.f11 Rows.showTextsSpec Rows.showTextsRow = true := by
  unfold joinedFacts
  simp only [Bool.and_eq_true]
  repeat' (with_reducible refine And.intro ?_ ?_)
  all_goals (as_aux_lemma => kernel_rfl)
end Go.Proofs.YtplekbpmfaghbaaGreatDoor
