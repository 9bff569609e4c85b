/- My own texts RtC, RtD, TSame0, as far as this claim needs them. -/
import Derived.Test.YtplekbpmfaghbaaGreatDoorZd1
import Derived.Test.YtplekbpmfaghbaaGreatDoorZd2
import Derived.Test.YtplekbpmfaghbaaGreatDoorZd3
import Derived.Test.YtplekbpmfaghbaaGreatDoorZd4
import Derived.Test.YtplekbpmfaghbaaGreatDoorZd5
import Derived.Test.YtplekbpmfaghbaaGreatDoorZd6
import Derived.Test.YtplekbpmfaghbaaGreatDoorZd7
import Derived.Test.YtplekbpmfaghbaaGreatDoorZd8
import Derived.Test.YtplekbpmfaghbaaGreatDoorZd9
import Derived.Test.YtplekbpmfaghbaaGreatDoorZd10
import Derived.Test.YtplekbpmfaghbaaGreatDoorZd11
import Derived.Test.YtplekbpmfaghbaaGreatDoorZda1
import Derived.Test.YtplekbpmfaghbaaGreatDoorZda15
import Derived.Deep.MidRow
import Derived.Great.Walk
import Derived.Great.BuildSlice
import Derived.SizedLaws
import Derived.ProofKit
import Derived.Deep.Slices
import Derived.Test.YtplekbpmfaghbaaGreatDoorProg
import Derived.RangeFuncBox
import Derived.RangeFuncNested
import Derived.RangeFuncLeaves
import Derived.Shelf.Strings.Builder1
import Derived.Shelf.Strings.Builder2
import Derived.Shelf.Strings.OnBuilder
import Derived.Shelf.Small.Strs
import Derived.Shelf.Strconv.Atoi
import Derived.Shelf.Strconv.Itoa0
import Derived.Shelf.Strconv.Itoa1
import Derived.Shelf.LaysM
import Derived.Shelf.Strconv.Itoa2
import Derived.Shelf.Strconv.Itoa3
import Derived.Shelf.Strconv.AtoiErrFast
import Derived.Shelf.Strconv.ParseIntEmpty
import Derived.Shelf.Strconv.AtoiFail
import Derived.Shelf.Strconv.Clone
import Derived.Shelf.Strconv.SyntaxError
import Derived.Shelf.LaysC
import Derived.Shelf.Strconv.ToError
import Derived.Shelf.Strconv.Lower
import Derived.Shelf.Strconv.ParseUint10
import Derived.Shelf.Strconv.ParseUint10Empty
import Derived.Shelf.Strconv.ParseUint10Any
import Derived.Shelf.Strconv.ParseInt10
import Derived.Shelf.Strconv.AtoiLong
import Derived.Shelf.Strconv.AtoiInnerAll
import Derived.Shelf.Strconv.RangeError
import Derived.Shelf.Strconv.ToErrorRange
import Derived.Shelf.Strconv.AtoiAll
import Derived.Shelf.Strconv.ErrVarAll
import Derived.Shelf.Strings.Search1
import Derived.Shelf.Strings.Search2
import Derived.Shelf.Strings.Cut
import Derived.Shelf.Strings.Shaped
import Derived.Shelf.Strings.Prefix
import Derived.Lib.AppendIntMem
import Derived.Lib.ItoaLen
import Derived.Lib.TrimU
import Derived.Lib.OthersKept
import Derived.Deep.LoopGhost
import Derived.Laws.BitsAllLaws
import Derived.Laws.IdiomStrings
import Derived.Lib.AtoiTie
import Derived.Lib.ItoaNum
import Derived.Lib.ItoaMem
import Derived.Deep.DeepCutAuto
import Derived.Lib.CutLaws
import Derived.Deep.RegionWith
import Derived.Deep.RegionHeld3
import Derived.OwnWalkIn
import Derived.TacticsInMore
import Derived.RegionIn
import Derived.LoopNIn
import Derived.LoopIn
import Derived.Shelf.Abstract
set_option linter.unusedVariables false
set_option linter.unusedSimpArgs false
namespace Go.Proofs.YtplekbpmfaghbaaGreatDoor
open Go.RowKit
section
variable {T : List GTok} {E : Nat}
/-- what stands behind a thing of a list -/
def Fol (l : List (Int × List UInt8)) : Prop := ∃ u m, l = (5, u) :: m ∧ (u = [44] ∨ u = [41] ∨ u = [46])
/-- a list's end -/
def Stop (l : List (Int × List UInt8)) : Prop := ∃ u m, l = (5, u) :: m ∧ (u = [41] ∨ u = [46])
theorem Fol.noop {l : List (Int × List UInt8)} (h : Fol l) : NoOp l := by
  obtain ⟨u, m, h1, h2⟩ := h
  exact ⟨u, m, h1, by rcases h2 with rfl | rfl | rfl <;> decide, by rcases h2 with rfl | rfl | rfl <;> decide, by rcases h2 with rfl | rfl | rfl <;> decide⟩
theorem Stop.fol {l : List (Int × List UInt8)} (h : Stop l) : Fol l := by
  obtain ⟨u, m, h1, h2⟩ := h
  exact ⟨u, m, h1, .inr h2⟩
theorem toksI_ne {α : Type} {tok : Nat → α → List (Int × List UInt8)} {i : Nat} {L : List α} (h : L ≠ []) : toksI tok i L ≠ [] := by
  cases L with
  | nil => exact absurd rfl h
  | cons a L => simp [toksI]
theorem comT_cons {x : List (Int × List UInt8)} {r : List (List (Int × List UInt8))} (h : r ≠ []) : comT (x :: r) = x ++ (5, [44]) :: comT r := by
  cases r with
  | nil => exact absurd rfl h
  | cons y r => rfl
theorem loop_ah {σ α : Type} (most : Nat) (rd : Nat → PS × σ → PS × σ) (tok : Nat → α → List (Int × List UInt8)) (Inv : List α → σ → Prop) (P : Nat → α → Prop)
    (hrd : ∀ (pre : List α) (a : α) (x : PS × σ) (l : List (Int × List UInt8)), P pre.length a → x.1.err = 0 → Inv pre x.2 → Ah T x.1 (tok pre.length a ++ l) → Fol l → ∃ y, rd pre.length x = (adv x.1 (tok pre.length a).length, y) ∧ Inv (pre ++ [a]) y) :
    ∀ (L pre : List α) (f : Nat) (x : PS × σ) (l : List (Int × List UInt8)), L ≠ [] → pre.length + L.length ≤ most → L.length ≤ f → (∀ i a, L[i]? = some a → P (pre.length + i) a) → x.1.err = 0 → Inv pre x.2 → Ah T x.1 (comT (toksI tok pre.length L) ++ l) → Stop l →
    ∃ y, loopP T E most rd f pre.length x = (adv x.1 (comT (toksI tok pre.length L)).length, y) ∧ Inv (pre ++ L) y
  | [], _, _, _, _, h, _, _, _, _, _, _, _ => absurd rfl h
  | a :: L, pre, 0, x, l, _, _, hf, _, _, _, _, _ => by simp at hf
  | a :: L, pre, f + 1, x, l, _, hm, hf, hP, he, hi, ha, hl => by
    simp only [List.length_cons] at hm hf
    rw [loopP, if_neg (by rw [he]; simp), if_neg (by omega)]
    by_cases hL : L = []
    · subst hL
      have e1 : comT (toksI tok pre.length [a]) = tok pre.length a := rfl
      rw [e1] at ha ⊢
      obtain ⟨y, hy, hI⟩ := hrd pre a x l (hP 0 a rfl) he hi ha hl.fol
      have ha2 := ha.go rfl
      obtain ⟨u, m, rfl, hu⟩ := hl
      have hc : isP T E (rd pre.length x).1 [44] = false := by
        rw [hy, Ah.is ha2]
        rcases hu with rfl | rfl <;> rfl
      rw [if_neg (by rw [hc]; simp)]
      exact ⟨y, hy, hI⟩
    · have e1 : comT (toksI tok pre.length (a :: L)) = tok pre.length a ++ (5, [44]) :: comT (toksI tok (pre ++ [a]).length L) := by
        rw [toksI, comT_cons (toksI_ne hL)]; simp
      rw [e1] at ha ⊢
      rw [List.append_assoc] at ha
      obtain ⟨y, hy, hI⟩ := hrd pre a x _ (hP 0 a rfl) he hi ha ⟨[44], _, rfl, .inl rfl⟩
      have ha2 : Ah T (adv x.1 (tok pre.length a).length) ((5, [44]) :: (comT (toksI tok (pre ++ [a]).length L) ++ l)) := ha.go rfl
      have hc : isP T E (rd pre.length x).1 [44] = true := by rw [hy, Ah.is ha2]; rfl
      rw [if_pos hc, hy]
      have hlen : (pre ++ [a]).length = pre.length + 1 := by simp
      obtain ⟨z, hz, hJ⟩ := loop_ah most rd tok Inv P hrd L (pre ++ [a]) f (adv (adv x.1 (tok pre.length a).length) 1, y) l hL (by rw [hlen]; omega) (by omega) (fun i b hb => by
        rw [hlen, Nat.add_assoc, Nat.add_comm 1]
        exact hP (i + 1) b hb) he hI ha2.up hl
      rw [hlen] at hz
      refine ⟨z, ?_, by simpa using hJ⟩
      show loopP T E most rd f (pre.length + 1) (adv (adv x.1 (tok pre.length a).length) 1, y) = _
      rw [hz, hlen, adv_adv, adv_adv, List.length_append, List.length_cons]
      rw [Nat.add_comm 1]
theorem commas_ah {σ α : Type} (most : Nat) (rd : Nat → PS × σ → PS × σ) (tok : Nat → α → List (Int × List UInt8)) (Inv : List α → σ → Prop) (P : Nat → α → Prop)
    (hrd : ∀ (pre : List α) (a : α) (x : PS × σ) (l : List (Int × List UInt8)), P pre.length a → x.1.err = 0 → Inv pre x.2 → Ah T x.1 (tok pre.length a ++ l) → Fol l → ∃ y, rd pre.length x = (adv x.1 (tok pre.length a).length, y) ∧ Inv (pre ++ [a]) y)
    (hne : ∀ i a, P i a → ∃ x m, tok i a = x :: m ∧ ((decide (x.1 = 1) || decide (x.1 = 5)) && decide (x.2 = [41])) = false)
    (L : List α) (x : PS × σ) (l : List (Int × List UInt8)) (hm : L.length ≤ most) (hP : ∀ i a, L[i]? = some a → P i a) (he : x.1.err = 0) (hi : Inv [] x.2) (ha : Ah T x.1 ((5, [40]) :: (comT (toksI tok 0 L) ++ (5, [41]) :: l))) :
    ∃ y, commasP T E most rd x = (adv x.1 ((comT (toksI tok 0 L)).length + 2), y) ∧ Inv L y := by
  have hw := ha.want (E := E) (.inr rfl)
  have ha1 := ha.up
  unfold commasP
  rw [hw]
  by_cases hL : L = []
  · subst hL
    have ha2 : Ah T (adv x.1 1) ((5, [41]) :: l) := ha1
    rw [if_pos (by rw [ha2.is]; rfl)]
    exact ⟨x.2, rfl, hi⟩
  · obtain ⟨a, L', rfl⟩ : ∃ a L', L = a :: L' := by
      cases L with
      | nil => exact absurd rfl hL
      | cons a L' => exact ⟨a, L', rfl⟩
    obtain ⟨x0, m, hx0, hx1⟩ := hne 0 a (hP 0 a rfl)
    have hc : isP T E (adv x.1 1) [41] = false := by
      have : ∃ m', comT (toksI tok 0 (a :: L')) ++ (5, [41]) :: l = x0 :: m' := by
        by_cases hL' : L' = []
        · subst hL'
          exact ⟨m ++ (5, [41]) :: l, by show tok 0 a ++ _ = _; rw [hx0]; rfl⟩
        · rw [toksI, comT_cons (toksI_ne hL'), hx0]
          exact ⟨_, rfl⟩
      obtain ⟨m', hm'⟩ := this
      have ha1' := ha1
      rw [hm'] at ha1'
      rw [ha1'.is]
      exact hx1
    rw [if_neg (by rw [hc]; simp)]
    obtain ⟨y, hy, hI⟩ := loop_ah (E := E) most rd tok Inv P hrd (a :: L') [] (most + 1) (adv x.1 1, x.2) _ hL (by simpa using hm) (by simp only [List.length_cons] at hm ⊢; omega) (fun i b hb => by simpa using hP i b hb) he hi ha1 ⟨[41], l, rfl, .inl rfl⟩
    have hy : loopP T E most rd (most + 1) 0 (adv x.1 1, x.2) = (adv (adv x.1 1) (comT (toksI tok 0 (a :: L'))).length, y) := hy
    have ha3 := (ha1.go rfl).want (E := E) (.inr rfl)
    refine ⟨y, ?_, hI⟩
    rw [hy]
    dsimp only
    rw [ha3, adv_adv, adv_adv]
    congr 2
    omega
theorem thing_head {t : GTold} : ∃ x m, tokT t = x :: m ∧ ((decide (x.1 = 1) || decide (x.1 = 5)) && decide (x.2 = [41])) = false := by
  obtain ⟨x, m, h, hh⟩ := tokT_head t
  refine ⟨x, m, h, ?_⟩
  rcases hh with ⟨h1, h2⟩ | ⟨h1, -⟩ | h1 | h1
  · rw [h2]; simp
  · rw [h1]; rfl
  · rw [h1]; rfl
  · rw [h1]; rfl
theorem tokTh_plain (i : Nat) (t : GTold) : tokTh 0 0 i t = tokT t := by simp [tokTh]
theorem atom_ah {a : GAtom} (h : atomB a = true) {s : PS} {l : List (Int × List UInt8)} (he : s.err = 0) (ha : Ah T s (tokA a 0 0 ++ l)) : atomP T E s = (adv s (tokA a 0 0).length, a) := by
  obtain ⟨-, hlen, hargs⟩ := atomB_parts h
  unfold tokA at ha ⊢
  have ha0 : Ah T s ((2, a.rel.toList) :: ((5, [40]) :: (comT (toksI (tokTh 0 0) 0 a.args) ++ (5, [41]) :: l))) := by simpa using ha
  obtain ⟨h1, h2⟩ := ha0.take (E := E)
  obtain ⟨y, hy, hI⟩ := commas_ah (E := E) 6 (argsR T E) (tokTh 0 0) (fun pre y => y = pre) (fun _ t => rightT t = true)
    (fun pre t x l ht _ hi hat _ => by
      rw [tokTh_plain] at hat
      refine ⟨_, ?_, rfl⟩
      unfold argsR
      rw [term_ah ht hat, tokTh_plain]
      dsimp only
      rw [show x.2 = pre from hi])
    (fun i t _ => by rw [tokTh_plain]; exact thing_head)
    a.args (takeP T E s 2, []) l hlen (fun i t ht => hargs t (List.mem_of_getElem? ht)) (by rw [h1]; exact he) rfl (by rw [h1]; exact ha0.up)
  unfold atomP
  dsimp only
  rw [hy, h1, h2, hI, bytes_toList, adv_adv]
  refine Prod.ext ?_ rfl
  simp only [List.length_cons, List.length_append, List.length_nil]
  congr 1
  omega
/-- where an expression begins -/
theorem tokE_head : ∀ (k : Nat) (e : GExp), rightE k e = true → ∃ x m, tokE k e = x :: m ∧ ((x.1 = 5 ∧ (x.2 = [45] ∨ x.2 = [40])) ∨ x.1 = 3 ∨ x.1 = 4 ∨ (x.1 = 2 ∧ (m = [] ∨ ∃ u m', m = (5, u) :: m' ∧ ¬ u = [40])))
  | 0, e, h => by
    rw [tokE_leaf (rightE_none h)]
    obtain ⟨x, m, hx, hh⟩ := tokT_head e.t
    refine ⟨x, m, hx, ?_⟩
    rcases hh with ⟨h1, h2⟩ | ⟨h1, h2⟩ | h1 | h1
    · exact .inl ⟨h1, .inl h2⟩
    · exact .inr (.inr (.inr ⟨h1, .inl h2⟩))
    · exact .inr (.inl h1)
    · exact .inr (.inr (.inl h1))
  | k + 1, e, h => by
    by_cases h0 : e.op = 0
    · rw [tokE_leaf h0]
      obtain ⟨x, m, hx, hh⟩ := tokT_head e.t
      refine ⟨x, m, hx, ?_⟩
      rcases hh with ⟨h1, h2⟩ | ⟨h1, h2⟩ | h1 | h1
      · exact .inl ⟨h1, .inl h2⟩
      · exact .inr (.inr (.inr ⟨h1, .inl h2⟩))
      · exact .inr (.inl h1)
      · exact .inr (.inr (.inl h1))
    · obtain ⟨-, a, b, hk, hra, -⟩ := rightE_split h h0
      rw [tokE_two h0 hk]
      have hop : ¬ opS e.op = [40] := by unfold opS; repeat' split
                                         all_goals decide
      cases hb : (decide (e.op = 3) && sumB a) with
      | true => exact ⟨(5, [40]), _, rfl, .inl ⟨rfl, .inr rfl⟩⟩
      | false =>
        obtain ⟨x, m, hx, hh⟩ := tokE_head k a hra
        refine ⟨x, m ++ (5, opS e.op) :: inT (sumB b || (decide (e.op = 3) && decide (b.op = 3))) (tokE k b), by show tokE k a ++ _ = _; rw [hx]; rfl, ?_⟩
        rcases hh with h1 | h1 | h1 | ⟨h1, h2⟩
        · exact .inl h1
        · exact .inr (.inl h1)
        · exact .inr (.inr (.inl h1))
        · refine .inr (.inr (.inr ⟨h1, .inr ?_⟩))
          rcases h2 with rfl | ⟨u, m', rfl, hu⟩
          · exact ⟨_, _, rfl, hop⟩
          · exact ⟨u, _, rfl, hu⟩
theorem noneE_eq {e : GExp} (h : noneE e = true) : e = zE := by
  unfold noneE at h
  simp only [Bool.and_eq_true, decide_eq_true_eq] at h
  rw [exp_eta e, h.1, h.2.1, List.isEmpty_iff.1 h.2.2]
  rfl
theorem sgn_ok {o : Int} (h1 : 1 ≤ o) (h2 : o ≤ 6) : (sgnN (sgnS o) : Int) = o ∧ sgnN (sgnS o) ≠ 0 := by
  have : o = 1 ∨ o = 2 ∨ o = 3 ∨ o = 4 ∨ o = 5 ∨ o = 6 := by omega
  rcases this with rfl | rfl | rfl | rfl | rfl | rfl <;> decide
theorem sgn_noop (o : Int) (l : List (Int × List UInt8)) : NoOp ((5, sgnS o) :: l) := by
  refine ⟨sgnS o, l, rfl, ?_, ?_, ?_⟩ <;>
  · unfold sgnS
    repeat' split
    all_goals decide
theorem sgn_br (o : Int) : ¬ sgnS o = [40] := by
  unfold sgnS
  repeat' split
  all_goals decide
theorem literal_ah {x : GLit} (h : rightLit x = true) {s : PS} {l : List (Int × List UInt8)} (he : s.err = 0) (ha : Ah T s (tokLit x ++ l)) (hl : Fol l) : ∃ y, literalP T E s = (adv s (tokLit x).length, y) ∧ y.e = x.e := by
  unfold rightLit at h
  unfold tokLit at ha ⊢
  by_cases h3 : x.k = 3
  · rw [if_neg (by omega)] at h
    rw [if_pos h3] at ha ⊢
    simp only [Bool.and_eq_true, decide_eq_true_eq] at h
    obtain ⟨-, hc, hle, hri⟩ := h
    unfold cmpB2 at hc
    simp only [Bool.and_eq_true, decide_eq_true_eq] at hc
    obtain ⟨⟨hr0, ha0⟩, o1, o2⟩ := hc
    rw [List.append_assoc] at ha
    obtain ⟨g1, g2⟩ := sgn_ok o1 o2
    have hA := reads_all (T := T) E 20 x.l 20 s _ hle (Nat.le_refl _) ha (sgn_noop _ _)
    have ha2 : Ah T (adv s (tokE 20 x.l).length) ((5, sgnS x.op) :: (tokE 20 x.r ++ l)) := ha.go rfl
    have hw := ha2.want (E := E) (.inr rfl)
    have hB := reads_all (T := T) E 20 x.r 20 _ _ hri (Nat.le_refl _) ha2.up hl.noop
    obtain ⟨p1, p2⟩ := ha2.peek0 (E := E)
    obtain ⟨x0, m, hx0, hh⟩ := tokE_head 20 x.l hle
    have hn : isP T E s [110, 111, 116] = false := by
      have ha' := ha
      rw [hx0, List.cons_append] at ha'
      rw [ha'.is]
      rcases hh with ⟨h1, h2 | h2⟩ | h1 | h1 | ⟨h1, -⟩
      · rw [h2]; simp
      · rw [h2]; simp
      · rw [h1]; rfl
      · rw [h1]; rfl
      · rw [h1]; rfl
    have h2 : ¬ ((peekP T E s 0).k = 2 ∧ (peekP T E s 1).k = 5 ∧ (peekP T E s 1).t = [40]) := by
      have ha' := ha
      rw [hx0, List.cons_append] at ha'
      rintro ⟨q1, -, q3⟩
      rw [(ha'.peek0 (E := E)).1] at q1
      rcases hh with ⟨h1, -⟩ | h1 | h1 | ⟨h1, h2⟩
      · omega
      · omega
      · omega
      · rcases h2 with rfl | ⟨u, m', rfl, hu⟩
        · have := (ha'.peek (E := E) (k := 1) (x := (5, sgnS x.op)) rfl).2
          rw [this] at q3
          exact sgn_br _ q3
        · have := (ha'.peek (E := E) (k := 1) (x := (5, u)) rfl).2
          rw [this] at q3
          exact hu q3
    unfold literalP
    dsimp only
    rw [if_neg (by rw [hn]; simp), if_neg h2]
    unfold comparedP
    dsimp only
    rw [hA]
    dsimp only
    rw [p1, p2, if_pos ⟨rfl, g2⟩, hw, hB]
    dsimp only
    rw [if_neg (by rw [hle, hri]; simp)]
    refine ⟨_, Prod.ext ?_ rfl, ?_⟩
    · dsimp only
      rw [adv_adv, adv_adv, List.length_append, List.length_cons]
      rw [Nat.add_comm 1]
    · have e1 : x.atom = ⟨⟨#[]⟩, []⟩ := by
        rcases x with ⟨k, ⟨rel, args⟩, op, l, r, pos⟩
        dsimp only at hr0 ha0 ⊢
        rw [size_nil hr0, List.eq_nil_of_length_eq_zero ha0]
      simp only [GLit.e, h3, e1, g1]
  · have h12 : x.k = 1 ∨ x.k = 2 := by
      by_cases h12 : x.k = 1 ∨ x.k = 2
      · exact h12
      · rw [if_neg h12] at h
        simp only [Bool.and_eq_true, decide_eq_true_eq] at h
        exact absurd h.1 h3
    rw [if_pos h12] at h
    rw [if_neg h3] at ha ⊢
    simp only [Bool.and_eq_true, decide_eq_true_eq] at h
    obtain ⟨hat, h0, hz1, hz2⟩ := h
    have z1 := noneE_eq hz1
    have z2 := noneE_eq hz2
    by_cases h2 : x.k = 2
    · rw [if_pos h2] at ha ⊢
      have hn : isP T E s [110, 111, 116] = true := by rw [Ah.is ha]; rfl
      have hA := atom_ah (E := E) hat (s := adv s 1) (l := l) he (Ah.up ha)
      unfold literalP
      dsimp only
      rw [if_pos hn, up_eq, hA]
      refine ⟨_, Prod.ext ?_ rfl, ?_⟩
      · dsimp only
        rw [adv_adv, List.length_cons, Nat.add_comm 1]
      · simp only [GLit.e, h2, h0, z1, z2]
    · rw [if_neg h2] at ha ⊢
      have h1 : x.k = 1 := by omega
      have ha' : Ah T s ((2, x.atom.rel.toList) :: ((5, [40]) :: (comT (toksI (tokTh 0 0) 0 x.atom.args) ++ (5, [41]) :: l))) := by
        unfold tokA at ha
        simpa using ha
      have hn : isP T E s [110, 111, 116] = false := by rw [ha'.is]; rfl
      have hA := atom_ah (E := E) hat he ha
      unfold literalP
      dsimp only
      rw [if_neg (by rw [hn]; simp), if_pos ⟨(ha'.peek0 (E := E)).1, (ha'.peek (E := E) (k := 1) rfl).1, (ha'.peek (E := E) (k := 1) rfl).2⟩, hA]
      exact ⟨_, rfl, by simp only [GLit.e, h1, h0, z1, z2]⟩
theorem aggN_ok {o : Int} (h1 : 1 ≤ o) (h2 : o ≤ 4) : (aggN (aggS o) : Int) = o ∧ aggN (aggS o) ≠ 0 := by
  have : o = 1 ∨ o = 2 ∨ o = 3 ∨ o = 4 := by omega
  rcases this with rfl | rfl | rfl | rfl <;> decide
/-- a head under way -/
def HeadInv (agg col : Int) (pre : List GTold) (y : PH) : Prop := y = if 0 < agg ∧ col < (pre.length : Int) then ⟨pre, agg, col⟩ else ⟨pre, 0, 0⟩
theorem head_ah {x : GRule} (h : rightRule x = true) {s : PS} {l : List (Int × List UInt8)} (he : s.err = 0) (ha : Ah T s (tokA x.head x.agg x.col ++ l)) :
    headP T E s = (adv s (tokA x.head x.agg x.col).length, ⟨x.head.args, x.agg, x.col⟩) ∧ takeT T E s 2 = x.head.rel.toList := by
  obtain ⟨hat, hag, -, -⟩ := rule_parts h
  obtain ⟨-, hlen, hargs⟩ := atomB_parts hat
  unfold aggB at hag
  have hcol : (x.agg = 0 ∧ x.col = 0) ∨ (1 ≤ x.agg ∧ x.agg ≤ 4 ∧ 0 ≤ x.col ∧ varAt x.head.args x.col.toNat = true) := by
    by_cases h0 : x.agg = 0
    · rw [if_pos h0] at hag
      exact .inl ⟨h0, by simpa using hag⟩
    · rw [if_neg h0] at hag
      simp only [Bool.and_eq_true, decide_eq_true_eq] at hag
      exact .inr ⟨by omega, hag.1.2.1, hag.1.2.2, hag.2⟩
  unfold tokA at ha ⊢
  have ha0 : Ah T s ((2, x.head.rel.toList) :: ((5, [40]) :: (comT (toksI (tokTh x.agg x.col) 0 x.head.args) ++ (5, [41]) :: l))) := by simpa using ha
  obtain ⟨h1, h2⟩ := ha0.take (E := E)
  obtain ⟨y, hy, hI⟩ := commas_ah (E := E) 6 (headR T E) (tokTh x.agg x.col) (HeadInv x.agg x.col) (fun i t => rightT t = true ∧ (0 < x.agg ∧ (i : Int) = x.col → x.agg ≤ 4 ∧ t.x.size ≠ 0))
    (fun pre t z l ht hez hi hat _ => by
      unfold HeadInv at hi ⊢
      by_cases hc : 0 < x.agg ∧ (pre.length : Int) = x.col
      · obtain ⟨hr, hv⟩ := ht
        obtain ⟨hv1, hv2⟩ := hv hc
        rw [if_neg (by omega)] at hi
        unfold tokTh at hat ⊢
        rw [if_pos hc] at hat ⊢
        obtain ⟨p1, p2⟩ := Ah.peek0 (E := E) hat
        obtain ⟨g1, g2⟩ := aggN_ok (show 1 ≤ x.agg by omega) hv1
        have w1 := Ah.want (E := E) hat (.inl rfl)
        have a1 := Ah.up hat
        have w2 := Ah.want (E := E) a1 (.inr rfl)
        have a2 : Ah T (adv (adv z.1 1) 1) (tokT t ++ ((5, [41]) :: l)) := by
          have := Ah.up a1
          simpa using this
        unfold tokT at a2 ⊢
        rw [if_neg hv2] at a2 ⊢
        obtain ⟨k1, k2⟩ := Ah.take (E := E) a2
        have w3 := Ah.want (E := E) (Ah.up a2) (.inr rfl)
        unfold rightT at hr
        rw [if_neg hv2, Bool.and_eq_true] at hr
        have hgv : t.v = gv0 := by simpa using hr.2
        unfold headR
        dsimp only
        rw [p1, p2, if_pos ⟨rfl, g2⟩, hi]
        dsimp only
        rw [if_neg (by decide), w1, w2, k1, k2, w3, g1]
        refine ⟨_, Prod.ext ?_ rfl, ?_⟩
        · simp [adv_adv]
        · rw [if_pos ⟨hc.1, by simp; omega⟩]
          simp only [bytes_toList]
          rw [show (⟨t.x, gv0⟩ : GTold) = t by rw [← hgv], hc.2]
      · have hth : tokTh x.agg x.col pre.length t = tokT t := by unfold tokTh; rw [if_neg hc]
        rw [hth] at hat ⊢
        obtain ⟨x0, m, hx0, hh⟩ := tokT_head t
        have hq : ¬ ((peekP T E z.1 0).k = 1 ∧ aggN (peekP T E z.1 0).t ≠ 0) := by
          have ha' := hat
          rw [hx0, List.cons_append] at ha'
          rw [(ha'.peek0 (E := E)).1]
          rcases hh with ⟨q1, -⟩ | ⟨q1, -⟩ | q1 | q1 <;> omega
        unfold headR
        dsimp only
        rw [if_neg hq, term_ah ht.1 hat]
        refine ⟨_, rfl, ?_⟩
        dsimp only
        rw [hi]
        by_cases hd : 0 < x.agg ∧ x.col < (pre.length : Int)
        · rw [if_pos hd, if_pos ⟨hd.1, by simp; omega⟩]
        · rw [if_neg hd, if_neg (by simp; omega)])
    (fun i t _ => by
      unfold tokTh
      split
      · refine ⟨_, _, rfl, ?_⟩
        show ((decide ((1 : Int) = 1) || decide ((1 : Int) = 5)) && decide (aggS x.agg = [41])) = false
        have : ¬ aggS x.agg = [41] := by
          unfold aggS
          repeat' split
          all_goals decide
        simp [this]
      · exact thing_head)
    x.head.args (takeP T E s 2, ⟨[], 0, 0⟩) l hlen (fun i t ht => ⟨hargs t (List.mem_of_getElem? ht), fun ⟨c1, c2⟩ => by
      rcases hcol with ⟨c3, -⟩ | ⟨c3, c4, c5, c6⟩
      · omega
      · refine ⟨c4, ?_⟩
        unfold varAt at c6
        rw [show x.col.toNat = i by omega, ht] at c6
        simpa using c6⟩) (by rw [h1]; exact he) (by unfold HeadInv; rw [if_neg (by rcases hcol with ⟨c3, -⟩ | ⟨-, -, c5, -⟩ <;> simp <;> omega)]) (by rw [h1]; exact ha0.up)
  refine ⟨?_, h2⟩
  unfold headP
  rw [hy, h1, adv_adv]
  refine Prod.ext ?_ ?_
  · simp only [List.length_cons, List.length_append, List.length_nil]
    congr 1
    omega
  · dsimp only
    unfold HeadInv at hI
    rw [hI]
    rcases hcol with ⟨c1, c2⟩ | ⟨c1, c2, c3, c4⟩
    · rw [if_neg (by omega), c1, c2]
    · have : x.col.toNat < x.head.args.length := by
        unfold varAt at c4
        cases hg : x.head.args[x.col.toNat]? with
        | none => rw [hg] at c4; cases c4
        | some t => exact (List.getElem?_eq_some_iff.1 hg).1
      rw [if_pos ⟨by omega, by omega⟩]
theorem toksI_map {α : Type} {f : α → List (Int × List UInt8)} : ∀ (L : List α) (i : Nat), toksI (fun _ => f) i L = L.map f
  | [], _ => rfl
  | a :: L, i => by rw [toksI, toksI_map L, List.map_cons]
theorem rule_ah {x : GRule} (h : rightRule x = true) {s : PS} {l : List (Int × List UInt8)} (he : s.err = 0) (ha : Ah T s (tokR x ++ l)) : ∃ y, ruleP T E s = (adv s (tokR x).length, y) ∧ y.e = x.e := by
  obtain ⟨hat, -, hbl, hbody⟩ := rule_parts h
  unfold tokR at ha ⊢
  rw [List.append_assoc, List.append_assoc] at ha
  obtain ⟨hh, ht⟩ := head_ah (E := E) h he ha
  have ha1 := ha.go rfl
  unfold ruleP
  dsimp only
  rw [hh, ht]
  dsimp only
  by_cases hb : x.body = []
  · rw [if_pos hb] at ha1 ⊢
    have ha2 : Ah T (adv s (tokA x.head x.agg x.col).length) ((5, [46]) :: l) := ha1
    have hn : bodyP T E (adv s (tokA x.head x.agg x.col).length) = (adv s (tokA x.head x.agg x.col).length, []) := by
      unfold bodyP
      rw [if_neg (by rw [ha2.is]; decide)]
    rw [hn]
    dsimp only
    rw [ha2.want (.inr rfl)]
    refine ⟨_, Prod.ext ?_ rfl, ?_⟩
    · dsimp only
      rw [adv_adv]
      simp
    · simp only [GRule.e, bytes_toList, hb]
  · rw [if_neg hb] at ha1 ⊢
    have ha2 : Ah T (adv s (tokA x.head x.agg x.col).length) ((5, [58, 45]) :: (comT (toksI (fun _ => tokLit) 0 x.body) ++ ((5, [46]) :: l))) := by
      rw [toksI_map]; exact ha1
    obtain ⟨y, hy, hI⟩ := loop_ah (T := T) (E := E) 8 (bodyR T E) (fun _ => tokLit) (fun pre y => y.map GLit.e = pre.map GLit.e) (fun _ a => rightLit a = true)
      (fun pre a z l ht hez hi hat hf => by
        obtain ⟨y, hy, hye⟩ := literal_ah (E := E) ht hez hat hf
        refine ⟨z.2 ++ [y], ?_, by rw [List.map_append, List.map_append, hi]; simp [hye]⟩
        unfold bodyR
        rw [hy])
      x.body [] 9 (adv (adv s (tokA x.head x.agg x.col).length) 1, []) _ hb (by simpa using hbl) (by omega) (fun i a hi => hbody a (List.mem_of_getElem? hi)) he rfl ha2.up ⟨[46], l, rfl, .inr rfl⟩
    have hy : loopP T E 8 (bodyR T E) 9 0 (adv (adv s (tokA x.head x.agg x.col).length) 1, []) = (adv (adv (adv s (tokA x.head x.agg x.col).length) 1) (comT (toksI (fun _ => tokLit) 0 x.body)).length, y) := hy
    have ha3 := (ha2.up.go rfl).want (E := E) (.inr rfl)
    have hn : bodyP T E (adv s (tokA x.head x.agg x.col).length) = (adv (adv (adv s (tokA x.head x.agg x.col).length) 1) (comT (toksI (fun _ => tokLit) 0 x.body)).length, y) := by
      unfold bodyP
      rw [if_pos (by rw [ha2.is]; decide), up_eq]
      exact hy
    rw [hn]
    dsimp only
    rw [ha3]
    refine ⟨_, Prod.ext ?_ rfl, ?_⟩
    · dsimp only
      rw [adv_adv, adv_adv, adv_adv, toksI_map]
      simp only [List.length_append, List.length_cons, List.length_nil]
      congr 1
      omega
    · simp only [GRule.e, bytes_toList]
      rw [show y.map GLit.e = x.body.map GLit.e from by simpa using hI]
theorem decl_ah {x : GDecl} (h : declB x = true) {s : PS} {l : List (Int × List UInt8)} (he : s.err = 0) (ha : Ah T s (tokD x ++ l)) : ∃ y, declP T E s = (adv s (tokD x).length, y) ∧ y.e = x.e := by
  obtain ⟨-, hlen, hk⟩ := declB_parts h
  unfold tokD at ha ⊢
  have ha0 : Ah T s ((1, relW) :: ((2, x.rel.toList) :: ((5, [40]) :: (comT (toksI (fun _ => tokK) 0 x.kinds) ++ (5, [41]) :: ((5, [46]) :: l))))) := by
    rw [toksI_map]; simpa using ha
  have w1 := ha0.want (E := E) (.inl rfl)
  obtain ⟨k1, k2⟩ := ha0.up.take (E := E)
  obtain ⟨y, hy, hI⟩ := commas_ah (E := E) 6 (kindR T E) (fun _ => tokK) (fun pre y => y = pre) (fun _ k => k = 1 ∨ k = 2)
    (fun pre k z l hk _ hi hat _ => by
      have hat2 : Ah T z.1 ((1, kindS k) :: l) := hat
      unfold kindR
      rcases hk with rfl | rfl
      · rw [if_pos (by rw [hat2.is]; decide), hi]
        exact ⟨_, rfl, rfl⟩
      · rw [if_neg (by rw [hat2.is]; decide), hi]
        refine ⟨_, Prod.ext ?_ rfl, rfl⟩
        exact hat2.want (.inl rfl))
    (fun i k hk => ⟨_, _, rfl, by rcases hk with rfl | rfl <;> decide⟩)
    x.kinds (adv (adv s 1) 1, []) ((5, [46]) :: l) hlen (fun i k hi => hk k (List.mem_of_getElem? hi)) he rfl ha0.up.up
  have ha3 : Ah T (adv (adv (adv s 1) 1) ((comT (toksI (fun _ => tokK) 0 x.kinds)).length + 2)) ((5, [46]) :: l) := by
    have h1 := ha0.up.up.up.go rfl
    have h2 := h1.up
    rw [adv_adv, adv_adv, adv_adv, adv_adv] at h2
    rw [adv_adv, adv_adv]
    rw [show 1 + (1 + ((comT (toksI (fun _ => tokK) 0 x.kinds)).length + 2)) = 1 + (1 + (1 + ((comT (toksI (fun _ => tokK) 0 x.kinds)).length + 1))) by omega]
    exact h2
  unfold declP
  dsimp only
  rw [w1, k1, k2, hy]
  dsimp only
  rw [ha3.want (.inr rfl)]
  refine ⟨_, Prod.ext ?_ rfl, ?_⟩
  · dsimp only
    rw [adv_adv, adv_adv, adv_adv, toksI_map]
    simp only [List.length_append, List.length_cons, List.length_nil]
    congr 1
    omega
  · simp only [GDecl.e, bytes_toList]
    rw [hI]
theorem prog_decls : ∀ (ds pre : List GDecl) (f : Nat) (x : PS × GProg) (l : List (Int × List UInt8)), pre.length + ds.length ≤ 32 → (∀ d ∈ ds, declB d = true) → x.1.err = 0 → x.2.decls.map GDecl.e = pre.map GDecl.e → x.2.rules = [] → Ah T x.1 (ds.flatMap tokD ++ l) →
    ∃ y : PS × GProg, progL T E (f + ds.length) x = progL T E f y ∧ y.1 = adv x.1 (ds.flatMap tokD).length ∧ y.2.decls.map GDecl.e = (pre ++ ds).map GDecl.e ∧ y.2.rules = []
  | [], pre, f, x, l, _, _, _, hx, hr, _ => ⟨x, rfl, rfl, by simpa using hx, hr⟩
  | d :: ds, pre, f, x, l, hn, hd, he, hx, hr, ha => by
    rw [List.flatMap_cons, List.append_assoc] at ha
    obtain ⟨y, hy, hye⟩ := decl_ah (E := E) (hd d (List.mem_cons_self ..)) he ha
    have ha0 : Ah T x.1 ((1, relW) :: _) := ha
    have hlen : x.2.decls.length = pre.length := by simpa using congrArg List.length hx
    simp only [List.length_cons] at hn
    rw [List.length_cons, ← Nat.add_assoc, progL, if_pos ⟨he, ha0.lt⟩, if_pos (by rw [ha0.is]; rfl), if_neg (by omega), hy]
    obtain ⟨z, hz1, hz2, hz3, hz4⟩ := prog_decls ds (pre ++ [d]) f (adv x.1 (tokD d).length, ⟨x.2.decls ++ [y], x.2.rules⟩) l (by simp; omega) (fun u hu => hd u (List.mem_cons_of_mem _ hu)) he (by simp [hx, hye]) hr (ha.go rfl)
    refine ⟨z, hz1, ?_, by simpa using hz3, hz4⟩
    rw [hz2, List.flatMap_cons, List.length_append, adv_adv]
theorem prog_rules : ∀ (rs pre : List GRule) (f : Nat) (x : PS × GProg) (l : List (Int × List UInt8)), pre.length + rs.length ≤ 64 → (∀ r ∈ rs, rightRule r = true) → x.1.err = 0 → x.2.rules.map GRule.e = pre.map GRule.e → Ah T x.1 (rs.flatMap tokR ++ l) →
    ∃ y : PS × GProg, progL T E (f + rs.length) x = progL T E f y ∧ y.1 = adv x.1 (rs.flatMap tokR).length ∧ y.2.rules.map GRule.e = (pre ++ rs).map GRule.e ∧ y.2.decls = x.2.decls
  | [], pre, f, x, l, _, _, _, hx, _ => ⟨x, rfl, rfl, by simpa using hx, rfl⟩
  | r :: rs, pre, f, x, l, hn, hd, he, hx, ha => by
    rw [List.flatMap_cons, List.append_assoc] at ha
    obtain ⟨y, hy, hye⟩ := rule_ah (E := E) (hd r (List.mem_cons_self ..)) he ha
    obtain ⟨m', hm'⟩ : ∃ m', tokR r ++ (rs.flatMap tokR ++ l) = (2, r.head.rel.toList) :: m' := ⟨_, rfl⟩
    have ha0 := ha
    rw [hm'] at ha0
    have hlen : x.2.rules.length = pre.length := by simpa using congrArg List.length hx
    simp only [List.length_cons] at hn
    rw [List.length_cons, ← Nat.add_assoc, progL, if_pos ⟨he, ha0.lt⟩, if_neg (by rw [ha0.is]; simp), if_neg (by omega), hy]
    obtain ⟨z, hz1, hz2, hz3, hz4⟩ := prog_rules rs (pre ++ [r]) f (adv x.1 (tokR r).length, ⟨x.2.decls, x.2.rules ++ [y]⟩) l (by simp; omega) (fun u hu => hd u (List.mem_cons_of_mem _ hu)) he (by simp [hx, hye]) (ha.go rfl)
    refine ⟨z, hz1, ?_, by simpa using hz3, hz4⟩
    rw [hz2, List.flatMap_cons, List.length_append, adv_adv]
theorem tokD_pos (d : GDecl) : 1 ≤ (tokD d).length := by simp [tokD]
theorem tokR_pos (r : GRule) : 1 ≤ (tokR r).length := by
  unfold tokR
  simp only [List.length_append, List.length_cons, List.length_nil]
  omega
theorem flat_len1 {α : Type} {f : α → List (Int × List UInt8)} (h : ∀ a, 1 ≤ (f a).length) : ∀ l : List α, l.length ≤ (l.flatMap f).length
  | [] => Nat.zero_le _
  | a :: l => by
    have := flat_len1 h l
    have := h a
    rw [List.flatMap_cons, List.length_append, List.length_cons]
    omega
theorem program_ah {p : GProg} (h : formedB p = true) (hT : T.map kt = tokP p) : ∃ y, programP T E ps0 = (adv ps0 T.length, y) ∧ y.e = p.e := by
  obtain ⟨h1, h2, h3, h4⟩ := formed_parts h
  have hlen : T.length = (tokP p).length := by rw [← hT]; simp
  have l1 := flat_len1 tokD_pos p.decls
  have l2 := flat_len1 tokR_pos p.rules
  have hl : (tokP p).length = (p.decls.flatMap tokD).length + (p.rules.flatMap tokR).length := by simp [tokP]
  have ha : Ah T ps0 (p.decls.flatMap tokD ++ (p.rules.flatMap tokR ++ [])) := by
    show (T.map kt).drop 0 = _
    rw [hT]; simp [tokP]
  obtain ⟨y, hy1, hy2, hy3, hy4⟩ := prog_decls (T := T) (E := E) p.decls [] (T.length - p.decls.length) (ps0, ⟨[], []⟩) _ (by simpa using h1) h3 rfl rfl rfl ha
  obtain ⟨z, hz1, hz2, hz3, hz4⟩ := prog_rules (T := T) (E := E) p.rules [] (T.length - p.decls.length - p.rules.length) y [] (by simpa using h2) h4 (by simp only [hy2, adv_err, ps0]) (by rw [hy4]; done) (by rw [hy2]; exact ha.go rfl)
  have hend : ∀ f, progL T E f z = z := by
    intro f
    cases f with
    | zero => rfl
    | succ f =>
      rw [progL, if_neg]
      rintro ⟨-, q⟩
      rw [hz2, hy2] at q
      simp only [adv, ps0] at q
      omega
  refine ⟨z.2, ?_, ?_⟩
  · unfold programP
    rw [show T.length = (T.length - p.decls.length) + p.decls.length by omega, hy1]
    rw [show T.length - p.decls.length = (T.length - p.decls.length - p.rules.length) + p.rules.length by omega, hz1, hend]
    refine Prod.ext ?_ rfl
    rw [hz2, hy2, adv_adv]
    show adv ps0 _ = adv ps0 _
    congr 1
    omega
  · unfold GProg.e
    rw [hz4, hy3, hz3]
    simp
end
/-- what is shown is parsed as the same -/
theorem parse_shown {p : GProg} (h : formedB p = true) (hs : ∀ r ∈ p.rules, SymR r) (hl : (textS (linesS p)).length ≤ 4000) :
    (wholeP (⟨[], []⟩ : GProg) (fun T E s => programP T E s) (textS (linesS p))).2.2 = 0 ∧ (wholeP (⟨[], []⟩ : GProg) (fun T E s => programP T E s) (textS (linesS p))).1.e = p.e := by
  obtain ⟨e1, e2⟩ := lex_shown h hs
  obtain ⟨y, hy, hye⟩ := program_ah (E := (textS (linesS p)).length) h e2
  unfold wholeP
  rw [if_neg (by omega), e1]
  dsimp only
  rw [hy]
  dsimp only
  have hlast : lastP (lexS (textS (linesS p))).1 (textS (linesS p)).length (adv ps0 (lexS (textS (linesS p))).1.length) = adv ps0 (lexS (textS (linesS p))).1.length := by
    unfold lastP
    rw [if_neg (by simp [adv, ps0])]
  rw [hlast, if_pos (by rfl)]
  exact ⟨rfl, hye⟩
end Go.Proofs.YtplekbpmfaghbaaGreatDoor

namespace Go.Proofs.YtplekbpmfaghbaaGreatDoor
open Go.RowKit
inductive SymX : GExp → Prop
  | mk (o : Int) (t : GTold) (ks : List GExp) : SymT t → (∀ a ∈ ks, SymX a) → SymX (.mk o t ks)
theorem SymX.to {e : GExp} (h : SymX e) : ∀ k, SymE k e
  | 0 => by cases h; assumption
  | k + 1 => by
    cases h with
    | mk o t ks h1 h2 => exact ⟨h1, fun a ha => (h2 a ha).to k⟩
theorem sym_zT : SymT zT := fun _ h => by cases h
theorem symX_leaf {t : GTold} (h : SymT t) : SymX (.mk 0 t []) := .mk _ _ _ h fun _ h => by cases h
theorem symX_zE : SymX zE := symX_leaf sym_zT
theorem symX_two {o : Int} {a b : GExp} (ha : SymX a) (hb : SymX b) : SymX (.mk o zT [a, b]) := .mk _ _ _ sym_zT fun x hx => by
  simp only [List.mem_cons, List.not_mem_nil, or_false] at hx
  rcases hx with rfl | rfl
  · exact ha
  · exact hb
section
variable {T : List GTok} {E : Nat}
theorem loop_inv {σ : Type} {most : Nat} {rd : Nat → PS × σ → PS × σ} {I : σ → Prop} (h : ∀ i x, I x.2 → I (rd i x).2) : ∀ (f i : Nat) (x : PS × σ), I x.2 → I (loopP T E most rd f i x).2
  | 0, _, _, hx => hx
  | f + 1, i, x, hx => by
    rw [loopP]
    split
    · exact hx
    · split
      · exact hx
      · split
        · exact loop_inv h f (i + 1) _ (h i x hx)
        · exact h i x hx
theorem commas_inv {σ : Type} {most : Nat} {rd : Nat → PS × σ → PS × σ} {I : σ → Prop} (h : ∀ i x, I x.2 → I (rd i x).2) (x : PS × σ) (hx : I x.2) : I (commasP T E most rd x).2 := by
  unfold commasP
  split
  · exact hx
  · exact loop_inv h _ _ _ hx
theorem peek_in {s : PS} {k : Nat} (h : (peekP T E s k).k ≠ 0) : peekP T E s k ∈ T := by
  unfold peekP at h ⊢
  cases hg : T[s.next + k]? with
  | none => rw [hg] at h; exact absurd rfl h
  | some q => exact List.mem_of_getElem? hg
theorem term_sym (hX : ∀ q ∈ T, TextOf wordK q.k q.t) (s : PS) : SymT (termP T E s).2 := by
  unfold termP
  dsimp only
  split
  · exact fun _ h => by cases h
  · split
    · exact sym_zT
    · split
      · exact fun _ h => by cases h
      · split
        · rename_i h2
          intro _ _
          have := hX _ (peek_in (E := E) (s := mayP T E s [45]) (k := 0) (by rw [h2]; decide))
          rw [h2] at this
          show TextOf wordK 2 (bytes _).toList
          rw [show (bytes (peekP T E (mayP T E s [45]) 0).t).toList = (peekP T E (mayP T E s [45]) 0).t from toList_mk _]
          exact this
        · exact sym_zT
theorem mem_snoc {α : Type} {P : α → Prop} {l : List α} {a : α} (h : ∀ x ∈ l, P x) (ha : P a) : ∀ x ∈ l ++ [a], P x := by
  intro x hx
  rcases List.mem_append.1 hx with hx | hx
  · exact h x hx
  · simp only [List.mem_singleton] at hx
    rw [hx]; exact ha
theorem atom_sym (hX : ∀ q ∈ T, TextOf wordK q.k q.t) (s : PS) : SymA (atomP T E s).2 :=
  commas_inv (I := fun l => ∀ t ∈ l, SymT t) (fun _ x hx => mem_snoc hx (term_sym hX x.1)) (takeP T E s 2, []) (fun _ h => by cases h)
theorem operand_sym (hX : ∀ q ∈ T, TextOf wordK q.k q.t) {i : Option (PS → PS × GExp)} (hi : ∀ f, i = some f → ∀ s, SymX (f s).2) (s : PS) : SymX (operandP T E i s).2 := by
  unfold operandP
  split
  · split
    · exact symX_zE
    · exact hi _ rfl _
  · exact symX_leaf (term_sym hX s)
theorem prodL_sym {o : PS → PS × GExp} (ho : ∀ s, SymX (o s).2) : ∀ (f : Nat) (x : PS × GExp), SymX x.2 → SymX (prodL T E o f x).2
  | 0, _, hx => hx
  | f + 1, x, hx => by
    rw [prodL]
    split
    · exact prodL_sym ho f _ (symX_two hx (ho _))
    · exact hx
theorem sumL_sym {o : PS → PS × GExp} (ho : ∀ s, SymX (o s).2) : ∀ (f : Nat) (x : PS × GExp), SymX x.2 → SymX (sumL T E o f x).2
  | 0, _, hx => hx
  | f + 1, x, hx => by
    rw [sumL]
    split
    · exact sumL_sym ho f _ (symX_two hx (ho _))
    · split
      · exact sumL_sym ho f _ (symX_two hx (ho _))
      · exact hx
theorem sumOf_sym {o : PS → PS × GExp} (ho : ∀ s, SymX (o s).2) (s : PS) : SymX (sumOf T E o s).2 :=
  have hp : ∀ s, SymX (productP T E o s).2 := fun s => prodL_sym ho _ _ (ho s)
  sumL_sym hp _ _ (hp s)
theorem sum_sym (hX : ∀ q ∈ T, TextOf wordK q.k q.t) : ∀ (n : Nat) (s : PS), SymX (sumP T E n s).2
  | 0, s => sumOf_sym (operand_sym hX (fun f h => by cases h)) s
  | n + 1, s => sumOf_sym (operand_sym hX (fun f h => by injection h with h; subst h; exact sum_sym hX n)) s
theorem literal_sym (hX : ∀ q ∈ T, TextOf wordK q.k q.t) (s : PS) : SymL (literalP T E s).2 := by
  unfold literalP
  dsimp only
  split
  · exact ⟨atom_sym hX _, symX_zE.to 20, symX_zE.to 20⟩
  · split
    · exact ⟨atom_sym hX _, symX_zE.to 20, symX_zE.to 20⟩
    · unfold comparedP
      dsimp only
      split
      · exact ⟨(fun _ h => by cases h), (sum_sym hX 20 _).to 20, (sum_sym hX 20 _).to 20⟩
      · exact ⟨(fun _ h => by cases h), (sum_sym hX 20 _).to 20, symX_zE.to 20⟩
theorem head_sym (hX : ∀ q ∈ T, TextOf wordK q.k q.t) (s : PS) : ∀ t ∈ (headP T E s).2.args, SymT t :=
  commas_inv (I := fun y : PH => ∀ t ∈ y.args, SymT t) (fun i x hx => by
    unfold headR
    dsimp only
    split
    · exact mem_snoc hx (fun _ h => by cases h)
    · exact mem_snoc hx (term_sym hX x.1)) (takeP T E s 2, ⟨[], 0, 0⟩) (fun _ h => by cases h)
theorem rule_sym (hX : ∀ q ∈ T, TextOf wordK q.k q.t) (s : PS) : SymR (ruleP T E s).2 := by
  refine ⟨head_sym hX s, ?_⟩
  show ∀ l ∈ (bodyP T E (headP T E s).1).2, SymL l
  unfold bodyP
  split
  · exact loop_inv (I := fun y => ∀ l ∈ y, SymL l) (fun _ x hx => mem_snoc hx (literal_sym hX x.1)) _ _ _ (fun _ h => by cases h)
  · exact fun _ h => by cases h
theorem progL_sym (hX : ∀ q ∈ T, TextOf wordK q.k q.t) : ∀ (f : Nat) (x : PS × GProg), (∀ r ∈ x.2.rules, SymR r) → ∀ r ∈ (progL T E f x).2.rules, SymR r
  | 0, _, hx => hx
  | f + 1, x, hx => by
    rw [progL]
    split
    · split
      · split
        · exact hx
        · exact progL_sym hX f _ hx
      · split
        · exact hx
        · exact progL_sym hX f _ (mem_snoc hx (rule_sym hX x.1))
    · exact hx
end
theorem parse_sym (l : List UInt8) : ∀ r ∈ (wholeP (⟨[], []⟩ : GProg) (fun T E s => programP T E s) l).1.rules, SymR r := by
  have h := progL_sym (E := l.length) (fun q hq => lex_texts l.length 0 l (Nat.le_refl _) q hq) (lexS l).1.length (ps0, ⟨[], []⟩) (fun _ h => by cases h)
  unfold wholeP
  split
  · exact fun _ h => by cases h
  · split
    · exact fun _ h => by cases h
    · dsimp only
      split
      · exact h
      · exact fun _ h => by cases h
end Go.Proofs.YtplekbpmfaghbaaGreatDoor

namespace Go.Proofs.YtplekbpmfaghbaaGreatDoor
open Go.RowKit
def eqL {α : Type} (f : α → α → Bool) : List α → List α → Bool
  | [], [] => true
  | a :: l, b :: m => f a b && eqL f l m
  | _, _ => false
theorem eqL_len {α : Type} {f : α → α → Bool} : ∀ {l m : List α}, l.length ≠ m.length → eqL f l m = false
  | [], [], h => absurd rfl h
  | [], _ :: _, _ => rfl
  | _ :: _, [], _ => rfl
  | a :: l, b :: m, h => by
    rw [eqL, eqL_len (l := l) (m := m) (fun e => h (by simp [e]))]; simp
theorem eqL_drop {α : Type} {f : α → α → Bool} {l m : List α} {k : Nat} {a b : α} (ha : l[k]? = some a) (hb : m[k]? = some b) : eqL f (l.drop k) (m.drop k) = (f a b && eqL f (l.drop (k + 1)) (m.drop (k + 1))) := by
  obtain ⟨h1, h2⟩ := List.getElem?_eq_some_iff.1 ha
  obtain ⟨h3, h4⟩ := List.getElem?_eq_some_iff.1 hb
  rw [List.drop_eq_getElem_cons h1, List.drop_eq_getElem_cons h3, h2, h4, eqL]
theorem eqL_dec {α : Type} [DecidableEq α] : ∀ (l m : List α), eqL (fun a b => decide (a = b)) l m = decide (l = m)
  | [], [] => by simp [eqL]
  | [], _ :: _ => by simp [eqL]
  | _ :: _, [] => by simp [eqL]
  | a :: l, b :: m => by rw [eqL, eqL_dec l m]; by_cases h1 : a = b <;> by_cases h2 : l = m <;> simp [h1, h2]
mutual
def sameE : GExp → GExp → Bool
  | .mk o t ks, e => decide (o = e.op) && (decide (t = e.t) && sameEs ks e.kids)
def sameEs : List GExp → List GExp → Bool
  | [], [] => true
  | [], _ :: _ => false
  | _ :: _, [] => false
  | k :: ks, q :: qs => sameE k q && sameEs ks qs
end
theorem sameEs_eq : ∀ (l m : List GExp), sameEs l m = eqL sameE l m
  | [], [] => by rw [sameEs, eqL]
  | [], _ :: _ => by rw [sameEs, eqL] <;> simp
  | _ :: _, [] => by rw [sameEs, eqL] <;> simp
  | k :: ks, q :: qs => by rw [sameEs, eqL, sameEs_eq ks qs]
theorem sameE_def (e e' : GExp) : sameE e e' = (decide (e.op = e'.op) && (decide (e.t = e'.t) && eqL sameE e.kids e'.kids)) := by
  cases e with
  | mk o t ks => rw [sameE, sameEs_eq]; rfl
mutual
theorem sameE_refl : ∀ (e : GExp), sameE e e = true
  | .mk o t ks => by
    rw [sameE]
    show (decide (o = o) && (decide (t = t) && sameEs ks ks)) = true
    rw [sameEs_refl ks]; simp
theorem sameEs_refl : ∀ (l : List GExp), sameEs l l = true
  | [] => by rw [sameEs]
  | k :: ks => by rw [sameEs, sameE_refl k, sameEs_refl ks]; rfl
end
def sameA (x y : GAtom) : Bool := decide (x.rel = y.rel) && decide (x.args = y.args)
def sameD (x y : GDecl) : Bool := decide (x.rel = y.rel) && decide (x.kinds = y.kinds)
def sameLt (x y : GLit) : Bool := decide (x.k = y.k) && (sameA x.atom y.atom && (decide (x.op = y.op) && (sameE x.l y.l && sameE x.r y.r)))
def sameR (x y : GRule) : Bool := sameA x.head y.head && (decide (x.agg = y.agg ∧ x.col = y.col) && eqL sameLt x.body y.body)
def sameP (x y : GProg) : Bool := eqL sameD x.decls y.decls && eqL sameR x.rules y.rules
theorem run_told_eq (x y : GTold) (w : World) : (binOp .eql 33 (.agg #[.string x.x, .int .i64 x.v.k, .int .i64 x.v.n, .string x.v.s]) (.agg #[.string y.x, .int .i64 y.v.k, .int .i64 y.v.n, .string y.v.s])).run Tryz.prog w = .ok (.bool (decide (x = y))) w := by
  rw [run_eql_struct, run_equalIn_agg (ht := by kernel_rfl) (hp := by kernel_rfl)]
  simp [go_sem]
  cases x with
  | mk x v => cases y with
    | mk x' v' => cases v with
      | mk k n s => cases v' with
        | mk k' n' s' =>
          simp only [GTold.mk.injEq, GV.mk.injEq, ← toList_inj]
          by_cases h1 : x.toList = x'.toList <;> by_cases h2 : k = k' <;> by_cases h3 : n = n' <;> by_cases h4 : s.toList = s'.toList <;> simp [h1, h2, h3, h4]
theorem run_told_ne (x y : GTold) (w : World) : (binOp .neq 33 (.agg #[.string x.x, .int .i64 x.v.k, .int .i64 x.v.n, .string x.v.s]) (.agg #[.string y.x, .int .i64 y.v.k, .int .i64 y.v.n, .string y.v.s])).run Tryz.prog w = .ok (.bool (!decide (x = y))) w := by
  rw [run_neq_struct, run_equalIn_agg (ht := by kernel_rfl) (hp := by kernel_rfl)]
  simp [go_sem]
  cases x with
  | mk x v => cases y with
    | mk x' v' => cases v with
      | mk k n s => cases v' with
        | mk k' n' s' =>
          simp only [GTold.mk.injEq, GV.mk.injEq, ← toList_inj]
          by_cases h1 : x.toList = x'.toList <;> by_cases h2 : k = k' <;> by_cases h3 : n = n' <;> by_cases h4 : s.toList = s'.toList <;> simp [h1, h2, h3, h4]
end Go.Proofs.YtplekbpmfaghbaaGreatDoor
