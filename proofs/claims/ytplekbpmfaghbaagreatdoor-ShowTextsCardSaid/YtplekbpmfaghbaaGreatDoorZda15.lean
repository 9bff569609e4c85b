/- My own texts RtA, RtB, as far as this claim needs them. -/
import Derived.Test.YtplekbpmfaghbaaGreatDoorZd1
import Derived.Test.YtplekbpmfaghbaaGreatDoorZd2
import Derived.Test.YtplekbpmfaghbaaGreatDoorZd3
import Derived.Test.YtplekbpmfaghbaaGreatDoorZd4
import Derived.Test.YtplekbpmfaghbaaGreatDoorZd5
import Derived.Test.YtplekbpmfaghbaaGreatDoorZd7
import Derived.Test.YtplekbpmfaghbaaGreatDoorZd9
import Derived.Test.YtplekbpmfaghbaaGreatDoorZd10
import Derived.Test.YtplekbpmfaghbaaGreatDoorZd11
import Derived.Test.YtplekbpmfaghbaaGreatDoorZd13
import Derived.Test.YtplekbpmfaghbaaGreatDoorZd15
import Derived.Test.YtplekbpmfaghbaaGreatDoorZd16
import Derived.Test.YtplekbpmfaghbaaGreatDoorZda1
import Derived.Test.YtplekbpmfaghbaaGreatDoorZda13
import Derived.Deep.MidRow
import Derived.Great.Walk
import Derived.Great.BuildSlice
import Derived.SizedLaws
import Derived.ProofKit
import Derived.Deep.Slices
import Derived.Test.YtplekbpmfaghbaaGreatDoorProg
import Derived.RangeFuncBox
import Derived.RangeFuncNested
import Derived.RangeFuncLeaves
import Derived.Lib.TrimU
import Derived.Lib.OthersKept
import Derived.Deep.LoopGhost
import Derived.Shelf.Strings.Builder1
import Derived.Shelf.Strings.Builder2
import Derived.Shelf.Strings.OnBuilder
import Derived.Shelf.Small.Strs
import Derived.Shelf.Strconv.Atoi
import Derived.Shelf.Strconv.Itoa0
import Derived.Shelf.Strconv.Itoa1
import Derived.Shelf.LaysM
import Derived.Shelf.Strconv.Itoa2
import Derived.Shelf.Strconv.Itoa3
import Derived.Shelf.Strconv.AtoiErrFast
import Derived.Shelf.Strconv.ParseIntEmpty
import Derived.Shelf.Strconv.AtoiFail
import Derived.Shelf.Strconv.Clone
import Derived.Shelf.Strconv.SyntaxError
import Derived.Shelf.LaysC
import Derived.Shelf.Strconv.ToError
import Derived.Shelf.Strconv.Lower
import Derived.Shelf.Strconv.ParseUint10
import Derived.Shelf.Strconv.ParseUint10Empty
import Derived.Shelf.Strconv.ParseUint10Any
import Derived.Shelf.Strconv.ParseInt10
import Derived.Shelf.Strconv.AtoiLong
import Derived.Shelf.Strconv.AtoiInnerAll
import Derived.Shelf.Strconv.RangeError
import Derived.Shelf.Strconv.ToErrorRange
import Derived.Shelf.Strconv.AtoiAll
import Derived.Shelf.Strconv.ErrVarAll
import Derived.Shelf.Strings.Search1
import Derived.Shelf.Strings.Search2
import Derived.Shelf.Strings.Cut
import Derived.Shelf.Strings.Shaped
import Derived.Shelf.Strings.Prefix
import Derived.Lib.AppendIntMem
import Derived.Lib.ItoaLen
import Derived.Laws.BitsAllLaws
import Derived.Laws.IdiomStrings
import Derived.Lib.AtoiTie
import Derived.Lib.ItoaNum
import Derived.Lib.ItoaMem
import Derived.Deep.DeepCutAuto
import Derived.Lib.Join
set_option linter.unusedVariables false
set_option linter.unusedSimpArgs false
namespace Go.Proofs.YtplekbpmfaghbaaGreatDoor
open Go.RowKit
theorem digits_fig : ∀ (u : Nat), ∀ c ∈ Lib.decDigits u, 48 ≤ c.toNat ∧ c.toNat ≤ 57 := by
  intro u
  induction u using Nat.strongRecOn with
  | ind u ih =>
    intro c hc
    rw [Lib.decDigits] at hc
    split at hc
    · rename_i h
      simp only [List.mem_singleton] at hc
      subst hc
      have : (UInt8.ofNat (48 + u)).toNat = 48 + u := by rw [UInt8.toNat_ofNat']; omega
      omega
    · rename_i h
      rcases List.mem_append.1 hc with hc | hc
      · exact ih (u / 10) (by omega) c hc
      · simp only [List.mem_singleton] at hc
        subst hc
        have : (UInt8.ofNat (48 + u % 10)).toNat = 48 + u % 10 := by rw [UInt8.toNat_ofNat']; omega
        omega
theorem digits_none (u : Nat) : Lib.decDigits u ≠ [] := by
  rw [Lib.decDigits]
  split <;> simp
theorem fig_ins {c : UInt8} (h : 48 ≤ c.toNat ∧ c.toNat ≤ 57) : insB c = true := by
  unfold insB
  simp [h.1, h.2]
theorem itoa_tok {n : Int} (h0 : 0 ≤ n) (h1 : n ≤ 2147483647) : TextOf wordK 4 (Lib.itoa n) ∧ numT (Lib.itoa n) = n := by
  obtain ⟨hr, ha⟩ := refNum_itoa (n := n) (by omega) h1
  refine ⟨?_, by unfold numT; rw [ha]⟩
  obtain ⟨u, rfl⟩ : ∃ u : Nat, n = (u : Int) := ⟨n.toNat, by omega⟩
  rw [Lib.itoa_nonneg] at hr ⊢
  have hd := digits_fig u
  have hne := digits_none u
  obtain ⟨c, r, hcr⟩ : ∃ c r, Lib.decDigits u = c :: r := by
    cases h : Lib.decDigits u with
    | nil => exact absurd h hne
    | cons c r => exact ⟨c, r, rfl⟩
  have hc := hd c (by rw [hcr]; exact List.mem_cons_self ..)
  refine ⟨by decide, .inl ⟨?_, hne, fun d hd' => fig_ins (hd d hd'), ?_⟩⟩
  · unfold wordK
    have hk : ¬ Lib.decDigits u ∈ keysL := by
      rw [hcr]
      intro hm
      simp only [keysL, List.mem_cons, List.not_mem_nil, or_false, List.cons.injEq] at hm
      rcases hm with ⟨rfl, -⟩ | ⟨rfl, -⟩ | ⟨rfl, -⟩ | ⟨rfl, -⟩ | ⟨rfl, -⟩ | ⟨rfl, -⟩ | ⟨rfl, -⟩ | ⟨rfl, -⟩ <;> revert hc <;> decide
    have hg : greatB (headN (Lib.decDigits u)) = false := by
      rw [hcr]
      have e : headN (c :: r) = c.toNat := rfl
      rw [e]
      unfold greatB
      rw [Bool.and_eq_false_iff]
      left
      exact decide_eq_false (by omega)
    have hname : nameOk ⟨(Lib.decDigits u).toArray⟩ = false := by
      rw [hcr]
      have hb : byteAt ⟨(c :: r).toArray⟩ 0 = c.toNat := by rw [← byteAt_eq (by simp [ByteArray.size])]; rfl
      have hl : lowB (byteAt ⟨(c :: r).toArray⟩ 0) = false := by
        rw [hb]; simp only [lowB, Bool.and_eq_false_iff, decide_eq_false_iff_not]; omega
      simp [nameOk, hl]
    rw [if_neg hk, hname, hg, hr]
    rfl
  · rw [hcr]
    simp only [List.head?_cons, ne_eq, Option.some.injEq]
    rintro rfl
    revert hc; decide
theorem itoa_minus {n : Int} (h0 : n < 0) : Lib.itoa n = 45 :: Lib.itoa (-n) := by
  obtain ⟨u, rfl⟩ : ∃ u : Nat, n = -(u : Int) := ⟨n.natAbs, by omega⟩
  rw [Lib.itoa_neg u (by omega), Int.neg_neg, Lib.itoa_nonneg]
theorem key_tok {t : List UInt8} (h : t ∈ keysL) : TextOf wordK 1 t := by
  refine ⟨by decide, .inl ⟨?_, ?_, ?_, ?_⟩⟩
  · unfold wordK
    rw [if_pos h]
  all_goals
    simp only [keysL, List.mem_cons, List.not_mem_nil, or_false] at h
    rcases h with rfl | rfl | rfl | rfl | rfl | rfl | rfl | rfl <;> decide
/-- a rest that goes on with what belongs to no word and makes no sign longer -/
def CutC (r : List UInt8) : Prop := r = [] ∨ ∃ c r', r = c :: r' ∧ insB c = false ∧ ¬ c = 61
theorem cut32 (r : List UInt8) : CutC (32 :: r) := .inr ⟨32, r, rfl, by decide, by decide⟩
theorem cut41 (r : List UInt8) : CutC (41 :: r) := .inr ⟨41, r, rfl, by decide, by decide⟩
theorem cut40 (r : List UInt8) : CutC (40 :: r) := .inr ⟨40, r, rfl, by decide, by decide⟩
theorem cut44 (r : List UInt8) : CutC (44 :: r) := .inr ⟨44, r, rfl, by decide, by decide⟩
theorem cut46 (r : List UInt8) : CutC (46 :: r) := .inr ⟨46, r, rfl, by decide, by decide⟩
theorem takeWhile_cutc {t r : List UInt8} (h : ∀ c ∈ t, insB c = true) (hr : CutC r) : (t ++ r).takeWhile insB = t := by
  induction t with
  | nil =>
    rcases hr with rfl | ⟨c, r', rfl, hc, -⟩
    · rfl
    · simp [hc]
  | cons c t ih =>
    rw [List.cons_append, List.takeWhile_cons, h c (List.mem_cons_self ..)]
    simp only [if_true]
    rw [ih fun d hd => h d (List.mem_cons_of_mem _ hd)]
theorem text_cutc {wk : List UInt8 → Int} {q : Int} {t : List UInt8} (h : TextOf wk q t) {r : List UInt8} (hr : CutC r) : tokL wk (t ++ r) = (q, t.length) := by
  rcases h.2 with ⟨h0, h1, h2, h3⟩ | ⟨h0, h1⟩
  · have e := takeWhile_cutc h2 hr
    have e1 : runL (t ++ r) = t.length := by unfold runL; rw [e]
    have e2 : (t ++ r).head? = t.head? := by cases t with
      | nil => exact absurd rfl h1
      | cons c t => rfl
    unfold tokL
    rw [e1, e2, if_pos ⟨List.length_pos_iff.2 h1, h3⟩]
    simp [h0]
  · subst h0
    simp only [signsL, List.mem_cons, List.not_mem_nil, or_false] at h1
    rcases hr with rfl | ⟨c, r', rfl, hc, hc2⟩
    · rcases h1 with rfl | rfl | rfl | rfl | rfl | rfl | rfl | rfl | rfl | rfl | rfl | rfl | rfl | rfl <;> simp [tokL, runL, insB, signsL, List.find?, List.isPrefixOf]
    · have hc3 : ¬ 61 = c := fun e => hc2 e.symm
      have hc4 : ((61 : UInt8) == c) = false := by simpa using hc3
      rcases h1 with rfl | rfl | rfl | rfl | rfl | rfl | rfl | rfl | rfl | rfl | rfl | rfl | rfl | rfl <;> simp [tokL, runL, insB, signsL, List.find?, List.isPrefixOf, hc4]
theorem Rds.app {s s' r : List UInt8} {ts ts' : List (Int × List UInt8)} (h : Rds s (s' ++ r) ts) (h' : Rds s' r ts') : Rds (s ++ s') r (ts ++ ts') := by
  intro a
  obtain ⟨t1, e1, e2⟩ := h a
  obtain ⟨t2, e3, e4⟩ := h' (a + s.length)
  refine ⟨t1 ++ t2, ?_, by rw [List.map_append, e2, e4]⟩
  rw [List.append_assoc, e1, e3, List.length_append, Nat.add_assoc, List.append_assoc]
theorem Rds.cast {s r : List UInt8} {ts ts' : List (Int × List UInt8)} (h : Rds s r ts) (e : ts = ts') : Rds s r ts' := e ▸ h
theorem rd_of {k : Int} {t r : List UInt8} (h : TextOf wordK k t) (htk : tokL wordK (t ++ r) = (k, t.length)) : Rds t r [(k, t)] := by
  intro a
  obtain ⟨hne, hsk⟩ := text_skip h r
  refine ⟨[⟨k, t, a⟩], ?_, rfl⟩
  rw [lexA_at (by simp [hne]) hsk, htk, if_neg h.1]
  simp
theorem rd_tok {k : Int} {t r : List UInt8} (h : TextOf wordK k t) (hr : CutC r) : Rds t r [(k, t)] := rd_of h (text_cutc h hr)
theorem sign_tok {t : List UInt8} (h : t ∈ signsL) : TextOf wordK 5 t := ⟨by decide, .inr ⟨rfl, h⟩⟩
theorem rd_one {c : UInt8} (h : c = 40 ∨ c = 41 ∨ c = 44 ∨ c = 46 ∨ c = 45) (r : List UInt8) : Rds [c] r [(5, [c])] := by
  rcases h with rfl | rfl | rfl | rfl | rfl <;>
  · refine rd_of (sign_tok (by decide)) ?_
    simp [tokL, runL, insB, signsL, List.find?, List.isPrefixOf]
theorem rd_blank {c : UInt8} (h : blankB c = true) (r : List UInt8) : Rds [c] r [] := by
  intro a
  refine ⟨[], ?_, rfl⟩
  have hk : skipG false (c :: r) = 1 + skipG false ((c :: r).drop 1) := by simp [skipG, h]
  have := lexA_adv (wk := wordK) hk a
  simp only [List.drop_succ_cons, List.drop_zero] at this
  simp [this]
theorem rd32 (r : List UInt8) : Rds [32] r [] := rd_blank (by decide) r
/-- wherever it is cut -/
def Rdc (s : List UInt8) (ts : List (Int × List UInt8)) : Prop := ∀ r, CutC r → Rds s r ts
theorem single_text {k : Int} {s : ByteArray} (h : singleB k s = true) : TextOf wordK k s.toList := by
  unfold singleB at h
  rw [Bool.and_eq_true] at h
  have h2 := h.2
  split at h2
  · rename_i q hq
    simp only [Bool.and_eq_true, decide_eq_true_eq] at h2
    have := lex_texts (wk := wordK) s.toList.length 0 s.toList (Nat.le_refl _) q (by rw [show lexA wordK 0 s.toList = ([q], none) from hq]; exact List.mem_cons_self ..)
    rw [h2.1, h2.2] at this
    exact this
  · cases h2
def tokVal (v : GV) : List (Int × List UInt8) := if v.k = 2 then [(2, v.s.toList)] else if v.n < 0 then [(5, [45]), (4, Lib.itoa (-v.n))] else [(4, Lib.itoa v.n)]
def tokT (t : GTold) : List (Int × List UInt8) := if t.x.size = 0 then tokVal t.v else [(3, t.x.toList)]
theorem rd_term {t : GTold} (h : rightT t = true) (hs : SymT t) : Rdc (shownT t) (tokT t) := by
  intro r hr
  unfold rightT at h
  by_cases h0 : t.x.size = 0
  · rw [if_pos h0] at h
    unfold shownT tokT textOf tokVal
    rw [if_pos h0, if_pos h0, if_pos h]
    by_cases h2 : t.v.k = 2
    · rw [if_pos h2, if_pos h2]
      exact rd_tok (hs h0 h2) hr
    · rw [if_neg h2, if_neg h2]
      have hb : -2147483647 ≤ t.v.n ∧ t.v.n ≤ 2147483647 := by
        unfold rightB at h
        by_cases h1 : t.v.k = 1
        · rw [if_pos h1] at h
          simp only [Bool.and_eq_true, decide_eq_true_eq] at h
          exact ⟨h.1.2, h.2⟩
        · rw [if_neg h1, if_neg h2] at h; cases h
      by_cases hn : t.v.n < 0
      · rw [if_pos hn, itoa_minus hn]
        exact Rds.app (s := [45]) (s' := Lib.itoa (-t.v.n)) (rd_one (by decide) _) (rd_tok (itoa_tok (by omega) (by omega)).1 hr)
      · rw [if_neg hn]
        exact rd_tok (itoa_tok (by omega) (by omega)).1 hr
  · rw [if_neg h0, Bool.and_eq_true] at h
    unfold shownT tokT
    rw [if_neg h0, if_neg h0]
    exact rd_tok (single_text h.1) hr
def inT (b : Bool) (l : List (Int × List UInt8)) : List (Int × List UInt8) := if b then (5, [40]) :: (l ++ [(5, [41])]) else l
theorem rd_in {s : List UInt8} {ts : List (Int × List UInt8)} (b : Bool) (h : Rdc s ts) : Rdc (inB b s) (inT b ts) := by
  cases b with
  | false => exact h
  | true =>
    intro r hr
    exact Rds.app (s := [40] ++ s) (ts := (5, [40]) :: ts) (Rds.app (s := [40]) (ts := [(5, [40])]) (rd_one (by decide) _) (h _ (cut41 _))) (rd_one (by decide) r)
def tokE : Nat → GExp → List (Int × List UInt8)
  | 0, e => tokT e.t
  | k + 1, e => if e.op = 0 then tokT e.t else match e.kids with
    | [a, b] => inT (decide (e.op = 3) && sumB a) (tokE k a) ++ (5, opS e.op) :: inT (sumB b || (decide (e.op = 3) && decide (b.op = 3))) (tokE k b)
    | _ => []
theorem tokE_leaf {k : Nat} {e : GExp} (h : e.op = 0) : tokE k e = tokT e.t := by
  cases k <;> simp [tokE, h]
theorem tokE_two {k : Nat} {e a b : GExp} (h : ¬ e.op = 0) (hk : e.kids = [a, b]) : tokE (k + 1) e = inT (decide (e.op = 3) && sumB a) (tokE k a) ++ (5, opS e.op) :: inT (sumB b || (decide (e.op = 3) && decide (b.op = 3))) (tokE k b) := by
  simp [tokE, h, hk]
theorem opS_sign (o : Int) : opS o ∈ signsL := by
  unfold opS
  repeat' split
  all_goals decide
theorem rd_exp : ∀ (k : Nat) (e : GExp), rightE k e = true → SymE k e → Rdc (expS k e) (tokE k e)
  | 0, e, h, hs => by
    have h0 := rightE_none h
    rw [expS_leaf h0, tokE_leaf h0]
    exact rd_term (rightE_zero h h0).2 hs.t
  | k + 1, e, h, hs => by
    by_cases h0 : e.op = 0
    · rw [expS_leaf h0, tokE_leaf h0]
      exact rd_term (rightE_zero h h0).2 hs.t
    · obtain ⟨-, a, b, hk, ha, hb⟩ := rightE_split h h0
      rw [expS_two h0 hk, tokE_two h0 hk]
      have i1 := rd_in (decide (e.op = 3) && sumB a) (rd_exp k a ha (hs.2 a (by rw [hk]; simp)))
      have i2 := rd_in (sumB b || (decide (e.op = 3) && decide (b.op = 3))) (rd_exp k b hb (hs.2 b (by rw [hk]; simp)))
      intro r hr
      refine Rds.cast (Rds.app (ts := inT (decide (e.op = 3) && sumB a) (tokE k a) ++ [(5, opS e.op)]) ?_ (i2 r hr)) (by simp)
      refine Rds.cast (Rds.app (ts := inT (decide (e.op = 3) && sumB a) (tokE k a) ++ [(5, opS e.op)]) (ts' := []) ?_ (rd32 _)) (by simp)
      refine Rds.app (ts := inT (decide (e.op = 3) && sumB a) (tokE k a)) ?_ (rd_tok (sign_tok (opS_sign e.op)) (cut32 _))
      exact Rds.cast (Rds.app (ts' := []) (i1 _ (cut32 _)) (rd32 _)) (by simp)
/-- two lists side by side -/
def All2 {α β : Type} (R : α → β → Prop) : List α → List β → Prop
  | [], [] => True
  | a :: l, b :: m => R a b ∧ All2 R l m
  | _, _ => False
/-- tokens with commas between -/
def comT : List (List (Int × List UInt8)) → List (Int × List UInt8)
  | [] => []
  | [x] => x
  | x :: y :: r => x ++ (5, [44]) :: comT (y :: r)
theorem rd_join : ∀ (xs : List (List UInt8)) (ts : List (List (Int × List UInt8))), All2 Rdc xs ts → ∀ r, CutC r → Rds (Lib.join xs sep2) r (comT ts)
  | [], [], _, r, _ => Rds.nil r
  | [], _ :: _, h, _, _ => h.elim
  | _ :: _, [], h, _, _ => h.elim
  | [x], [t], h, r, hr => by rw [join_one]; exact h.1 r hr
  | [x], t :: u :: ts, h, _, _ => h.2.elim
  | x :: y :: xs, [t], h, _, _ => h.2.elim
  | x :: y :: xs, t :: u :: ts, h, r, hr => by
    rw [join_two, comT]
    have ih := rd_join (y :: xs) (u :: ts) h.2 r hr
    have h2 : Rds (sep2 ++ Lib.join (y :: xs) sep2) r ((5, [44]) :: comT (u :: ts)) :=
      Rds.app (s := sep2) (ts := [(5, [44])]) (Rds.app (s := [44]) (s' := [32]) (ts := [(5, [44])]) (ts' := []) (rd_one (by decide) _) (rd32 _)) ih
    exact Rds.app (h.1 _ (by rw [List.append_assoc]; exact cut44 _)) h2
def tokTh (agg col : Int) (i : Nat) (t : GTold) : List (Int × List UInt8) := if 0 < agg ∧ (i : Int) = col then (1, aggS agg) :: (5, [40]) :: (tokT t ++ [(5, [41])]) else tokT t
/-- the tokens of the things of a list, by their places -/
def toksI {α : Type} (tok : Nat → α → List (Int × List UInt8)) : Nat → List α → List (List (Int × List UInt8))
  | _, [] => []
  | i, a :: l => tok i a :: toksI tok (i + 1) l
theorem aggS_key (o : Int) : aggS o ∈ keysL := by
  unfold aggS
  repeat' split
  all_goals decide
theorem rd_thing {agg col : Int} {i : Nat} {t : GTold} (h : rightT t = true) (hs : SymT t) : Rdc (thing agg col i t) (tokTh agg col i t) := by
  unfold thing tokTh
  split
  · intro r hr
    refine Rds.app (ts := (1, aggS agg) :: (5, [40]) :: tokT t) ?_ (rd_one (by decide) r)
    refine Rds.app (ts := [(1, aggS agg), (5, [40])]) ?_ (rd_term h hs _ (cut41 _))
    exact Rds.app (ts := [(1, aggS agg)]) (rd_tok (key_tok (aggS_key agg)) (by simp [cut40])) (rd_one (by decide) _)
  · exact rd_term h hs
theorem rd_things {agg col : Int} : ∀ (l : List GTold) (i : Nat), (∀ t ∈ l, rightT t = true) → (∀ t ∈ l, SymT t) → All2 Rdc (thingsL agg col i l) (toksI (tokTh agg col) i l)
  | [], _, _, _ => trivial
  | t :: l, i, h, hs => ⟨rd_thing (h t (List.mem_cons_self ..)) (hs t (List.mem_cons_self ..)), rd_things l (i + 1) (fun u hu => h u (List.mem_cons_of_mem _ hu)) (fun u hu => hs u (List.mem_cons_of_mem _ hu))⟩
def tokA (a : GAtom) (agg col : Int) : List (Int × List UInt8) := (2, a.rel.toList) :: (5, [40]) :: (comT (toksI (tokTh agg col) 0 a.args) ++ [(5, [41])])
def SymA (a : GAtom) : Prop := ∀ t ∈ a.args, SymT t
theorem rd_atom {a : GAtom} (agg col : Int) (h : atomB a = true) (hs : SymA a) (r : List UInt8) : Rds (atomS a agg col) r (tokA a agg col) := by
  obtain ⟨h1, -, h2⟩ := atomB_parts h
  unfold atomS thingsS tokA
  rw [← List.append_assoc]
  refine Rds.app (ts := (2, a.rel.toList) :: (5, [40]) :: comT (toksI (tokTh agg col) 0 a.args)) ?_ (rd_one (by decide) r)
  rw [← List.append_assoc]
  refine Rds.app (ts := [(2, a.rel.toList), (5, [40])]) ?_ (rd_join _ _ (rd_things a.args 0 h2 hs) _ (cut41 _))
  exact Rds.app (ts := [(2, a.rel.toList)]) (rd_tok (single_text h1) (by simp [cut40])) (rd_one (by decide) _)
theorem sgnS_sign (o : Int) : sgnS o ∈ signsL := by
  unfold sgnS
  repeat' split
  all_goals decide
def tokLit (x : GLit) : List (Int × List UInt8) := if x.k = 3 then tokE 20 x.l ++ (5, sgnS x.op) :: tokE 20 x.r else if x.k = 2 then (1, [110, 111, 116]) :: tokA x.atom 0 0 else tokA x.atom 0 0
structure SymL (x : GLit) : Prop where
  a : SymA x.atom
  l : SymE 20 x.l
  r : SymE 20 x.r
theorem rd_lit {x : GLit} (h : rightLit x = true) (hs : SymL x) : Rdc (litS x) (tokLit x) := by
  unfold rightLit at h
  unfold litS tokLit
  by_cases h3 : x.k = 3
  · rw [if_neg (by omega)] at h
    simp only [Bool.and_eq_true] at h
    rw [if_pos h3, if_pos h3]
    intro r hr
    refine Rds.cast (Rds.app (ts := tokE 20 x.l ++ [(5, sgnS x.op)]) ?_ (rd_exp 20 x.r h.2.2.2 hs.r r hr)) (by simp)
    refine Rds.cast (Rds.app (ts := tokE 20 x.l ++ [(5, sgnS x.op)]) (ts' := []) ?_ (rd32 _)) (by simp)
    refine Rds.app (ts := tokE 20 x.l) ?_ (rd_tok (sign_tok (sgnS_sign x.op)) (cut32 _))
    exact Rds.cast (Rds.app (ts' := []) (rd_exp 20 x.l h.2.2.1 hs.l _ (cut32 _)) (rd32 _)) (by simp)
  · rw [if_neg h3, if_neg h3]
    have h12 : x.k = 1 ∨ x.k = 2 := by
      by_cases h12 : x.k = 1 ∨ x.k = 2
      · exact h12
      · rw [if_neg h12] at h
        simp only [Bool.and_eq_true, decide_eq_true_eq] at h
        exact absurd h.1 h3
    rw [if_pos h12] at h
    simp only [Bool.and_eq_true] at h
    intro r hr
    by_cases h2 : x.k = 2
    · rw [if_pos h2, if_pos h2]
      refine Rds.app (s := [110, 111, 116, 32]) (ts := [(1, [110, 111, 116])]) ?_ (rd_atom 0 0 h.1 hs.a r)
      exact Rds.app (s := [110, 111, 116]) (s' := [32]) (ts' := []) (rd_tok (key_tok (by decide)) (cut32 _)) (rd32 _)
    · rw [if_neg h2, if_neg h2]
      exact rd_atom 0 0 h.1 hs.a r
theorem all2_map {α : Type} {f : α → List UInt8} {g : α → List (Int × List UInt8)} : ∀ (l : List α), (∀ x ∈ l, Rdc (f x) (g x)) → All2 Rdc (l.map f) (l.map g)
  | [], _ => trivial
  | x :: l, h => ⟨h x (List.mem_cons_self ..), all2_map l fun y hy => h y (List.mem_cons_of_mem _ hy)⟩
def tokR (x : GRule) : List (Int × List UInt8) := tokA x.head x.agg x.col ++ (if x.body = [] then [] else (5, [58, 45]) :: comT (x.body.map tokLit)) ++ [(5, [46])]
structure SymR (x : GRule) : Prop where
  a : SymA x.head
  b : ∀ l ∈ x.body, SymL l
theorem rd_rule {x : GRule} (h : rightRule x = true) (hs : SymR x) (r : List UInt8) : Rds (ruleS x) r (tokR x) := by
  obtain ⟨h1, -, -, h2⟩ := rule_parts h
  unfold ruleS tokR
  refine Rds.app ?_ (rd_one (by decide) r)
  refine Rds.app (rd_atom x.agg x.col h1 hs.a _) ?_
  by_cases hb : x.body = []
  · rw [if_pos hb, if_pos hb]; exact Rds.nil _
  · rw [if_neg hb, if_neg hb]
    refine Rds.app (ts := [(5, [58, 45])]) ?_ (rd_join _ _ (all2_map x.body fun l hl => rd_lit (h2 l hl) (hs.b l hl)) _ (cut46 _))
    refine Rds.app (s := [32]) (s' := [58, 45, 32]) (ts := []) (rd32 _) ?_
    exact Rds.app (s := [58, 45]) (s' := [32]) (ts' := []) (rd_tok (sign_tok (by decide)) (cut32 _)) (rd32 _)
theorem kindS_key (k : Int) : kindS k ∈ keysL := by
  unfold kindS
  split
  all_goals decide
def tokK (k : Int) : List (Int × List UInt8) := [(1, kindS k)]
def tokD (x : GDecl) : List (Int × List UInt8) := (1, relW) :: (2, x.rel.toList) :: (5, [40]) :: (comT (x.kinds.map tokK) ++ [(5, [41]), (5, [46])])
theorem rd_decl {x : GDecl} (h : declB x = true) (r : List UInt8) : Rds (declS x) r (tokD x) := by
  obtain ⟨h1, -, -⟩ := declB_parts h
  unfold declS tokD
  have hk := all2_map (f := kindS) (g := tokK) x.kinds fun k _ r hr => rd_tok (key_tok (kindS_key k)) hr
  refine Rds.app (ts := (1, relW) :: (2, x.rel.toList) :: (5, [40]) :: comT (x.kinds.map tokK)) (s' := [41, 46]) ?_ (Rds.app (s := [41]) (s' := [46]) (ts := [(5, [41])]) (rd_one (by decide) _) (rd_one (by decide) r))
  refine Rds.app (ts := [(1, relW), (2, x.rel.toList), (5, [40])]) ?_ (rd_join _ _ hk _ (cut41 _))
  refine Rds.app (ts := [(1, relW), (2, x.rel.toList)]) ?_ (rd_one (by decide) _)
  refine Rds.app (ts := [(1, relW)]) ?_ (rd_tok (single_text h1) (by simp [cut40]))
  exact Rds.app (s := [114, 101, 108]) (s' := [32]) (ts' := []) (rd_tok (key_tok (by decide)) (cut32 _)) (rd32 _)
theorem rd_lines {α : Type} {f : α → List UInt8} {g : α → List (Int × List UInt8)} : ∀ (l : List α), (∀ x ∈ l, ∀ r, Rds (f x) r (g x)) → ∀ r, Rds (textS (l.map f)) r (l.flatMap g)
  | [], _, r => Rds.nil r
  | x :: l, h, r => by
    have h1 : Rds (f x ++ [10]) (textS (l.map f) ++ r) (g x) := Rds.cast (Rds.app (ts' := []) (h x (List.mem_cons_self ..) _) (rd_blank (by decide) _)) (by simp)
    exact Rds.app (s' := textS (l.map f)) h1 (rd_lines l (fun y hy => h y (List.mem_cons_of_mem _ hy)) r)
def tokP (p : GProg) : List (Int × List UInt8) := p.decls.flatMap tokD ++ p.rules.flatMap tokR
theorem lex_shown {p : GProg} (h : formedB p = true) (hs : ∀ r ∈ p.rules, SymR r) : (lexS (textS (linesS p))).2 = none ∧ (lexS (textS (linesS p))).1.map kt = tokP p := by
  obtain ⟨-, -, h1, h2⟩ := formed_parts h
  have h3 : Rds (textS (linesS p)) [] (tokP p) := by
    have e : textS (linesS p) = textS (p.decls.map declS) ++ textS (p.rules.map ruleS) := by simp [textS, linesS]
    rw [e]
    exact Rds.app (rd_lines p.decls (fun d hd r => rd_decl (h1 d hd) r) _) (rd_lines p.rules (fun x hx r => rd_rule (h2 x hx) (hs x hx) r) _)
  obtain ⟨toks, e1, e2⟩ := h3 0
  rw [List.append_nil] at e1
  unfold lexS
  rw [e1]
  have e0 : lexA wordK (0 + (textS (linesS p)).length) [] = ([], none) := rfl
  rw [e0]
  exact ⟨rfl, by simpa using e2⟩
end Go.Proofs.YtplekbpmfaghbaaGreatDoor

namespace Go.Proofs.YtplekbpmfaghbaaGreatDoor
open Go.RowKit
def adv (s : PS) (n : Nat) : PS := ⟨s.next + n, s.deep, s.pl, s.err⟩
theorem up_eq (s : PS) : s.up = adv s 1 := rfl
theorem adv_adv (s : PS) (a b : Nat) : adv (adv s a) b = adv s (a + b) := by simp [adv, Nat.add_assoc]
theorem adv_err (s : PS) (n : Nat) : (adv s n).err = s.err := rfl
section
variable {T : List GTok} {E : Nat}
/-- what is ahead -/
def Ah (T : List GTok) (s : PS) (l : List (Int × List UInt8)) : Prop := (T.map kt).drop s.next = l
theorem Ah.go {s : PS} {l m : List (Int × List UInt8)} {n : Nat} (h : Ah T s (l ++ m)) (hn : l.length = n) : Ah T (adv s n) m := by
  subst hn
  show (T.map kt).drop (s.next + l.length) = m
  rw [← List.drop_drop, show (T.map kt).drop s.next = l ++ m from h]
  simp
theorem Ah.up {s : PS} {x : Int × List UInt8} {m : List (Int × List UInt8)} (h : Ah T s (x :: m)) : Ah T (adv s 1) m := Ah.go (l := [x]) h rfl
theorem Ah.get {s : PS} {l : List (Int × List UInt8)} (h : Ah T s l) (k : Nat) : (T[s.next + k]?).map kt = l[k]? := by
  rw [← h, List.getElem?_drop, List.getElem?_map]
theorem Ah.peek {s : PS} {l : List (Int × List UInt8)} {k : Nat} {x : Int × List UInt8} (h : Ah T s l) (hx : l[k]? = some x) : (peekP T E s k).k = x.1 ∧ (peekP T E s k).t = x.2 := by
  have h1 := h.get k
  rw [hx, Option.map_eq_some_iff] at h1
  obtain ⟨q, h2, rfl⟩ := h1
  unfold peekP
  rw [h2]
  exact ⟨rfl, rfl⟩
theorem Ah.lt {s : PS} {x : Int × List UInt8} {l : List (Int × List UInt8)} (h : Ah T s (x :: l)) : s.next < T.length := by
  have := congrArg List.length h
  simp at this
  omega
theorem Ah.len {s : PS} {l : List (Int × List UInt8)} (h : Ah T s l) : l.length ≤ T.length := by
  have := congrArg List.length h
  simp at this
  omega
theorem Ah.peek0 {s : PS} {x : Int × List UInt8} {l : List (Int × List UInt8)} (h : Ah T s (x :: l)) : (peekP T E s 0).k = x.1 ∧ (peekP T E s 0).t = x.2 := h.peek rfl
theorem Ah.is {s : PS} {x : Int × List UInt8} {l : List (Int × List UInt8)} (h : Ah T s (x :: l)) (u : List UInt8) : isP T E s u = ((decide (x.1 = 1) || decide (x.1 = 5)) && decide (x.2 = u)) := by
  unfold isP
  rw [(h.peek0 (E := E)).1, (h.peek0 (E := E)).2]
theorem Ah.want {s : PS} {k : Int} {u : List UInt8} {l : List (Int × List UInt8)} (h : Ah T s ((k, u) :: l)) (hk : k = 1 ∨ k = 5) : wantP T E s u = adv s 1 := by
  unfold wantP
  rw [h.is, if_pos (by rcases hk with rfl | rfl <;> simp)]
  rfl
theorem Ah.take {s : PS} {k : Int} {u : List UInt8} {l : List (Int × List UInt8)} (h : Ah T s ((k, u) :: l)) : takeP T E s k = adv s 1 ∧ takeT T E s k = u := by
  unfold takeP takeT
  rw [(h.peek0 (E := E)).1, (h.peek0 (E := E)).2]
  simp [up_eq]
theorem bytes_toList (s : ByteArray) : bytes s.toList = s := bytes_back s
theorem size_nil {s : ByteArray} (h : s.size = 0) : s = ⟨#[]⟩ := by
  rw [← toList_inj]
  have : s.toList = [] := List.eq_nil_of_length_eq_zero (by rw [ba_len]; exact h)
  rw [this]
  exact (toList_mk []).symm
theorem right_num {v : GV} (h : rightB v = true) (h2 : ¬ v.k = 2) : v.k = 1 ∧ v.s = ⟨#[]⟩ ∧ -2147483647 ≤ v.n ∧ v.n ≤ 2147483647 := by
  unfold rightB at h
  by_cases h1 : v.k = 1
  · rw [if_pos h1] at h
    simp only [Bool.and_eq_true, decide_eq_true_eq] at h
    exact ⟨h1, size_nil h.1.1, h.1.2, h.2⟩
  · rw [if_neg h1, if_neg h2] at h; cases h
theorem term_ah {t : GTold} (h : rightT t = true) {s : PS} {l : List (Int × List UInt8)} (ha : Ah T s (tokT t ++ l)) : termP T E s = (adv s (tokT t).length, t) := by
  unfold rightT at h
  by_cases h0 : t.x.size = 0
  · rw [if_pos h0] at h
    have hx := size_nil h0
    unfold tokT tokVal at ha ⊢
    rw [if_pos h0] at ha ⊢
    by_cases h2 : t.v.k = 2
    · rw [if_pos h2] at ha ⊢
      have hn : t.v.n = 0 := by
        unfold rightB at h
        rw [if_neg (by omega), if_pos h2] at h
        simp only [Bool.and_eq_true, decide_eq_true_eq] at h
        exact h.1
      have hi := Ah.is (E := E) ha [45]
      obtain ⟨p1, p2⟩ := Ah.peek0 (E := E) ha
      unfold termP mayP
      simp only [hi]
      simp [up_eq]
      cases t with
      | mk x v =>
        cases v
        simp_all [bytes_toList]
    · rw [if_neg h2] at ha ⊢
      obtain ⟨h1, hs, b1, b2⟩ := right_num h h2
      by_cases hn : t.v.n < 0
      · rw [if_pos hn] at ha ⊢
        have hi := Ah.is (E := E) ha [45]
        obtain ⟨p1, p2⟩ := Ah.peek0 (E := E) (Ah.up ha)
        have hm := (itoa_tok (n := -t.v.n) (by omega) (by omega)).2
        have hmay : mayP T E s [45] = adv s 1 := by unfold mayP; rw [hi]; rfl
        unfold termP
        simp only [hmay, hi, p1, p2, hm]
        simp
        cases t with
        | mk x v =>
          cases v
          simp_all
          rfl
      · rw [if_neg hn] at ha ⊢
        have hi := Ah.is (E := E) ha [45]
        obtain ⟨p1, p2⟩ := Ah.peek0 (E := E) ha
        have hm := (itoa_tok (n := t.v.n) (by omega) (by omega)).2
        unfold termP mayP
        simp only [hi]
        simp [up_eq]
        cases t with
        | mk x v =>
          cases v
          simp_all
  · rw [if_neg h0, Bool.and_eq_true] at h
    unfold tokT at ha ⊢
    rw [if_neg h0] at ha ⊢
    have hv : t.v = gv0 := by simpa using h.2
    have hi := Ah.is (E := E) ha [45]
    obtain ⟨p1, p2⟩ := Ah.peek0 (E := E) ha
    unfold termP mayP
    simp only [hi]
    simp [up_eq]
    cases t with
    | mk x v => simp_all [bytes_toList]
/-- the first token of a term -/
theorem tokT_head (t : GTold) : ∃ x m, tokT t = x :: m ∧ ((x.1 = 5 ∧ x.2 = [45]) ∨ (x.1 = 2 ∧ m = []) ∨ x.1 = 3 ∨ x.1 = 4) := by
  unfold tokT tokVal
  repeat' split
  · exact ⟨_, _, rfl, .inr (.inl ⟨rfl, rfl⟩)⟩
  · exact ⟨_, _, rfl, .inl ⟨rfl, rfl⟩⟩
  · exact ⟨_, _, rfl, .inr (.inr (.inr rfl))⟩
  · exact ⟨_, _, rfl, .inr (.inr (.inl rfl))⟩
/-- no operator is next, nor a star -/
def NoOp (l : List (Int × List UInt8)) : Prop := ∃ u m, l = (5, u) :: m ∧ ¬ u = [43] ∧ ¬ u = [45] ∧ ¬ u = [42]
def NoStar (l : List (Int × List UInt8)) : Prop := ∃ u m, l = (5, u) :: m ∧ ¬ u = [42]
theorem NoOp.star {l : List (Int × List UInt8)} (h : NoOp l) : NoStar l := by
  obtain ⟨u, m, h1, h2, h3, h4⟩ := h
  exact ⟨u, m, h1, h4⟩
/-- the operand with n brackets left -/
def opn (T : List GTok) (E : Nat) : Nat → PS → PS × GExp
  | 0 => operandP T E none
  | n + 1 => operandP T E (some (sumP T E n))
theorem sumP_opn (n : Nat) : sumP T E n = sumOf T E (opn T E n) := by
  cases n <;> rfl
/-- expressions of a depth are read as they are -/
def ReadsE (T : List GTok) (E : Nat) (k : Nat) : Prop := ∀ (e : GExp) (n : Nat) (s : PS) (l : List (Int × List UInt8)), rightE k e = true → k ≤ n → Ah T s (tokE k e ++ l) → NoOp l → sumP T E n s = (adv s (tokE k e).length, e)
theorem exp_eta (e : GExp) : e = .mk e.op e.t e.kids := by cases e; rfl
theorem leaf_ah {e : GExp} {k n : Nat} {s : PS} {l : List (Int × List UInt8)} (h : rightE k e = true) (h0 : e.op = 0) (ha : Ah T s (tokE k e ++ l)) : opn T E n s = (adv s (tokE k e).length, e) := by
  obtain ⟨hk, ht⟩ := rightE_zero h h0
  rw [tokE_leaf h0] at ha ⊢
  obtain ⟨x, m, hx, hh⟩ := tokT_head e.t
  have hi : isP T E s [40] = false := by
    have ha2 := ha
    rw [hx, List.cons_append] at ha2
    rw [ha2.is]
    rcases hh with ⟨h1, h2⟩ | ⟨h1, -⟩ | h1 | h1
    · rw [h1, h2]; rfl
    · rw [h1]; rfl
    · rw [h1]; rfl
    · rw [h1]; rfl
  have hr : operandP T E none s = (adv s (tokT e.t).length, e) ∧ ∀ i, operandP T E i s = operandP T E none s := by
    refine ⟨?_, fun i => ?_⟩
    · unfold operandP
      rw [if_neg (by rw [hi]; simp), term_ah ht ha]
      exact Prod.ext rfl (by rw [exp_eta e, h0, hk]; rfl)
    · unfold operandP
      rw [if_neg (by rw [hi]; simp), if_neg (by rw [hi]; simp)]
  cases n with
  | zero => exact hr.1
  | succ n => rw [show opn T E (n + 1) s = operandP T E (some (sumP T E n)) s from rfl, hr.2]; exact hr.1
theorem brackets_ah {e : GExp} {k n : Nat} {s : PS} {l : List (Int × List UInt8)} (hR : ReadsE T E k) (h : rightE k e = true) (hkn : k + 1 ≤ n) (ha : Ah T s (inT true (tokE k e) ++ l)) : opn T E n s = (adv s (inT true (tokE k e)).length, e) := by
  obtain ⟨m, rfl⟩ : ∃ m, n = m + 1 := ⟨n - 1, by omega⟩
  have ha2 : Ah T s ((5, [40]) :: (tokE k e ++ ((5, [41]) :: l))) := by
    have e1 : inT true (tokE k e) ++ l = (5, [40]) :: (tokE k e ++ ((5, [41]) :: l)) := by simp [inT]
    rw [← e1]; exact ha
  have hi : isP T E s [40] = true := by rw [ha2.is]; rfl
  have hw : wantP T E ⟨s.next, s.deep + 1, s.pl, s.err⟩ [40] = adv ⟨s.next, s.deep + 1, s.pl, s.err⟩ 1 := Ah.want (s := ⟨s.next, s.deep + 1, s.pl, s.err⟩) ha2 (.inr rfl)
  have ha3 : Ah T (adv ⟨s.next, s.deep + 1, s.pl, s.err⟩ 1) (tokE k e ++ ((5, [41]) :: l)) := Ah.up (s := ⟨s.next, s.deep + 1, s.pl, s.err⟩) ha2
  have hs := hR e m _ _ h (by omega) ha3 ⟨[41], l, rfl, by decide, by decide, by decide⟩
  have ha4 := ha3.go rfl
  have hw2 := ha4.want (E := E) (.inr rfl)
  show operandP T E (some (sumP T E m)) s = _
  unfold operandP
  rw [if_pos hi]
  dsimp only
  rw [hw, hs]
  dsimp only
  rw [hw2]
  simp [adv, inT, Nat.add_assoc, Nat.add_comm 1]
/-- products -/
theorem product_ah (E : Nat) : ∀ (k : Nat), (∀ j, j < k → ReadsE T E j) → ∀ (e : GExp) (n : Nat) (s : PS) (l : List (Int × List UInt8)), rightE k e = true → sumB e = false → k ≤ n → Ah T s (tokE k e ++ l) →
    ∃ c, c ≤ (tokE k e).length ∧ ∀ f, prodL T E (opn T E n) (f + c) (opn T E n s) = prodL T E (opn T E n) f (adv s (tokE k e).length, e)
  | 0, _, e, n, s, l, h, _, _, ha => ⟨0, Nat.zero_le _, fun f => by rw [leaf_ah h (rightE_none h) ha]; rfl⟩
  | k + 1, hR, e, n, s, l, h, hsum, hkn, ha => by
    by_cases h0 : e.op = 0
    · exact ⟨0, Nat.zero_le _, fun f => by rw [leaf_ah h h0 ha]; rfl⟩
    · obtain ⟨⟨o1, o2, ht⟩, a, b, hk, hra, hrb⟩ := rightE_split h h0
      have h3 : e.op = 3 := by
        unfold sumB at hsum
        simp only [Bool.and_eq_false_iff, decide_eq_false_iff_not] at hsum
        omega
      have hop : opS e.op = [42] := by rw [h3]; rfl
      rw [tokE_two h0 hk, hop] at ha ⊢
      rw [h3] at ha ⊢
      simp only [decide_true, Bool.true_and] at ha ⊢
      have hb : ∀ (s2 : PS) (l2 : List (Int × List UInt8)), Ah T s2 (inT (sumB b || decide (b.op = 3)) (tokE k b) ++ l2) → opn T E n s2 = (adv s2 (inT (sumB b || decide (b.op = 3)) (tokE k b)).length, b) := by
        intro s2 l2 ha2
        by_cases hb0 : b.op = 0
        · have hf : (sumB b || decide (b.op = 3)) = false := by simp [sumB, hb0]
          rw [hf] at ha2 ⊢
          exact leaf_ah hrb hb0 ha2
        · have hbo : (sumB b || decide (b.op = 3)) = true := by
            cases k with
            | zero => exact absurd (rightE_none hrb) hb0
            | succ k =>
              obtain ⟨⟨q1, q2, -⟩, -⟩ := rightE_split hrb hb0
              simp only [sumB, Bool.or_eq_true, Bool.and_eq_true, decide_eq_true_eq]
              omega
          rw [hbo] at ha2 ⊢
          exact brackets_ah (hR k (by omega)) hrb (by omega) ha2
      have hfirst : ∃ c, c ≤ (inT (sumB a) (tokE k a)).length ∧ ∀ f, prodL T E (opn T E n) (f + c) (opn T E n s) = prodL T E (opn T E n) f (adv s (inT (sumB a) (tokE k a)).length, a) := by
        rw [List.append_assoc] at ha
        cases hsa : sumB a with
        | false =>
          rw [hsa] at ha
          exact product_ah E k (fun j hj => hR j (by omega)) a n s _ hra hsa (by omega) ha
        | true =>
          rw [hsa] at ha
          exact ⟨0, Nat.zero_le _, fun f => by rw [brackets_ah (hR k (by omega)) hra (by omega) ha]; rfl⟩
      obtain ⟨c, hc, hf⟩ := hfirst
      rw [List.append_assoc] at ha
      have ha2 := ha.go rfl
      have hb2 := hb (adv (adv s (inT (sumB a) (tokE k a)).length) 1) l ha2.up
      refine ⟨c + 1, by simp only [List.length_append, List.length_cons]; omega, fun f => ?_⟩
      rw [show f + (c + 1) = (f + 1) + c by omega, hf (f + 1), prodL]
      have hi : isP T E (adv s (inT (sumB a) (tokE k a)).length) [42] = true := by rw [Ah.is (x := (5, [42])) ha2]; rfl
      rw [if_pos hi]
      dsimp only
      rw [up_eq, hb2]
      have ee : e = .mk 3 zT [a, b] := by rw [exp_eta e, h3, ht, hk]
      rw [← ee, adv_adv, adv_adv, List.length_append, List.length_cons]
      rw [Nat.add_comm 1]
theorem prodL_end (o : PS → PS × GExp) (f : Nat) {x : PS × GExp} {l : List (Int × List UInt8)} (ha : Ah T x.1 l) (hl : NoStar l) : prodL T E o f x = x := by
  obtain ⟨u, m, rfl, hu⟩ := hl
  cases f with
  | zero => rfl
  | succ f =>
    rw [prodL, if_neg]
    rw [ha.is]
    simpa using hu
theorem productP_ah {k : Nat} (hR : ∀ j, j < k → ReadsE T E j) {e : GExp} {n : Nat} {s : PS} {l : List (Int × List UInt8)} (h : rightE k e = true) (hs : sumB e = false) (hkn : k ≤ n) (ha : Ah T s (tokE k e ++ l)) (hl : NoStar l) :
    productP T E (opn T E n) s = (adv s (tokE k e).length, e) := by
  obtain ⟨c, hc, hf⟩ := product_ah E k hR e n s l h hs hkn ha
  have hlen := ha.len
  rw [List.length_append] at hlen
  unfold productP
  rw [show T.length = (T.length - c) + c by omega, hf]
  exact prodL_end _ _ (ha.go rfl) hl
/-- a kid of a sum, in brackets if it is one -/
theorem kid_ah {k : Nat} (hR : ∀ j, j < k + 1 → ReadsE T E j) {b : GExp} {n : Nat} {s : PS} {l : List (Int × List UInt8)} (h : rightE k b = true) (hkn : k + 1 ≤ n) (ha : Ah T s (inT (sumB b) (tokE k b) ++ l)) (hl : NoStar l) :
    productP T E (opn T E n) s = (adv s (inT (sumB b) (tokE k b)).length, b) := by
  cases hsb : sumB b with
  | false =>
    rw [hsb] at ha
    exact productP_ah (fun j hj => hR j (by omega)) h hsb (by omega) ha hl
  | true =>
    rw [hsb] at ha
    unfold productP
    rw [brackets_ah (hR k (by omega)) h (by omega) ha]
    exact prodL_end _ _ (ha.go rfl) hl
/-- sums -/
theorem sum_ah (E : Nat) : ∀ (k : Nat), (∀ j, j < k → ReadsE T E j) → ∀ (e : GExp) (n : Nat) (s : PS) (l : List (Int × List UInt8)), rightE k e = true → k ≤ n → Ah T s (tokE k e ++ l) → NoStar l →
    ∃ c, c ≤ (tokE k e).length ∧ ∀ f, sumL T E (productP T E (opn T E n)) (f + c) (productP T E (opn T E n) s) = sumL T E (productP T E (opn T E n)) f (adv s (tokE k e).length, e)
  | 0, hR, e, n, s, l, h, hkn, ha, hl => ⟨0, Nat.zero_le _, fun f => by
      rw [productP_ah hR h (by simp [sumB, rightE_none h]) hkn ha hl]; rfl⟩
  | k + 1, hR, e, n, s, l, h, hkn, ha, hl => by
    cases hse : sumB e with
    | false => exact ⟨0, Nat.zero_le _, fun f => by rw [productP_ah hR h hse hkn ha hl]; rfl⟩
    | true =>
      have ho : e.op = 1 ∨ e.op = 2 := by
        unfold sumB at hse
        simp only [Bool.and_eq_true, decide_eq_true_eq] at hse
        omega
      have h0 : ¬ e.op = 0 := by omega
      obtain ⟨⟨o1, o2, ht⟩, a, b, hk, hra, hrb⟩ := rightE_split h h0
      have e1 : (decide (e.op = 3) && sumB a) = false := by
        have : ¬ e.op = 3 := by omega
        simp [this]
      have e2 : (sumB b || (decide (e.op = 3) && decide (b.op = 3))) = sumB b := by
        have : ¬ e.op = 3 := by omega
        simp [this]
      rw [tokE_two h0 hk, e1, e2] at ha ⊢
      rw [List.append_assoc] at ha
      have hst : NoStar ((5, opS e.op) :: inT (sumB b) (tokE k b) ++ l) := ⟨opS e.op, _, rfl, by rcases ho with h | h <;> rw [h] <;> decide⟩
      obtain ⟨c, hc, hf⟩ := sum_ah E k (fun j hj => hR j (by omega)) a n s _ hra (by omega) ha hst
      have ha2 : Ah T (adv s (tokE k a).length) ((5, opS e.op) :: (inT (sumB b) (tokE k b) ++ l)) := ha.go rfl
      have hb2 := kid_ah hR hrb hkn ha2.up hl
      have hlen : (inT false (tokE k a)).length = (tokE k a).length := rfl
      refine ⟨c + 1, by simp only [List.length_append, List.length_cons]; omega, fun f => ?_⟩
      rw [show f + (c + 1) = (f + 1) + c by omega, hf (f + 1), sumL]
      have ee : ∀ o, e.op = o → e = .mk o zT [a, b] := fun o ho => by rw [exp_eta e, ho, ht, hk]
      rcases ho with ho | ho
      · have hi : isP T E (adv s (tokE k a).length) [43] = true := by rw [ha2.is, ho]; rfl
        rw [if_pos hi]
        dsimp only
        rw [up_eq, hb2, ← ee 1 ho, adv_adv, adv_adv, List.length_append, List.length_cons, hlen]
        rw [Nat.add_comm 1]
      · have hi : isP T E (adv s (tokE k a).length) [43] = false := by rw [ha2.is, ho]; rfl
        have hi2 : isP T E (adv s (tokE k a).length) [45] = true := by rw [ha2.is, ho]; rfl
        rw [if_neg (by rw [hi]; simp), if_pos hi2]
        dsimp only
        rw [up_eq, hb2, ← ee 2 ho, adv_adv, adv_adv, List.length_append, List.length_cons, hlen]
        rw [Nat.add_comm 1]
theorem reads_all (E : Nat) : ∀ k, ReadsE T E k := by
  intro k
  induction k using Nat.strongRecOn with
  | ind k ih =>
    intro e n s l h hkn ha hl
    obtain ⟨c, hc, hf⟩ := sum_ah E k ih e n s l h hkn ha hl.star
    have hlen := ha.len
    rw [List.length_append] at hlen
    rw [sumP_opn]
    unfold sumOf
    rw [show T.length = (T.length - c) + c by omega, hf]
    have ha2 := ha.go rfl
    obtain ⟨u, m, rfl, h1, h2, -⟩ := hl
    generalize T.length - c = f
    cases f with
    | zero => rfl
    | succ f =>
      rw [sumL, if_neg (by rw [Ah.is ha2]; simpa using h1), if_neg (by rw [Ah.is ha2]; simpa using h2)]
end
end Go.Proofs.YtplekbpmfaghbaaGreatDoor
