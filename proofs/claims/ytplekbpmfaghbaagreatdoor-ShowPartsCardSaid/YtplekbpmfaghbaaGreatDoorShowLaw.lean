/- The texts of terms, expressions, atoms, literals, rules and declarations: the plain words, and how long such texts are. -/
import Derived.Test.YtplekbpmfaghbaaGreatDoorTSize
import Derived.Test.YtplekbpmfaghbaaGreatDoorVTexts
import Derived.Test.YtplekbpmfaghbaaGreatDoorVParse
import Derived.Lib.Join
namespace Go.Proofs.YtplekbpmfaghbaaGreatDoor
open Go.RowKit

def sep2 : List UInt8 := [44, 32]
def shownT (t : GTold) : List UInt8 := if t.x.size = 0 then textOf t.v else t.x.toList
def opS (o : Int) : List UInt8 := if o = 1 then [43] else if o = 2 then [45] else [42]
def sumB (e : GExp) : Bool := decide (0 < e.op) && decide (e.op < 3)
def inB (b : Bool) (s : List UInt8) : List UInt8 := if b then [40] ++ s ++ [41] else s
def expS : Nat → GExp → List UInt8
  | 0, e => shownT e.t
  | k + 1, e => if e.op = 0 then shownT e.t else match e.kids with
    | [a, b] => inB (decide (e.op = 3) && sumB a) (expS k a) ++ [32] ++ opS e.op ++ [32] ++ inB (sumB b || (decide (e.op = 3) && decide (b.op = 3))) (expS k b)
    | _ => []
theorem expS_leaf {k : Nat} {e : GExp} (h : e.op = 0) : expS k e = shownT e.t := by
  cases k <;> simp [expS, h]
theorem expS_two {k : Nat} {e a b : GExp} (h : ¬ e.op = 0) (hk : e.kids = [a, b]) : expS (k + 1) e = inB (decide (e.op = 3) && sumB a) (expS k a) ++ [32] ++ opS e.op ++ [32] ++ inB (sumB b || (decide (e.op = 3) && decide (b.op = 3))) (expS k b) := by
  simp [expS, h, hk]
def aggS (g : Int) : List UInt8 := if g = 1 then [99, 111, 117, 110, 116] else if g = 2 then [115, 117, 109] else if g = 3 then [109, 105, 110] else [109, 97, 120]
def thing (agg col : Int) (i : Nat) (t : GTold) : List UInt8 := if 0 < agg ∧ (i : Int) = col then aggS agg ++ [40] ++ shownT t ++ [41] else shownT t
def thingsL (agg col : Int) : Nat → List GTold → List (List UInt8)
  | _, [] => []
  | i, t :: ts => thing agg col i t :: thingsL agg col (i + 1) ts
def thingsS (agg col : Int) (l : List GTold) : List UInt8 := [40] ++ Lib.join (thingsL agg col 0 l) sep2 ++ [41]
def atomS (a : GAtom) (agg col : Int) : List UInt8 := a.rel.toList ++ thingsS agg col a.args
def sgnS (o : Int) : List UInt8 := if o = 1 then [61] else if o = 2 then [33, 61] else if o = 3 then [60] else if o = 4 then [60, 61] else if o = 5 then [62] else [62, 61]
def litS (l : GLit) : List UInt8 := if l.k = 3 then expS 20 l.l ++ [32] ++ sgnS l.op ++ [32] ++ expS 20 l.r else if l.k = 2 then [110, 111, 116, 32] ++ atomS l.atom 0 0 else atomS l.atom 0 0
def ruleS (r : GRule) : List UInt8 := atomS r.head r.agg r.col ++ (if r.body = [] then [] else [32, 58, 45, 32] ++ Lib.join (r.body.map litS) sep2) ++ [46]

/-! ### how long they are -/
theorem thingsL_get (agg col : Int) : ∀ (l : List GTold) (s i : Nat) (t : GTold), l[i]? = some t → (thingsL agg col s l)[i]? = some (thing agg col (s + i) t)
  | [], _, _, _, h => by simp at h
  | t :: ts, s, 0, x, h => by simp at h; subst h; simp [thingsL]
  | t :: ts, s, i + 1, x, h => by
    simp at h
    rw [thingsL, List.getElem?_cons_succ, thingsL_get agg col ts (s + 1) i x h]
    congr 2; omega
theorem thingsL_len (agg col : Int) : ∀ (l : List GTold) (s : Nat), (thingsL agg col s l).length = l.length
  | [], _ => rfl
  | t :: ts, s => by rw [thingsL, List.length_cons, thingsL_len agg col ts, List.length_cons]
theorem thingsL_snoc (agg col : Int) : ∀ (l : List GTold) (s : Nat) (t : GTold), thingsL agg col s (l ++ [t]) = thingsL agg col s l ++ [thing agg col (s + l.length) t]
  | [], s, t => by simp [thingsL]
  | x :: l, s, t => by
    rw [List.cons_append, thingsL, thingsL, thingsL_snoc agg col l, List.length_cons, List.cons_append]
    congr 4; omega
theorem thingsL_take (agg col : Int) {l : List GTold} {k : Nat} {t : GTold} (h : l[k]? = some t) : thingsL agg col 0 (l.take (k + 1)) = thingsL agg col 0 (l.take k) ++ [thing agg col k t] := by
  have hk : k < l.length := (List.getElem?_eq_some_iff.1 h).1
  rw [List.take_add_one, h]
  simp only [Option.toList_some]
  rw [thingsL_snoc, List.length_take, Nat.min_eq_left (by omega), Nat.zero_add]
theorem join_two (x y : List UInt8) (r : List (List UInt8)) : Lib.join (x :: y :: r) sep2 = x ++ (sep2 ++ Lib.join (y :: r) sep2) := by
  simp [Lib.join, List.intercalate, List.intersperse]
theorem join_one (x : List UInt8) : Lib.join [x] sep2 = x := by simp [Lib.join, List.intercalate]
theorem join_snoc : ∀ (xs : List (List UInt8)) (x : List UInt8), xs ≠ [] → Lib.join (xs ++ [x]) sep2 = Lib.join xs sep2 ++ sep2 ++ x
  | [], _, h => absurd rfl h
  | [a], x, _ => by rw [List.singleton_append, join_two, join_one, join_one, List.append_assoc]
  | a :: b :: r, x, _ => by
    have ih := join_snoc (b :: r) x (by simp)
    rw [List.cons_append, List.cons_append, join_two, ← List.cons_append, ih, join_two]
    simp
/-- the length of a joined list -/
def sumLen : List (List UInt8) → Nat
  | [] => 0
  | x :: xs => x.length + 2 + sumLen xs
theorem join_le : ∀ xs : List (List UInt8), (Lib.join xs sep2).length ≤ sumLen xs
  | [] => by simp [Lib.join, List.intercalate]
  | [a] => by rw [join_one]; simp only [sumLen]; omega
  | a :: b :: r => by
    have ih := join_le (b :: r)
    rw [join_two, List.length_append, List.length_append]
    have : sep2.length = 2 := rfl
    simp only [sumLen] at ih ⊢
    omega
theorem textOf_len (v : GV) : (textOf v).length ≤ 32 := by
  by_cases h : rightB v = true
  · unfold textOf
    rw [if_pos h]
    unfold rightB at h
    split at h
    · rename_i h1
      simp only [Bool.and_eq_true, decide_eq_true_eq] at h
      rw [if_neg (by omega)]
      have := Lib.itoa_length_le v.n (by omega) (by omega)
      omega
    · split at h
      · simp only [Bool.and_eq_true, decide_eq_true_eq] at h
        rw [if_pos ‹_›]
        have h2 := h.2
        simp only [nameOk, Bool.and_eq_true, decide_eq_true_eq] at h2
        have e : v.s.toList.length = v.s.size := by rw [ByteArray.toList_eq]; rfl
        omega
      · cases h
  · simp [textOf, h]
theorem shown_len (t : GTold) : (shownT t).length ≤ t.x.size + 32 := by
  unfold shownT
  split
  · have := textOf_len t.v; omega
  · rw [ba_len]; omega
theorem inB_len (b : Bool) (s : List UInt8) : (inB b s).length ≤ s.length + 2 := by
  cases b <;> simp [inB]
theorem opS_len (o : Int) : (opS o).length = 1 := by unfold opS; split; rfl; split <;> rfl
theorem sgnS_len (o : Int) : (sgnS o).length ≤ 2 := by
  unfold sgnS
  repeat' split
  all_goals simp
theorem aggS_len (o : Int) : (aggS o).length ≤ 5 := by
  unfold aggS
  repeat' split
  all_goals simp
theorem expS_len : ∀ (k : Nat) (e : GExp) (l : Int), 0 ≤ szE e l → ((expS k e).length : Int) ≤ 100 * (l - szE e l)
  | 0, e, l, h => by
    rw [szE_def] at h ⊢
    have h1 := szL_le e.kids (l - (1 + (((e.t.x.size + e.t.v.s.size) / 50 : Nat) : Int)))
    have h2 := shown_len e.t
    rw [expS]
    omega
  | k + 1, e, l, h => by
    have hl := szL_le e.kids (l - (1 + (((e.t.x.size + e.t.v.s.size) / 50 : Nat) : Int)))
    have hp := shown_len e.t
    by_cases h0 : e.op = 0
    · rw [expS_leaf h0]
      rw [szE_def] at h ⊢
      omega
    · match hk : e.kids with
      | [a, b] =>
        rw [expS_two h0 hk]
        rw [szE_def, hk] at h ⊢
        rw [szL] at h ⊢
        split at h
        · omega
        · rename_i h1
          rw [if_neg h1]
          rw [szL] at h ⊢
          split at h
          · omega
          · rename_i h2
            rw [if_neg h2]
            rw [szL] at h ⊢
            have i1 := expS_len k a _ (Int.not_lt.1 h2)
            have i2 := expS_len k b _ h
            have j1 := inB_len (decide (e.op = 3) && sumB a) (expS k a)
            have j2 := inB_len (sumB b || (decide (e.op = 3) && decide (b.op = 3))) (expS k b)
            have j3 := opS_len e.op
            simp only [List.length_append, List.length_cons, List.length_nil]
            omega
      | [] =>
        have e0 : expS (k + 1) e = [] := by simp [expS, h0, hk]
        rw [e0]
        rw [szE_def] at h ⊢
        simp only [List.length_nil]
        omega
      | [a] =>
        have e0 : expS (k + 1) e = [] := by simp [expS, h0, hk]
        rw [e0]
        rw [szE_def] at h ⊢
        simp only [List.length_nil]
        omega
      | a :: b :: c :: r =>
        have e0 : expS (k + 1) e = [] := by simp [expS, h0, hk]
        rw [e0]
        rw [szE_def] at h ⊢
        simp only [List.length_nil]
        omega
theorem thing_len (agg col : Int) (i : Nat) (t : GTold) : (thing agg col i t).length ≤ t.x.size + 39 := by
  have h := shown_len t
  have h2 := aggS_len agg
  unfold thing
  split
  · simp only [List.length_append, List.length_cons, List.length_nil]; omega
  · omega
theorem thingsL_sum (agg col : Int) : ∀ (ts : List GTold) (s : Nat) (l : Int), 0 ≤ szT ts l → ((sumLen (thingsL agg col s ts)) : Int) ≤ 100 * (l - szT ts l)
  | [], s, l, h => by simp [thingsL, sumLen, szT]
  | t :: ts, s, l, h => by
    rw [szT] at h ⊢
    split at h
    · omega
    · rename_i hn
      rw [if_neg hn]
      have i1 := thingsL_sum agg col ts (s + 1) _ h
      have i2 := thing_len agg col s t
      rw [thingsL, sumLen]
      omega
theorem atomS_len {x : GAtom} {l : Int} (agg col : Int) (h : 0 ≤ szA x l) : ((atomS x agg col).length : Int) ≤ 100 * (l - szA x l) := by
  unfold szA at h ⊢
  have h1 := thingsL_sum agg col x.args 0 _ h
  have h2 := join_le (thingsL agg col 0 x.args)
  unfold atomS thingsS
  simp only [List.length_append, List.length_cons, List.length_nil, ba_len]
  omega
theorem litS_len {x : GLit} {l : Int} (h : 0 ≤ szLit x l) : ((litS x).length : Int) + 2 ≤ 100 * (l - szLit x l) := by
  unfold szLit at h ⊢
  have h1 := szE_pos _ _ h
  have h2 := szE_pos _ _ (by omega : 0 ≤ szE x.l (szA x.atom l))
  have h3 := szA_len (x := x.atom) (l := l) (by omega)
  have h4 := expS_len 20 x.r _ h
  have h5 := expS_len 20 x.l _ (by omega : 0 ≤ szE x.l (szA x.atom l))
  have h6 := atomS_len (x := x.atom) (l := l) 0 0 (by omega)
  have h7 := szE_le x.l (szA x.atom l) (by omega)
  have h8 := szE_le x.r (szE x.l (szA x.atom l)) (by omega)
  have h9 := sgnS_len x.op
  have h10 : szE x.r (szE x.l (szA x.atom l)) ≤ szE x.l (szA x.atom l) - 1 := by
    have := leavesE_len x.r _ h
    rw [szE_def] at h ⊢
    have := szL_le x.r.kids (szE x.l (szA x.atom l) - (1 + (((x.r.t.x.size + x.r.t.v.s.size) / 50 : Nat) : Int)))
    omega
  unfold litS
  split
  · simp only [List.length_append, List.length_cons, List.length_nil]; omega
  · split
    · simp only [List.length_append, List.length_cons, List.length_nil]; omega
    · omega
theorem szB_all' : ∀ (xs : List GLit) (l : Int), 0 ≤ szB xs l → 0 ≤ l
  | [], l, h => by rw [szB] at h; exact h
  | x :: xs, l, h => by
    rw [szB] at h
    split at h
    · omega
    · omega
theorem lits_len : ∀ (xs : List GLit) (l : Int), 0 ≤ szB xs l → ((sumLen (xs.map litS)) : Int) ≤ 100 * (l - szB xs l)
  | [], l, h => by simp [sumLen, szB]
  | x :: xs, l, h => by
    rw [szB] at h ⊢
    split at h
    · omega
    · rename_i hn
      rw [if_neg hn]
      have i1 := lits_len xs _ h
      have i0 : 0 ≤ szLit x l := by
        have := szB_all' xs _ h
        omega
      have i2 := litS_len i0
      rw [List.map_cons, sumLen]
      omega
theorem ruleS_len {x : GRule} {l : Int} (h : 0 ≤ szR x l) : ((ruleS x).length : Int) ≤ 100 * (l - szR x l) + 5 := by
  unfold szR at h ⊢
  have h0 : 0 ≤ szA x.head l := szB_all' _ _ h
  have h1 := lits_len _ _ h
  have h2 := atomS_len (x := x.head) (l := l) x.agg x.col h0
  have h3 := join_le (x.body.map litS)
  unfold ruleS
  split
  · simp only [List.length_append, List.length_cons, List.length_nil]; omega
  · simp only [List.length_append, List.length_cons, List.length_nil]; omega
end Go.Proofs.YtplekbpmfaghbaaGreatDoor
