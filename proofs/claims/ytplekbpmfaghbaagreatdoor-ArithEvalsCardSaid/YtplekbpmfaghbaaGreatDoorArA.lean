/- Layer 13 in plain words: what terms, expressions and comparisons come to, what is solved. -/
import Derived.Test.YtplekbpmfaghbaaGreatDoorMa10
namespace Go.Proofs.YtplekbpmfaghbaaGreatDoor
open Go.RowKit

/-- an environment with a value more -/
def upd (f : ByteArray → Option GV) (s : ByteArray) (v : GV) : ByteArray → Option GV := fun x => if s = x then some v else f x

/-! ### what terms, expressions and comparisons come to -/
def bndI (n : Int) : Bool := decide (-2147483647 ≤ n) && decide (n ≤ 2147483647)
def ofW (n : Int) : GV × Int := if bndI n then (⟨1, n, ⟨#[]⟩⟩, 0) else (gv0, 10)
def termS (f : ByteArray → Option GV) (t : GTold) : GV × Int :=
  if t.x.size = 0 then (if rightB t.v then (t.v, 0) else (gv0, 2))
  else match f t.x with
    | some v => if rightB v then (v, 0) else (gv0, 13)
    | none => (gv0, 13)
def numV (p : GV × Int) : Int × Int := if p.2 ≠ 0 then (0, p.2) else if p.1.k ≠ 1 then (0, 7) else (p.1.n, 0)
def opN (o a b : Int) : Int := if o = 1 then a + b else if o = 2 then a - b else a * b
def evalS (f : ByteArray → Option GV) : Nat → GExp → GV × Int
  | 0, e => termS f e.t
  | k + 1, e => if e.op = 0 then termS f e.t else match e.kids with
    | [a, b] =>
      if (numV (evalS f k a)).2 ≠ 0 then (gv0, (numV (evalS f k a)).2)
      else if (numV (evalS f k b)).2 ≠ 0 then (gv0, (numV (evalS f k b)).2)
      else ofW (opN e.op (numV (evalS f k a)).1 (numV (evalS f k b)).1)
    | _ => (gv0, 2)
def cmpS (op : Int) (a b : GV) : Bool := if op = 1 then decide (a = b) else if op = 2 then decide (a ≠ b) else if op = 3 then decide (a.n < b.n) else if op = 4 then decide (a.n ≤ b.n) else if op = 5 then decide (b.n < a.n) else decide (b.n ≤ a.n)
def holdsS (op : Int) (a b : GV) : Bool × Int :=
  if op < 1 ∨ 6 < op ∨ rightB a = false ∨ rightB b = false then (false, 2)
  else if 3 ≤ op ∧ (a.k ≠ 1 ∨ b.k ≠ 1) then (false, 7) else (cmpS op a b, 0)
def testS (f : ByteArray → Option GV) (op : Int) (l r : GExp) : Bool × Int :=
  if (evalS f 20 l).2 ≠ 0 then (false, (evalS f 20 l).2) else if (evalS f 20 r).2 ≠ 0 then (false, (evalS f 20 r).2) else holdsS op (evalS f 20 l).1 (evalS f 20 r).1
/-- an expression is a variable that is not told -/
def aloneS (f : ByteArray → Option GV) (e : GExp) : Bool := decide (e.op = 0) && (decide (e.t.x.size ≠ 0) && (f e.t.x).isNone)
def setS (f : ByteArray → Option GV) (s : ByteArray) (e : GExp) : Option (ByteArray × GV) × Bool × Int :=
  if (evalS f 20 e).2 ≠ 0 then (none, false, (evalS f 20 e).2) else (some (s, (evalS f 20 e).1), true, 0)
/-- what is set besides (if anything), does it hold, an error -/
def solveS (f : ByteArray → Option GV) (op : Int) (l r : GExp) : Option (ByteArray × GV) × Bool × Int :=
  if op = 1 ∧ aloneS f l = true then setS f l.t.x r
  else if op = 1 ∧ aloneS f r = true then setS f r.t.x l
  else (none, decide ((testS f op l r).2 = 0) && (testS f op l r).1, (testS f op l r).2)
def updO (f : ByteArray → Option GV) (o : Option (ByteArray × GV)) : ByteArray → Option GV := match o with
  | some (s, v) => upd f s v
  | none => f

theorem rightB_num {n : Int} (h : bndI n = true) : rightB ⟨1, n, ⟨#[]⟩⟩ = true := by
  unfold bndI at h
  simp only [Bool.and_eq_true, decide_eq_true_eq] at h
  have e : (⟨#[]⟩ : ByteArray).size = 0 := rfl
  simp [rightB, h.1, h.2, e]
theorem termS_ok {f : ByteArray → Option GV} {t : GTold} (h : (termS f t).2 = 0) : rightB (termS f t).1 = true := by
  unfold termS at h ⊢
  split at h
  · rename_i h0
    rw [if_pos h0]
    split at h
    · rename_i h1; rw [if_pos h1]; exact h1
    · cases h
  · rename_i h0
    rw [if_neg h0]
    split at h
    · rename_i v hv
      split at h
      · rename_i h1; rw [if_pos h1]; exact h1
      · cases h
    · cases h
theorem termS_bad {f : ByteArray → Option GV} {t : GTold} (h : (termS f t).2 ≠ 0) : (termS f t).1 = gv0 := by
  unfold termS at h ⊢
  split
  · rename_i h0
    rw [if_pos h0] at h
    split
    · rename_i h1; rw [if_pos h1] at h; exact absurd rfl h
    · rfl
  · rename_i h0
    rw [if_neg h0] at h
    split
    · rename_i v hv
      rw [hv] at h
      dsimp only at h
      split
      · rename_i h1; rw [if_pos h1] at h; exact absurd rfl h
      · rfl
    · rfl
theorem ofW_ok {n : Int} (h : (ofW n).2 = 0) : rightB (ofW n).1 = true := by
  unfold ofW at h ⊢
  split at h
  · rename_i h1; rw [if_pos h1]; exact rightB_num h1
  · cases h
theorem ofW_bad {n : Int} (h : (ofW n).2 ≠ 0) : (ofW n).1 = gv0 := by
  unfold ofW at h ⊢
  split
  · rename_i h1; rw [if_pos h1] at h; exact absurd rfl h
  · rfl
theorem evalS_leaf {f : ByteArray → Option GV} {k : Nat} {e : GExp} (h : e.op = 0) : evalS f k e = termS f e.t := by
  cases k <;> simp [evalS, h]
theorem evalS_two {f : ByteArray → Option GV} {k : Nat} {e a b : GExp} (h : ¬ e.op = 0) (hk : e.kids = [a, b]) : evalS f (k + 1) e = if (numV (evalS f k a)).2 ≠ 0 then (gv0, (numV (evalS f k a)).2)
      else if (numV (evalS f k b)).2 ≠ 0 then (gv0, (numV (evalS f k b)).2)
      else ofW (opN e.op (numV (evalS f k a)).1 (numV (evalS f k b)).1) := by
  rw [evalS, if_neg h, hk]
theorem evalS_ok {f : ByteArray → Option GV} : ∀ {k : Nat} {e : GExp}, (evalS f k e).2 = 0 → rightB (evalS f k e).1 = true
  | 0, e, h => termS_ok h
  | k + 1, e, h => by
    by_cases h0 : e.op = 0
    · rw [evalS_leaf h0] at h ⊢; exact termS_ok h
    rw [evalS, if_neg h0] at h ⊢
    split at h
    · rename_i a b hk
      split at h
      · rename_i h1; exact absurd h h1
      · rename_i h1
        rw [if_neg h1]
        split at h
        · rename_i h2; exact absurd h h2
        · rename_i h2
          rw [if_neg h2]
          exact ofW_ok h
    · cases h
theorem evalS_bad {f : ByteArray → Option GV} : ∀ {k : Nat} {e : GExp}, (evalS f k e).2 ≠ 0 → (evalS f k e).1 = gv0
  | 0, e, h => termS_bad h
  | k + 1, e, h => by
    by_cases h0 : e.op = 0
    · rw [evalS_leaf h0] at h ⊢; exact termS_bad h
    rw [evalS, if_neg h0] at h ⊢
    split
    · rename_i a b hk
      rw [hk] at h
      dsimp only at h
      split
      · rfl
      · rename_i h1
        rw [if_neg h1] at h
        split
        · rfl
        · rename_i h2
          rw [if_neg h2] at h
          exact ofW_bad h
    · rfl
theorem numV_bnd {f : ByteArray → Option GV} {k : Nat} {e : GExp} : -2147483647 ≤ (numV (evalS f k e)).1 ∧ (numV (evalS f k e)).1 ≤ 2147483647 := by
  unfold numV
  split
  · exact ⟨(by decide : (-2147483647 : Int) ≤ 0), (by decide : (0 : Int) ≤ 2147483647)⟩
  · rename_i h
    split
    · exact ⟨(by decide : (-2147483647 : Int) ≤ 0), (by decide : (0 : Int) ≤ 2147483647)⟩
    · rename_i h1
      have := evalS_ok (Decidable.not_not.1 h)
      rw [rightB, if_pos (Decidable.not_not.1 h1)] at this
      simp only [Bool.and_eq_true, decide_eq_true_eq] at this
      exact ⟨this.1.2, this.2⟩
theorem mul_bnd {a b m : Int} (ha : -m ≤ a) (ha' : a ≤ m) (hb : -m ≤ b) (hb' : b ≤ m) : -(m * m) ≤ a * b ∧ a * b ≤ m * m := by
  have h1 := Int.mul_nonneg (show 0 ≤ m - a by omega) (show 0 ≤ m - b by omega)
  have h2 := Int.mul_nonneg (show 0 ≤ m + a by omega) (show 0 ≤ m + b by omega)
  have h3 := Int.mul_nonneg (show 0 ≤ m - a by omega) (show 0 ≤ m + b by omega)
  have h4 := Int.mul_nonneg (show 0 ≤ m + a by omega) (show 0 ≤ m - b by omega)
  simp only [Int.sub_mul, Int.mul_sub, Int.add_mul, Int.mul_add] at h1 h2 h3 h4
  have e1 := Int.mul_comm m a
  have e2 := Int.mul_comm m b
  constructor <;> omega
theorem opN_bnd {o a b : Int} (ha : -2147483647 ≤ a ∧ a ≤ 2147483647) (hb : -2147483647 ≤ b ∧ b ≤ 2147483647) : -9223372036854775808 ≤ opN o a b ∧ opN o a b ≤ 9223372036854775807 := by
  have := mul_bnd (m := 2147483647) ha.1 ha.2 hb.1 hb.2
  unfold opN
  split
  · omega
  · split
    · omega
    · omega
/-! ### an environment with a value more -/
theorem upd_other {f : ByteArray → Option GV} {s x : ByteArray} {v : GV} (h : f s = none) (hx : f x ≠ none) : upd f s v x = f x := by
  unfold upd
  rw [if_neg (by rintro rfl; exact hx h)]
theorem termS_upd {f : ByteArray → Option GV} {s : ByteArray} {v : GV} {t : GTold} (hs : f s = none) (h : (termS f t).2 = 0) : termS (upd f s v) t = termS f t := by
  unfold termS at h ⊢
  split at h
  · rename_i h0; rw [if_pos h0, if_pos h0]
  · rename_i h0
    rw [if_neg h0, if_neg h0]
    split at h
    · rename_i u hu
      rw [upd_other hs (by rw [hu]; simp), hu]
    · cases h
theorem numV_ok {p : GV × Int} (h : (numV p).2 = 0) : p.2 = 0 := by
  unfold numV at h
  split at h
  · exact h
  · rename_i h1; exact Decidable.not_not.1 h1
theorem evalS_upd {f : ByteArray → Option GV} {s : ByteArray} {v : GV} (hs : f s = none) : ∀ {k : Nat} {e : GExp}, (evalS f k e).2 = 0 → evalS (upd f s v) k e = evalS f k e
  | 0, e, h => termS_upd hs h
  | k + 1, e, h => by
    by_cases h0 : e.op = 0
    · rw [evalS_leaf h0] at h ⊢; rw [evalS_leaf h0]; exact termS_upd hs h
    match hk : e.kids with
    | [a, b] =>
      rw [evalS_two h0 hk] at h ⊢
      rw [evalS_two h0 hk]
      by_cases h1 : (numV (evalS f k a)).2 = 0
      · rw [if_neg (by simpa using h1)] at h
        by_cases h2 : (numV (evalS f k b)).2 = 0
        · rw [evalS_upd hs (numV_ok h1), evalS_upd hs (numV_ok h2)]
        · rw [if_pos h2] at h
          exact absurd h h2
      · rw [if_pos h1] at h
        exact absurd h h1
    | [] => simp [evalS, h0, hk]
    | [a] => simp [evalS, h0, hk]
    | a :: b :: c :: l => simp [evalS, h0, hk]
theorem aloneS_val {f : ByteArray → Option GV} {e : GExp} (h : aloneS f e = true) : e.op = 0 ∧ e.t.x.size ≠ 0 ∧ f e.t.x = none := by
  simpa [aloneS] using h
theorem eval_alone {f : ByteArray → Option GV} {e : GExp} {v : GV} (h : aloneS f e = true) (hv : rightB v = true) : evalS (upd f e.t.x v) 20 e = (v, 0) := by
  obtain ⟨h1, h2, h3⟩ := aloneS_val h
  rw [evalS_leaf h1]
  unfold termS
  rw [if_neg h2]
  simp [upd, hv]
theorem holds_eq {v : GV} (hv : rightB v = true) : holdsS 1 v v = (true, 0) := by
  simp [holdsS, hv, cmpS]
/-- what is solved holds -/
theorem solve_holds {f : ByteArray → Option GV} {op : Int} {l r : GExp} (h : (solveS f op l r).2.1 = true) : testS (updO f (solveS f op l r).1) op l r = (true, 0) := by
  unfold solveS at h ⊢
  split at h
  · rename_i h0
    obtain ⟨rfl, h1⟩ := h0
    rw [if_pos ⟨rfl, h1⟩]
    unfold setS at h ⊢
    split at h
    · cases h
    · rename_i h2
      have h2 := Decidable.not_not.1 h2
      have hr := evalS_ok h2
      rw [if_neg (by simpa using h2)]
      show testS (upd f l.t.x (evalS f 20 r).1) 1 l r = _
      unfold testS
      rw [eval_alone h1 hr, evalS_upd (aloneS_val h1).2.2 h2, h2]
      simpa using holds_eq hr
  · rename_i h0
    rw [if_neg h0]
    split at h
    · rename_i h3
      obtain ⟨rfl, h1⟩ := h3
      rw [if_pos ⟨rfl, h1⟩]
      unfold setS at h ⊢
      split at h
      · cases h
      · rename_i h2
        have h2 := Decidable.not_not.1 h2
        have hr := evalS_ok h2
        rw [if_neg (by simpa using h2)]
        show testS (upd f r.t.x (evalS f 20 l).1) 1 l r = _
        unfold testS
        rw [eval_alone h1 hr, evalS_upd (aloneS_val h1).2.2 h2, h2]
        simpa using holds_eq hr
    · rename_i h3
      rw [if_neg h3]
      simp only [Bool.and_eq_true, decide_eq_true_eq] at h
      exact Prod.ext h.2 h.1
theorem solve_right {f : ByteArray → Option GV} {op : Int} {l r : GExp} (hf : ∀ s v, f s = some v → rightB v = true) (s : ByteArray) (v : GV) (h : updO f (solveS f op l r).1 s = some v) : rightB v = true := by
  have hset : ∀ (x : ByteArray) (e : GExp), updO f (setS f x e).1 s = some v → rightB v = true := by
    intro x e h
    unfold setS at h
    split at h
    · exact hf s v h
    · rename_i h2
      have h : upd f x (evalS f 20 e).1 s = some v := h
      unfold upd at h
      split at h
      · injection h with h
        rw [← h]
        exact evalS_ok (Decidable.not_not.1 h2)
      · exact hf s v h
  unfold solveS at h
  split at h
  · exact hset _ _ h
  · split at h
    · exact hset _ _ h
    · exact hf s v h
theorem holdsS_bad {op : Int} {a b : GV} (h : (holdsS op a b).2 ≠ 0) : (holdsS op a b).1 = false := by
  unfold holdsS at h ⊢
  split
  · rfl
  · rename_i h1
    rw [if_neg h1] at h
    split
    · rfl
    · rename_i h2
      rw [if_neg h2] at h
      exact absurd rfl h
theorem testS_bad {f : ByteArray → Option GV} {op : Int} {l r : GExp} (h : (testS f op l r).2 ≠ 0) : (testS f op l r).1 = false := by
  unfold testS at h ⊢
  split
  · rfl
  · rename_i h1
    rw [if_neg h1] at h
    split
    · rfl
    · rename_i h2
      rw [if_neg h2] at h
      exact holdsS_bad h
end Go.Proofs.YtplekbpmfaghbaaGreatDoor
