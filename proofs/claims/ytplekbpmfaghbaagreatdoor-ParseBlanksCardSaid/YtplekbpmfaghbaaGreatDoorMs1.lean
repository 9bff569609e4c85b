/- Merged by my own program of: VTexts, ShowLaw, ShowStr, DrawnJ, TwoJ, ShowE. -/
import Derived.Test.YtplekbpmfaghbaaGreatDoorMa3
import Derived.Test.YtplekbpmfaghbaaGreatDoorMa2
import Derived.Test.YtplekbpmfaghbaaGreatDoorMa13
import Derived.Lib.Join
import Derived.Test.YtplekbpmfaghbaaGreatDoorMa4
import Derived.Test.YtplekbpmfaghbaaGreatDoorMa11
import Derived.Test.YtplekbpmfaghbaaGreatDoorMa9
import Derived.Deep.RegionHeld3
/- value.Text and the document's, value.Of, Symbol: at every value. -/
namespace Go.Proofs.YtplekbpmfaghbaaGreatDoor
open Go.RowKit

def bnd (n : Int) : Bool := decide (-2147483647 ≤ n) && decide (n ≤ 2147483647)
/-- a value's text -/
def textOf (v : GV) : List UInt8 := if rightB v then (if v.k = 2 then v.s.toList else Lib.itoa v.n) else []

theorem bytes_back0 (s : ByteArray) : (⟨s.toList.toArray⟩ : ByteArray) = s := by
  rw [ByteArray.toList_eq]

set_option maxRecDepth 100000 in
set_option maxHeartbeats 400000 in
theorem text_any (v : GV) (hv : fits v.n) (w : World) (h : TabW w) : Calls Tryz.prog 153 #[v.v] w (RetV (.string ⟨(textOf v).toArray⟩) w) := by
  have HT := Lib.hid h
  have Hv := Lib.hid hv
  have hr := fun w => right_any v w
  cases hR : rightB v with
  | false =>
    rw [hR] at hr
    have hr := Lib.hid hr
    rw [show textOf v = [] by simp [textOf, hR]]
    clear h hv hR
    go_enter Tryz.func153, Tryz.ntmps153
    go_wp2_with (go_at_call 60; refine (hr.out _).mono ?_; rintro e w1 ⟨rfl, hq1⟩)
    go_ret
    exact ⟨rfl, below_next (belowA (Below.refl _ w) _) hq1⟩
  | true =>
    rw [hR] at hr
    have hr := Lib.hid hr
    by_cases hk : v.k = 2
    · have hk' : (v.k == 2) = true := by simp [hk]
      rw [show textOf v = v.s.toList by simp [textOf, hR, hk], bytes_back0]
      clear h hv hR hk
      go_enter Tryz.func153, Tryz.ntmps153
      go_wp2_with (go_at_call 60; refine (hr.out _).mono ?_; rintro e w1 ⟨rfl, hq1⟩; obtain ⟨hc, hf⟩ := bcell hq1; simp only [World.size_alloc] at hc hf)
      go_ret
      exact ⟨rfl, below_next (belowA (Below.refl _ w) _) hq1⟩
    · have hk' : (v.k == 2) = false := by simp [hk]
      have ht : textOf v = Lib.itoa v.n := by simp [textOf, hR, hk]
      rw [ht]
      clear h hv hR hk ht
      go_enter Tryz.func153, Tryz.ntmps153
      go_wp2_with (first
        | (go_at_call 60
           refine (hr.out _).mono ?_
           rintro e w1 ⟨rfl, hq1⟩
           have hbw := below_next (belowA (Below.refl _ w) _) hq1
           obtain ⟨hc, hf⟩ := bcell hq1
           simp only [World.size_alloc] at hc hf)
        | (go_at_call 179
           refine (itoa_any _ Hv.out _ (HT.out.on hbw)).mono ?_
           rintro e w2 ⟨s, hs, -, rfl, hq2⟩))
      go_ret
      exact ⟨by rw [hs.out]; rfl, below_next hbw hq2⟩

set_option maxRecDepth 100000 in
set_option maxHeartbeats 400000 in
theorem refText_any (v : GV) (hv : v.ok) (w : World) : Calls Tryz.prog 119 #[v.v] w (RetV (.string ⟨(textOf v).toArray⟩) w) := by
  have hv' := (fits_iff _).1 hv.2.1
  have hd := Lib.hid (digits_any _ v.n (Nat.lt_succ_self _) hv'.1 hv'.2)
  have hr := fun w => refRight_any v hv w
  clear hv'
  cases hR : rightB v with
  | false =>
    rw [hR] at hr
    have hr := Lib.hid hr
    rw [show textOf v = [] by simp [textOf, hR]]
    clear hv hR
    go_enter Tryz.func119, Tryz.ntmps119
    go_wp2_with (go_at_call 59; refine (hr.out _).mono ?_; rintro e w1 ⟨rfl, hq1⟩)
    go_ret
    exact ⟨rfl, below_next (belowA (Below.refl _ w) _) hq1⟩
  | true =>
    rw [hR] at hr
    have hr := Lib.hid hr
    by_cases hk : v.k = 2
    · have hk' : (v.k == 2) = true := by simp [hk]
      rw [show textOf v = v.s.toList by simp [textOf, hR, hk], bytes_back0]
      clear hv hR hk
      go_enter Tryz.func119, Tryz.ntmps119
      go_wp2_with (go_at_call 59; refine (hr.out _).mono ?_; rintro e w1 ⟨rfl, hq1⟩; obtain ⟨hc, hf⟩ := bcell hq1; simp only [World.size_alloc] at hc hf)
      go_ret
      exact ⟨rfl, below_next (belowA (Below.refl _ w) _) hq1⟩
    · have hk' : (v.k == 2) = false := by simp [hk]
      have ht : textOf v = Lib.itoa v.n := by simp [textOf, hR, hk]
      rw [ht]
      clear hv hR hk ht
      go_enter Tryz.func119, Tryz.ntmps119
      go_wp2_with (first
        | (go_at_call 59
           refine (hr.out _).mono ?_
           rintro e w1 ⟨rfl, hq1⟩
           have hbw := below_next (belowA (Below.refl _ w) _) hq1
           obtain ⟨hc, hf⟩ := bcell hq1
           simp only [World.size_alloc] at hc hf)
        | (go_at_call 155
           refine (hd.out _).mono ?_
           rintro e w2 ⟨s, hs, -, rfl, rfl⟩))
      go_ret
      exact ⟨by rw [hs.out]; rfl, hbw⟩
end Go.Proofs.YtplekbpmfaghbaaGreatDoor

/- The texts of terms, expressions, atoms, literals, rules and declarations: the plain words, and how long such texts are. -/
namespace Go.Proofs.YtplekbpmfaghbaaGreatDoor
open Go.RowKit

def sep2 : List UInt8 := [44, 32]
def shownT (t : GTold) : List UInt8 := if t.x.size = 0 then textOf t.v else t.x.toList
def opS (o : Int) : List UInt8 := if o = 1 then [43] else if o = 2 then [45] else [42]
def sumB (e : GExp) : Bool := decide (0 < e.op) && decide (e.op < 3)
def inB (b : Bool) (s : List UInt8) : List UInt8 := if b then [40] ++ s ++ [41] else s
def expS : Nat → GExp → List UInt8
  | 0, e => shownT e.t
  | k + 1, e => if e.op = 0 then shownT e.t else match e.kids with
    | [a, b] => inB (decide (e.op = 3) && sumB a) (expS k a) ++ [32] ++ opS e.op ++ [32] ++ inB (sumB b || (decide (e.op = 3) && decide (b.op = 3))) (expS k b)
    | _ => []
theorem expS_leaf {k : Nat} {e : GExp} (h : e.op = 0) : expS k e = shownT e.t := by
  cases k <;> simp [expS, h]
theorem expS_two {k : Nat} {e a b : GExp} (h : ¬ e.op = 0) (hk : e.kids = [a, b]) : expS (k + 1) e = inB (decide (e.op = 3) && sumB a) (expS k a) ++ [32] ++ opS e.op ++ [32] ++ inB (sumB b || (decide (e.op = 3) && decide (b.op = 3))) (expS k b) := by
  simp [expS, h, hk]
def aggS (g : Int) : List UInt8 := if g = 1 then [99, 111, 117, 110, 116] else if g = 2 then [115, 117, 109] else if g = 3 then [109, 105, 110] else [109, 97, 120]
def thing (agg col : Int) (i : Nat) (t : GTold) : List UInt8 := if 0 < agg ∧ (i : Int) = col then aggS agg ++ [40] ++ shownT t ++ [41] else shownT t
def thingsL (agg col : Int) : Nat → List GTold → List (List UInt8)
  | _, [] => []
  | i, t :: ts => thing agg col i t :: thingsL agg col (i + 1) ts
def thingsS (agg col : Int) (l : List GTold) : List UInt8 := [40] ++ Lib.join (thingsL agg col 0 l) sep2 ++ [41]
def atomS (a : GAtom) (agg col : Int) : List UInt8 := a.rel.toList ++ thingsS agg col a.args
def sgnS (o : Int) : List UInt8 := if o = 1 then [61] else if o = 2 then [33, 61] else if o = 3 then [60] else if o = 4 then [60, 61] else if o = 5 then [62] else [62, 61]
def litS (l : GLit) : List UInt8 := if l.k = 3 then expS 20 l.l ++ [32] ++ sgnS l.op ++ [32] ++ expS 20 l.r else if l.k = 2 then [110, 111, 116, 32] ++ atomS l.atom 0 0 else atomS l.atom 0 0
def ruleS (r : GRule) : List UInt8 := atomS r.head r.agg r.col ++ (if r.body = [] then [] else [32, 58, 45, 32] ++ Lib.join (r.body.map litS) sep2) ++ [46]

/-! ### how long they are -/
theorem thingsL_get (agg col : Int) : ∀ (l : List GTold) (s i : Nat) (t : GTold), l[i]? = some t → (thingsL agg col s l)[i]? = some (thing agg col (s + i) t)
  | [], _, _, _, h => by simp at h
  | t :: ts, s, 0, x, h => by simp at h; subst h; simp [thingsL]
  | t :: ts, s, i + 1, x, h => by
    simp at h
    rw [thingsL, List.getElem?_cons_succ, thingsL_get agg col ts (s + 1) i x h]
    congr 2; omega
theorem thingsL_len (agg col : Int) : ∀ (l : List GTold) (s : Nat), (thingsL agg col s l).length = l.length
  | [], _ => rfl
  | t :: ts, s => by rw [thingsL, List.length_cons, thingsL_len agg col ts, List.length_cons]
theorem thingsL_snoc (agg col : Int) : ∀ (l : List GTold) (s : Nat) (t : GTold), thingsL agg col s (l ++ [t]) = thingsL agg col s l ++ [thing agg col (s + l.length) t]
  | [], s, t => by simp [thingsL]
  | x :: l, s, t => by
    rw [List.cons_append, thingsL, thingsL, thingsL_snoc agg col l, List.length_cons, List.cons_append]
    congr 4; omega
theorem thingsL_take (agg col : Int) {l : List GTold} {k : Nat} {t : GTold} (h : l[k]? = some t) : thingsL agg col 0 (l.take (k + 1)) = thingsL agg col 0 (l.take k) ++ [thing agg col k t] := by
  have hk : k < l.length := (List.getElem?_eq_some_iff.1 h).1
  rw [List.take_add_one, h]
  simp only [Option.toList_some]
  rw [thingsL_snoc, List.length_take, Nat.min_eq_left (by omega), Nat.zero_add]
theorem join_two (x y : List UInt8) (r : List (List UInt8)) : Lib.join (x :: y :: r) sep2 = x ++ (sep2 ++ Lib.join (y :: r) sep2) := by
  simp [Lib.join, List.intercalate, List.intersperse]
theorem join_one (x : List UInt8) : Lib.join [x] sep2 = x := by simp [Lib.join, List.intercalate]
theorem join_snoc : ∀ (xs : List (List UInt8)) (x : List UInt8), xs ≠ [] → Lib.join (xs ++ [x]) sep2 = Lib.join xs sep2 ++ sep2 ++ x
  | [], _, h => absurd rfl h
  | [a], x, _ => by rw [List.singleton_append, join_two, join_one, join_one, List.append_assoc]
  | a :: b :: r, x, _ => by
    have ih := join_snoc (b :: r) x (by simp)
    rw [List.cons_append, List.cons_append, join_two, ← List.cons_append, ih, join_two]
    simp
/-- the length of a joined list -/
def sumLen : List (List UInt8) → Nat
  | [] => 0
  | x :: xs => x.length + 2 + sumLen xs
theorem join_le : ∀ xs : List (List UInt8), (Lib.join xs sep2).length ≤ sumLen xs
  | [] => by simp [Lib.join, List.intercalate]
  | [a] => by rw [join_one]; simp only [sumLen]; omega
  | a :: b :: r => by
    have ih := join_le (b :: r)
    rw [join_two, List.length_append, List.length_append]
    have : sep2.length = 2 := rfl
    simp only [sumLen] at ih ⊢
    omega
theorem textOf_len (v : GV) : (textOf v).length ≤ 32 := by
  by_cases h : rightB v = true
  · unfold textOf
    rw [if_pos h]
    unfold rightB at h
    split at h
    · rename_i h1
      simp only [Bool.and_eq_true, decide_eq_true_eq] at h
      rw [if_neg (by omega)]
      have := Lib.itoa_length_le v.n (by omega) (by omega)
      omega
    · split at h
      · simp only [Bool.and_eq_true, decide_eq_true_eq] at h
        rw [if_pos ‹_›]
        have h2 := h.2
        simp only [nameOk, Bool.and_eq_true, decide_eq_true_eq] at h2
        have e : v.s.toList.length = v.s.size := by rw [ByteArray.toList_eq]; rfl
        omega
      · cases h
  · simp [textOf, h]
theorem shown_len (t : GTold) : (shownT t).length ≤ t.x.size + 32 := by
  unfold shownT
  split
  · have := textOf_len t.v; omega
  · rw [ba_len]; omega
theorem inB_len (b : Bool) (s : List UInt8) : (inB b s).length ≤ s.length + 2 := by
  cases b <;> simp [inB]
theorem opS_len (o : Int) : (opS o).length = 1 := by unfold opS; split; rfl; split <;> rfl
theorem sgnS_len (o : Int) : (sgnS o).length ≤ 2 := by
  unfold sgnS
  repeat' split
  all_goals simp
theorem aggS_len (o : Int) : (aggS o).length ≤ 5 := by
  unfold aggS
  repeat' split
  all_goals simp
theorem expS_len : ∀ (k : Nat) (e : GExp) (l : Int), 0 ≤ szE e l → ((expS k e).length : Int) ≤ 100 * (l - szE e l)
  | 0, e, l, h => by
    rw [szE_def] at h ⊢
    have h1 := szL_le e.kids (l - (1 + (((e.t.x.size + e.t.v.s.size) / 50 : Nat) : Int)))
    have h2 := shown_len e.t
    rw [expS]
    omega
  | k + 1, e, l, h => by
    have hl := szL_le e.kids (l - (1 + (((e.t.x.size + e.t.v.s.size) / 50 : Nat) : Int)))
    have hp := shown_len e.t
    by_cases h0 : e.op = 0
    · rw [expS_leaf h0]
      rw [szE_def] at h ⊢
      omega
    · match hk : e.kids with
      | [a, b] =>
        rw [expS_two h0 hk]
        rw [szE_def, hk] at h ⊢
        rw [szL] at h ⊢
        split at h
        · omega
        · rename_i h1
          rw [if_neg h1]
          rw [szL] at h ⊢
          split at h
          · omega
          · rename_i h2
            rw [if_neg h2]
            rw [szL] at h ⊢
            have i1 := expS_len k a _ (Int.not_lt.1 h2)
            have i2 := expS_len k b _ h
            have j1 := inB_len (decide (e.op = 3) && sumB a) (expS k a)
            have j2 := inB_len (sumB b || (decide (e.op = 3) && decide (b.op = 3))) (expS k b)
            have j3 := opS_len e.op
            simp only [List.length_append, List.length_cons, List.length_nil]
            omega
      | [] =>
        have e0 : expS (k + 1) e = [] := by simp [expS, h0, hk]
        rw [e0]
        rw [szE_def] at h ⊢
        simp only [List.length_nil]
        omega
      | [a] =>
        have e0 : expS (k + 1) e = [] := by simp [expS, h0, hk]
        rw [e0]
        rw [szE_def] at h ⊢
        simp only [List.length_nil]
        omega
      | a :: b :: c :: r =>
        have e0 : expS (k + 1) e = [] := by simp [expS, h0, hk]
        rw [e0]
        rw [szE_def] at h ⊢
        simp only [List.length_nil]
        omega
theorem thing_len (agg col : Int) (i : Nat) (t : GTold) : (thing agg col i t).length ≤ t.x.size + 39 := by
  have h := shown_len t
  have h2 := aggS_len agg
  unfold thing
  split
  · simp only [List.length_append, List.length_cons, List.length_nil]; omega
  · omega
theorem thingsL_sum (agg col : Int) : ∀ (ts : List GTold) (s : Nat) (l : Int), 0 ≤ szT ts l → ((sumLen (thingsL agg col s ts)) : Int) ≤ 100 * (l - szT ts l)
  | [], s, l, h => by simp [thingsL, sumLen, szT]
  | t :: ts, s, l, h => by
    rw [szT] at h ⊢
    split at h
    · omega
    · rename_i hn
      rw [if_neg hn]
      have i1 := thingsL_sum agg col ts (s + 1) _ h
      have i2 := thing_len agg col s t
      rw [thingsL, sumLen]
      omega
theorem atomS_len {x : GAtom} {l : Int} (agg col : Int) (h : 0 ≤ szA x l) : ((atomS x agg col).length : Int) ≤ 100 * (l - szA x l) := by
  unfold szA at h ⊢
  have h1 := thingsL_sum agg col x.args 0 _ h
  have h2 := join_le (thingsL agg col 0 x.args)
  unfold atomS thingsS
  simp only [List.length_append, List.length_cons, List.length_nil, ba_len]
  omega
theorem litS_len {x : GLit} {l : Int} (h : 0 ≤ szLit x l) : ((litS x).length : Int) + 2 ≤ 100 * (l - szLit x l) := by
  unfold szLit at h ⊢
  have h1 := szE_pos _ _ h
  have h2 := szE_pos _ _ (by omega : 0 ≤ szE x.l (szA x.atom l))
  have h3 := szA_len (x := x.atom) (l := l) (by omega)
  have h4 := expS_len 20 x.r _ h
  have h5 := expS_len 20 x.l _ (by omega : 0 ≤ szE x.l (szA x.atom l))
  have h6 := atomS_len (x := x.atom) (l := l) 0 0 (by omega)
  have h7 := szE_le x.l (szA x.atom l) (by omega)
  have h8 := szE_le x.r (szE x.l (szA x.atom l)) (by omega)
  have h9 := sgnS_len x.op
  have h10 : szE x.r (szE x.l (szA x.atom l)) ≤ szE x.l (szA x.atom l) - 1 := by
    have := leavesE_len x.r _ h
    rw [szE_def] at h ⊢
    have := szL_le x.r.kids (szE x.l (szA x.atom l) - (1 + (((x.r.t.x.size + x.r.t.v.s.size) / 50 : Nat) : Int)))
    omega
  unfold litS
  split
  · simp only [List.length_append, List.length_cons, List.length_nil]; omega
  · split
    · simp only [List.length_append, List.length_cons, List.length_nil]; omega
    · omega
theorem szB_all' : ∀ (xs : List GLit) (l : Int), 0 ≤ szB xs l → 0 ≤ l
  | [], l, h => by rw [szB] at h; exact h
  | x :: xs, l, h => by
    rw [szB] at h
    split at h
    · omega
    · omega
theorem lits_len : ∀ (xs : List GLit) (l : Int), 0 ≤ szB xs l → ((sumLen (xs.map litS)) : Int) ≤ 100 * (l - szB xs l)
  | [], l, h => by simp [sumLen, szB]
  | x :: xs, l, h => by
    rw [szB] at h ⊢
    split at h
    · omega
    · rename_i hn
      rw [if_neg hn]
      have i1 := lits_len xs _ h
      have i0 : 0 ≤ szLit x l := by
        have := szB_all' xs _ h
        omega
      have i2 := litS_len i0
      rw [List.map_cons, sumLen]
      omega
theorem ruleS_len {x : GRule} {l : Int} (h : 0 ≤ szR x l) : ((ruleS x).length : Int) ≤ 100 * (l - szR x l) + 5 := by
  unfold szR at h ⊢
  have h0 : 0 ≤ szA x.head l := szB_all' _ _ h
  have h1 := lits_len _ _ h
  have h2 := atomS_len (x := x.head) (l := l) x.agg x.col h0
  have h3 := join_le (x.body.map litS)
  unfold ruleS
  split
  · simp only [List.length_append, List.length_cons, List.length_nil]; omega
  · simp only [List.length_append, List.length_cons, List.length_nil]; omega
end Go.Proofs.YtplekbpmfaghbaaGreatDoor

/- strings.Join over a row of the caller's own; a text put behind such a row. -/
namespace Go.Proofs.YtplekbpmfaghbaaGreatDoor
open Go.RowKit

theorem str_info : (Tryz.prog.info? 9).map (fun i => (i.zero, i.size, i.bytes)) = some (some (.string ⟨#[]⟩), 1, 16) := by kernel_rfl
theorem str_push {w W : World} {v : Value} {n : Nat} {xs : List Value} (x : ByteArray) (hn : n ≤ 1000000) (hb : Below w.heap.size w W) (hown : W.ownsRow w.heap.size 9 1 v n xs) :
    ∃ v' w', (∀ ty, (Builtin.append_ #[81, 81] ty #[v, .slice (some ⟨W.heap.size, 0, none⟩) 1 1]).run Tryz.prog (W.alloc (.cells #[.string x] 9)) = .ok v' w') ∧
      w'.ownsRow w.heap.size 9 1 v' (n + 1) (xs ++ [.string x]) ∧ Below w.heap.size w w' := by
  obtain ⟨v', w', h1, h2, h3⟩ := run_push (P := Tryz.prog) W W.heap.size rfl (base := w.heap.size) (t := 81) (ty := 81) Tryz.underlying81 str_info rfl (by decide) hown [.string x] rfl (by simp [Value.oneCell'])
    (by simp [maxLen]; omega) (by omega) hb.size
  exact ⟨v', w', fun _ => h1, h2, hb.trans h3⟩
theorem ba_app (a b : ByteArray) : (a ++ b).toList = a.toList ++ b.toList := by
  simp only [ByteArray.toList_eq, ByteArray.data_append, Array.toList_append]
theorem bytes_list (l : List UInt8) : (bytes l).toList = l := toList_mk _
theorem bytes_size (l : List UInt8) : (bytes l).size = l.length := rfl
theorem bytes_app (a b : List UInt8) : bytes a ++ bytes b = bytes (a ++ b) := by
  unfold bytes
  rw [ByteArray.mk_append_mk]
theorem bytes_of (s : ByteArray) : bytes s.toList = s := bytes_back s
def JoinPost (l : List UInt8) (w : World) (e : Ending) (w' : World) : Prop := e = .returned (.string (bytes l)) ∧ Below w.heap.size w w'
theorem sjoin_any {base : Nat} (A : Option Addr) (n c : Nat) (L : List (List UInt8)) (w : World) (hn : L.length = n) (hlen : (Lib.join L sep2).length ≤ 140737488355328) (hN : n ≤ 1000000) (ho : w.ownsRow base 9 1 (.slice A n c) n (L.map fun l => .string (bytes l))) :
    Calls Tryz.prog 112 #[.slice A n c, .string ⟨#[44, 32]⟩] w (JoinPost (Lib.join L sep2) w) := by
  subst hn
  have hx : (L.map bytes).map (·.data.toList) = L := by
    rw [List.map_map]
    exact (List.map_congr_left (fun l _ => rfl)).trans (List.map_id L)
  rcases ho.2 with ⟨h, h0⟩ | ⟨g, cap, cur, h, hgb, hh, hnc, hcm, hcs, htk⟩
  · have e : L = [] := List.eq_nil_of_length_eq_zero h0
    subst e
    refine (Tryz.strings_Join_none A c _ w).mono ?_
    rintro e w' ⟨rfl, rfl⟩
    exact ⟨rfl, Below.refl _ _⟩
  · simp only [Value.slice.injEq] at h
    obtain ⟨rfl, _, rfl⟩ := h
    have := Tryz.strings_Join g 0 c (L.map bytes) ⟨#[44, 32]⟩ w (by
      intro j x hj
      rw [Nat.zero_add, cell_of_row _ _ j _ _ _ hh, ← Array.getElem?_toList]
      have hjl2 : j < L.length := by have := (List.getElem?_eq_some_iff.1 hj).1; simpa using this
      have h2 := congrArg (fun l => l[j]?) htk
      simp only [List.getElem?_take, if_pos (show j < L.length * 1 by omega)] at h2
      rw [h2, List.getElem?_map]
      rw [List.getElem?_map] at hj
      obtain ⟨v, hv, rfl⟩ := Option.map_eq_some_iff.1 hj
      rw [hv]; rfl) (Array.getElem?_eq_some_iff.1 hh).1 (by simp; omega) (by simpa using hnc) (by rw [hx]; exact hlen)
    rw [hx] at this
    simp only [List.length_map] at this
    exact this
end Go.Proofs.YtplekbpmfaghbaaGreatDoor

/- The law of a drawn region (XDrawn), with a joint word J over which operations are done, the values and the world. Nothing of any program. -/
namespace Go.Proofs.YtplekbpmfaghbaaGreatDoor
open Go.RowKit

/-- what is known in the midst of the region -/
structure MidJ (ops : Array Oper) (base : Array Value) (L : Nat) (G : Nat → World → Prop) (F : Nat → Value → World → Prop) (J : (Nat → Bool) → Array Value → World → Prop) (listed : Array Bool) (a : Act) (w : World) : Prop where
  defers : a.defers = []
  size : a.tmps.size = base.size
  lsize : listed.size = ops.size
  closed : ∀ (i : Nat) (o : Oper), ops[i]? = some o → listed.getD i false = true → ∀ e ∈ o.after, Region.binds .any e = true → listed.getD e.on false = true
  old : ∀ t : Nat, (∀ (i : Nat) (o : Oper), i < L → ops[i]? = some o → o.dst ≠ some t) → a.tmps[t]? = base[t]?
  glob : ∀ j, j ≤ L → listed.getD j false = false → G j w
  fact : ∀ (i : Nat) (o : Oper) (d : Tmp), ops[i]? = some o → o.dst = some d → listed.getD i false = true → ∃ v, a.tmps[d]? = some v ∧ F i v w
  joint : J (fun j => listed.getD j false) a.tmps w
section
variable {P : Program} {ops : Array Oper} {Q : Exit → Act → World → Prop}
/-- the law -/
theorem drawn_lawJ {id : Nat} {a : Act} {w : World} (hm : P.follows .mixedOrders = true) (L : Nat) (G : Nat → World → Prop) (F : Nat → Value → World → Prop) (R : Nat → World → World → Prop) (J : (Nat → Bool) → Array Value → World → Prop)
    (hd : a.defers = []) (hL : L + 1 = ops.size) (hg : ∀ (i : Nat) (o : Oper), ops[i]? = some o → o.guard = none) (hord : ∀ (i : Nat) (o : Oper), ops[i]? = some o → ∀ e ∈ o.after, Region.binds .any e = true → e.on < i)
    (hdst : ∀ (i j : Nat) (o o' : Oper) (d : Tmp), ops[i]? = some o → ops[j]? = some o' → o.dst = some d → o'.dst = some d → i = j) (hsz : ∀ (i : Nat) (o : Oper) (d : Tmp), ops[i]? = some o → o.dst = some d → d < a.tmps.size)
    (hanc : ∀ j, j < L → j ∈ ancs ops ops.size L)
    (hJ0 : J (fun _ => false) a.tmps w.drew) (hG : ∀ j, j ≤ L → G j w.drew) (hFm : ∀ i j v w w', i ≠ j → i < L → j < L → F i v w → R j w w' → F i v w') (hGm : ∀ i j w w', i ≠ j → i < L → j ≤ L → j ∉ ancs ops ops.size i → G j w → R i w w' → G j w')
    (hstep : ∀ (l : Nat → Bool) (i : Nat) (o : Oper) (a' : Act) (w' : World), J l a'.tmps w' → l i = false → (∀ e ∈ o.after, Region.binds .any e = true → l e.on = true) → ops[i]? = some o → i < L → a'.defers = [] → a'.tmps.size = a.tmps.size → (∀ t : Nat, (∀ (i : Nat) (o : Oper), i < L → ops[i]? = some o → o.dst ≠ some t) → a'.tmps[t]? = a.tmps[t]?) → G i w' → G L w' →
      (∀ e ∈ o.after, Region.binds .any e = true → ∀ oj d, ops[e.on]? = some oj → oj.dst = some d → ∃ v, a'.tmps[d]? = some v ∧ F e.on v w') → o.wp P a' w' (fun a2 w2 => ∃ v, a2 = a'.put o.dst v ∧ R i w' w2 ∧ F i v w2 ∧ ∀ l' : Nat → Bool, l' i = true → (∀ j, j ≠ i → l' j = l j) → J l' (a'.put o.dst v).tmps w2) Q)
    (hlast : ∀ (l : Nat → Bool) (o : Oper) (a' : Act) (w' : World), J l a'.tmps w' → (∀ j, j < L → l j = true) → ops[L]? = some o → a'.defers = [] → a'.tmps.size = a.tmps.size → (∀ t : Nat, (∀ (i : Nat) (o : Oper), i < L → ops[i]? = some o → o.dst ≠ some t) → a'.tmps[t]? = a.tmps[t]?) → G L w' →
      (∀ (i : Nat) (oj : Oper) (d : Tmp), i < L → ops[i]? = some oj → oj.dst = some d → ∃ v, a'.tmps[d]? = some v ∧ F i v w') → o.wp P a' w' (fun a2 w2 => Q .normal a2 w2) Q) :
    (Code.region id ops true).wp P Q a w := by
  have main : ∀ (fuel : Nat) (listed : Array Bool) (a' : Act) (w' : World), MidJ ops a.tmps L G F J listed a' w' → listed.getD L true = false → listed.toList.count false ≤ fuel → wpAny P .any ops Q fuel listed a' w' := by
    intro fuel
    induction fuel with
    | zero =>
      intro listed a' w' hM hoff hc
      have : false ∈ listed.toList := by
        have hl : L < listed.size := by rw [hM.lsize]; omega
        have h1 : listed[L]? = some false := by simp [hl] at hoff ⊢; exact hoff
        exact List.mem_iff_getElem?.2 ⟨L, by simpa using h1⟩
      have := List.count_pos_iff.2 this
      omega
    | succ fuel ih =>
      intro listed a' w' hM hoff hc
      refine ⟨fun hr => ?_, fun i hi => ?_⟩
      · exfalso
        obtain ⟨i, h1, h2⟩ := least_off listed (fun _ => True) ops.size ⟨L, by omega, hoff⟩
        have hil : i < listed.size := by
          rcases Nat.lt_or_ge i listed.size with h | h
          · exact h
          · simp [Array.getElem?_eq_none h] at h1
        have hio : i < ops.size := by rw [← hM.lsize]; exact hil
        have : i ∈ Region.ready .any ops listed := mem_ready.2 ⟨h1, ops[i], by simp [hio], fun e he hbe => by
          have h3 := hord i ops[i] (by simp [hio]) e he hbe
          have h4 := h2 e.on h3
          rwa [getD_any (by omega) true false] at h4⟩
        rw [hr] at this; cases this
      · obtain ⟨h1, o, ho, h2⟩ := mem_ready.1 hi
        have hio : i < ops.size := (Array.getElem?_eq_some_iff.1 ho).1
        have hil : i < listed.size := by rw [hM.lsize]; exact hio
        have hw : Region.wanted o (yielded ops a'.tmps) = true := by simp [Region.wanted, hg i o ho]
        unfold wpOp
        rw [ho]
        simp only [hw, if_true]
        left
        by_cases hiL : i = L
        · subst hiL
          have hall : ∀ j, j < i → listed.getD j false = true := fun j hj => ancs_listed hM.closed ops.size i o ho h2 j (hanc j hj)
          refine Oper.wp_mono (fun a2 w2 h => ?_) (hlast _ o a' w' hM.joint hall ho hM.defers hM.size hM.old (hM.glob i (Nat.le_refl _) (by rw [getD_any (c := true) (by omega)]; exact hoff)) (fun j oj d hj hoj hdj => hM.fact j oj d hoj hdj (hall j hj)))
          refine wpAny_end ?_ h fuel
          apply List.eq_nil_iff_forall_not_mem.2
          intro j hj
          obtain ⟨h3, oj, hoj, -⟩ := mem_ready.1 hj
          have hjo : j < ops.size := (Array.getElem?_eq_some_iff.1 hoj).1
          by_cases hji : i = j
          · subst hji; rw [getD_set_same hil] at h3; cases h3
          · rw [getD_set_other hji, getD_any (c := false) (by omega), hall j (by omega)] at h3; cases h3
        · have hiL' : i < L := by omega
          have hif : listed.getD i false = false := by rw [getD_any (c := true) (by omega)]; exact h1
          refine Oper.wp_mono (fun a2 w2 h => ?_) (hstep _ i o a' w' hM.joint hif h2 ho hiL' hM.defers hM.size hM.old (hM.glob i (by omega) hif) (hM.glob L (Nat.le_refl _) (by rw [getD_any (c := true) (by rw [hM.lsize]; omega)]; exact hoff)) (fun e he hb oj d hoj hdj => hM.fact e.on oj d hoj hdj (h2 e he hb)))
          obtain ⟨v, rfl, hb, hF, hJ⟩ := h
          have hfac : ∀ (j : Nat) (oj : Oper) (d : Tmp), i ≠ j → ops[j]? = some oj → oj.dst = some d → listed.getD j false = true → ∃ v, a'.tmps[d]? = some v ∧ F j v w2 := fun j oj d hji hoj hdj hlj => by
            obtain ⟨u, hu, hFu⟩ := hM.fact j oj d hoj hdj hlj
            have hjs : j < ops.size := (Array.getElem?_eq_some_iff.1 hoj).1
            have hjL : j ≠ L := fun e => by rw [e, getD_any (c := true) (by rw [hM.lsize]; omega), hoff] at hlj; cases hlj
            exact ⟨u, hu, hFm j i u _ _ (Ne.symm hji) (by omega) hiL' hFu hb⟩
          refine ih _ _ _ ⟨?_, ?_, ?_, ?_, ?_, ?_, ?_, hJ _ (getD_set_same hil) (fun j hj => getD_set_other (Ne.symm hj))⟩ (by rw [getD_set_other hiL]; exact hoff) ?_
          · cases o.dst <;> exact hM.defers
          · cases o.dst <;> simp [Act.put, hM.size]
          · simp [hM.lsize]
          · intro j oj hoj hlj e he hbe
            by_cases hje : i = e.on
            · rw [hje]; exact getD_set_same (by omega)
            · rw [getD_set_other hje]
              by_cases hji : i = j
              · subst hji
                have : oj = o := by rw [ho] at hoj; injection hoj with hoj; exact hoj.symm
                subst this
                exact h2 e he hbe
              · rw [getD_set_other hji] at hlj
                exact hM.closed j oj hoj hlj e he hbe
          · intro t ht
            rw [← hM.old t ht]
            have := ht i o hiL' ho
            cases hd : o.dst with
            | none => rfl
            | some d => simp only [Act.put]; exact Array.getElem?_setIfInBounds_ne (by intro e; rw [hd, e] at this; exact this rfl)
          · intro j hj hlj
            by_cases hji : i = j
            · subst hji; rw [getD_set_same hil] at hlj; cases hlj
            · rw [getD_set_other hji] at hlj
              refine hGm i j _ _ hji hiL' hj (fun hmem => ?_) (hM.glob j hj hlj) hb
              have := ancs_listed hM.closed ops.size i o ho h2 j hmem
              rw [hlj] at this; cases this
          · intro j oj d hoj hdj hlj
            by_cases hji : i = j
            · subst hji
              have : oj = o := by rw [ho] at hoj; injection hoj with hoj; exact hoj.symm
              subst this
              have hds := hsz i oj d hoj hdj
              refine ⟨v, ?_, hF⟩
              rw [hdj]
              simp [Act.put, hM.size, hds]
            · rw [getD_set_other hji] at hlj
              obtain ⟨u, hu, hFu⟩ := hfac j oj d hji hoj hdj hlj
              refine ⟨u, ?_, hFu⟩
              rw [← hu]
              cases hd : o.dst with
              | none => rfl
              | some d' => simp only [Act.put]; exact Array.getElem?_setIfInBounds_ne (by intro e; exact hji (hdst i j o oj d ho hoj (by rw [hd, e]) hdj))
          · have h3 : listed.toList[i]? = some false := by simp [hil] at h1 ⊢; exact h1
            have h4 := count_set _ _ h3
            rw [Array.toList_setIfInBounds]
            omega
  have hLo : L < ops.size := by omega
  refine wp_region_any hm (main ops.size (Array.replicate ops.size false) a _ ⟨hd, rfl, by simp, ?_, fun _ _ => rfl, fun j hj _ => hG j hj, ?_, by
    have : (fun j => (Array.replicate ops.size false).getD j false) = fun _ => false := by
      funext j
      by_cases h : j < ops.size <;> simp [h]
    rw [this]; exact hJ0⟩ (by simp [hLo]) ?_)
  · intro i o ho hl
    have hio : i < ops.size := (Array.getElem?_eq_some_iff.1 ho).1
    simp [hio] at hl
  · intro i o d ho _ hl
    have hio : i < ops.size := (Array.getElem?_eq_some_iff.1 ho).1
    simp [hio] at hl
  · refine Nat.le_trans List.count_le_length ?_
    simp

/-- what the law asks of a region, to be reckoned -/
def drawnOkJ (ops : Array Oper) (L n : Nat) : Bool :=
  decide (L + 1 = ops.size) && ((List.range ops.size).all fun i => match ops[i]? with
    | none => true
    | some o => o.guard.isNone && (o.after.toList.all (fun e => decide (e.on < i) || !Region.binds .any e) && (match o.dst with
      | none => true
      | some d => decide (d < n) && (List.range ops.size).all (fun j => decide (i = j) || (match ops[j]? with | none => true | some o' => !decide (o'.dst = some d)))))) &&
  (List.range L).all (fun j => (ancs ops ops.size L).contains j)
theorem drawnJ {id : Nat} {a : Act} {w : World} (hm : P.follows .mixedOrders = true) (L n : Nat) (G : Nat → World → Prop) (F : Nat → Value → World → Prop) (R : Nat → World → World → Prop) (J : (Nat → Bool) → Array Value → World → Prop)
    (hn : a.tmps.size = n) (hok : drawnOkJ ops L n = true) (hd : a.defers = [])
    (hJ0 : J (fun _ => false) a.tmps w.drew) (hG : ∀ j, j ≤ L → G j w.drew) (hFm : ∀ i j v w w', i ≠ j → i < L → j < L → F i v w → R j w w' → F i v w') (hGm : ∀ i j w w', i ≠ j → i < L → j ≤ L → j ∉ ancs ops ops.size i → G j w → R i w w' → G j w')
    (hstep : ∀ (l : Nat → Bool) (i : Nat) (o : Oper) (a' : Act) (w' : World), J l a'.tmps w' → l i = false → (∀ e ∈ o.after, Region.binds .any e = true → l e.on = true) → i < L → ops[i]? = some o → a'.defers = [] → a'.tmps.size = n → (∀ t : Nat, (ops.toList.take L).all (fun o => !decide (o.dst = some t)) = true → a'.tmps[t]? = a.tmps[t]?) → G i w' → G L w' →
      (∀ j d, waitsFor ops i j = some d → ∃ v, a'.tmps[d]? = some v ∧ F j v w') → o.wp P a' w' (fun a2 w2 => ∃ v, a2 = a'.put o.dst v ∧ R i w' w2 ∧ F i v w2 ∧ ∀ l' : Nat → Bool, l' i = true → (∀ j, j ≠ i → l' j = l j) → J l' (a'.put o.dst v).tmps w2) Q)
    (hlast : ∀ (l : Nat → Bool) (o : Oper) (a' : Act) (w' : World), J l a'.tmps w' → (∀ j, j < L → l j = true) → ops[L]? = some o → a'.defers = [] → a'.tmps.size = n → (∀ t : Nat, (ops.toList.take L).all (fun o => !decide (o.dst = some t)) = true → a'.tmps[t]? = a.tmps[t]?) → G L w' →
      (∀ i d, i < L → dstOf ops i = some d → ∃ v, a'.tmps[d]? = some v ∧ F i v w') → o.wp P a' w' (fun a2 w2 => Q .normal a2 w2) Q) :
    (Code.region id ops true).wp P Q a w := by
  simp only [drawnOkJ, Bool.and_eq_true, decide_eq_true_eq, List.all_eq_true, List.mem_range] at hok
  obtain ⟨⟨hL, h1⟩, h2⟩ := hok
  have hall : ∀ (i : Nat) (o : Oper), ops[i]? = some o → o.guard.isNone = true ∧ (∀ e ∈ o.after.toList, Region.binds .any e = true → e.on < i) ∧ (∀ d, o.dst = some d → d < n ∧ ∀ j o', ops[j]? = some o' → o'.dst = some d → i = j) := by
    intro i o ho
    have hi : i < ops.size := (Array.getElem?_eq_some_iff.1 ho).1
    have := h1 i hi
    rw [ho] at this
    simp only [Bool.and_eq_true, List.all_eq_true] at this
    obtain ⟨k1, k2, k3⟩ := this
    refine ⟨k1, fun e he hb => by have := k2 e he; simpa [hb] using this, fun d hd => ?_⟩
    rw [hd] at k3
    simp only [Bool.and_eq_true, List.all_eq_true, decide_eq_true_eq, List.mem_range, Bool.or_eq_true] at k3
    refine ⟨k3.1, fun j o' ho' hd' => ?_⟩
    have hj : j < ops.size := (Array.getElem?_eq_some_iff.1 ho').1
    rcases k3.2 j hj with h | h
    · exact h
    · rw [ho'] at h; simp [hd'] at h
  have hold : ∀ t : Nat, (ops.toList.take L).all (fun o => !decide (o.dst = some t)) = true → ∀ (i : Nat) (o : Oper), i < L → ops[i]? = some o → o.dst ≠ some t := by
    intro t ht i o hi ho
    have hm : o ∈ ops.toList.take L := by
      have := List.mem_of_getElem? (l := ops.toList.take L) (i := i) (a := o) (by rw [List.getElem?_take_of_lt hi]; simpa using ho)
      exact this
    have := List.all_eq_true.1 ht o hm
    simpa using this
  refine drawn_lawJ hm L G F R J hd hL (fun i o ho => by have := (hall i o ho).1; simpa using this) (fun i o ho e he hb => (hall i o ho).2.1 e (by simpa using he) hb) (fun i j o o' d ho ho' hd hd' => ((hall i o ho).2.2 d hd).2 j o' ho' hd') (fun i o d ho hd => by rw [hn]; exact ((hall i o ho).2.2 d hd).1)
    (fun j hj => by simpa using h2 j hj) hJ0 hG hFm hGm ?_ ?_
  · intro l i o a' w' hJ hli hlw ho hi hd' hs hold' hGi hGL hw
    refine hstep l i o a' w' hJ hli hlw hi ho hd' (by rw [hs, hn]) (fun t ht => hold' t (hold t ht)) hGi hGL (fun j d hj => ?_)
    unfold waitsFor at hj
    rw [ho] at hj
    simp only at hj
    split at hj
    · rename_i hany
      obtain ⟨e, he, he2⟩ := List.any_eq_true.1 hany
      simp only [Bool.and_eq_true, decide_eq_true_eq] at he2
      obtain ⟨rfl, hb⟩ := he2
      cases ho2 : ops[e.on]? with
      | none => rw [ho2] at hj; cases hj
      | some oj => rw [ho2] at hj; exact hw e (by simpa using he) hb oj d ho2 hj
    · cases hj
  · intro l o a' w' hJ hlL ho hd' hs hold' hGL hw
    refine hlast l o a' w' hJ hlL ho hd' (by rw [hs, hn]) (fun t ht => hold' t (hold t ht)) hGL (fun i d hi hd => ?_)
    unfold dstOf at hd
    cases ho2 : ops[i]? with
    | none => rw [ho2] at hd; cases hd
    | some oj => rw [ho2] at hd; exact hw i oj d hi ho2 hd
/-- the same, the frame at the last operation told -/
theorem drawnJ2 {P : Program} {ops : Array Oper} {Q : Exit → Act → World → Prop} {id : Nat} {a : Act} {w : World} (hm : P.follows .mixedOrders = true) (L n : Nat) (ds : List Nat) (G : Nat → World → Prop) (F : Nat → Value → World → Prop) (R : Nat → World → World → Prop) (J : (Nat → Bool) → Array Value → World → Prop)
    (hn : a.tmps.size = n) (hok : drawnOkJ ops L n = true) (hds : (ops.toList.take L).filterMap (·.dst) = ds) (hd : a.defers = [])
    (hJ0 : J (fun _ => false) a.tmps w.drew) (hG : ∀ j, j ≤ L → G j w.drew) (hFm : ∀ i j v w w', i ≠ j → i < L → j < L → F i v w → R j w w' → F i v w') (hGm : ∀ i j w w', i ≠ j → i < L → j ≤ L → j ∉ ancs ops ops.size i → G j w → R i w w' → G j w')
    (hstep : ∀ (l : Nat → Bool) (i : Nat) (o : Oper) (a' : Act) (w' : World), J l a'.tmps w' → l i = false → (∀ e ∈ o.after, Region.binds .any e = true → l e.on = true) → i < L → ops[i]? = some o → a'.defers = [] → a'.tmps.size = n → (∀ t : Nat, (ops.toList.take L).all (fun o => !decide (o.dst = some t)) = true → a'.tmps[t]? = a.tmps[t]?) → G i w' → G L w' →
      (∀ j d, waitsFor ops i j = some d → ∃ v, a'.tmps[d]? = some v ∧ F j v w') → o.wp P a' w' (fun a2 w2 => ∃ v, a2 = a'.put o.dst v ∧ R i w' w2 ∧ F i v w2 ∧ ∀ l' : Nat → Bool, l' i = true → (∀ j, j ≠ i → l' j = l j) → J l' (a'.put o.dst v).tmps w2) Q)
    (hlast : ∀ (l : Nat → Bool) (o : Oper) (u : Nat → Value) (w' : World), J l (ds.foldl (fun x d => x.put (some d) (u d)) a).tmps w' → (∀ j, j < L → l j = true) → ops[L]? = some o → G L w' → (∀ i d, i < L → dstOf ops i = some d → F i (u d) w') → o.wp P (ds.foldl (fun x d => x.put (some d) (u d)) a) w' (fun a2 w2 => Q .normal a2 w2) Q) :
    (Code.region id ops true).wp P Q a w := by
  refine drawnJ hm L n G F R J hn hok hd hJ0 hG hFm hGm hstep ?_
  intro l o a' w' hJ hlL ho hd' hs hold hGL hw
  obtain ⟨u, hu, huv⟩ := frame_of (a := a) (a' := a') ds (by rw [hs, hn]) (by rw [hd', hd]) (fun t ht => hold t (List.all_eq_true.2 fun o ho => by
    simp only [Bool.not_eq_true', decide_eq_false_iff_not]
    intro e
    exact ht (by rw [← hds]; exact List.mem_filterMap.2 ⟨o, ho, e⟩)))
  rw [hu] at hJ ⊢
  refine hlast l o u w' hJ hlL ho hGL (fun i d hi hdd => ?_)
  obtain ⟨v, hv, hF⟩ := hw i d hi hdd
  rw [huv d v hv]
  exact hF
end
end Go.Proofs.YtplekbpmfaghbaaGreatDoor

/- Two new boxes, filled one behind the other, in a drawn region: the joint word of XDrawnJ. Nothing of any program. -/
namespace Go.Proofs.YtplekbpmfaghbaaGreatDoor
open Go.RowKit

theorem below_set {B g : Nat} {w0 w : World} (hb : Below B w0 w) (hg : B ≤ g) (cs : Array Value) : Below B w0 (w.setRow g cs) :=
  ⟨hb.os, hb.tape, hb.output, by rw [setRow_size]; exact hb.size, fun k hk => (setRow_ne (by omega)).trans (hb.block k hk)⟩
theorem below_al {B : Nat} {w0 w : World} (hb : Below B w0 w) (hB : B ≤ w.heap.size) (o : Obj) : Below B w0 (w.alloc o) :=
  hb.trans ((belowA (Below.refl _ w) o).mono hB)
theorem range_on {w w' : World} {b o : Nat} {cs : List Value} (h : w.rangeAt b o cs) (hb : Below w.heap.size w w') : w'.rangeAt b o cs := fun j v hj => below_cell hb (h j v hj)
/-- two boxes, i and j, filled one behind the other -/
def twoJ (B T i0 i1 i2 d0 d1 : Nat) (c1 zs : Array Value) (l : Nat → Bool) (t : Array Value) (W : World) : Prop :=
  ∃ g h : Nat, (l i0 = true → t[d0]? = some (.pointer (some ⟨g, 0, none⟩)) ∧ B ≤ g ∧ g < W.heap.size ∧ ∃ cs : Array Value, cs.size = zs.size ∧ W.heap[g]? = some (.cells cs T (0, 0)) ∧ (l i2 = true → cs = c1) ∧ (l i2 = false → cs = zs)) ∧
    (l i1 = true → t[d1]? = some (.pointer (some ⟨h, 0, none⟩)) ∧ B ≤ h ∧ h < W.heap.size ∧ W.heap[h]? = some (.cells zs T (0, 0))) ∧
    (l i0 = true → l i1 = true → g ≠ h) ∧ (l i2 = true → l i0 = true)
theorem twoJ_val {B T i0 i1 i2 d0 d1 : Nat} {c1 zs : Array Value} {l l' : Nat → Bool} {a : Act} {W : World} {o : Option Tmp} {v : Value} {i : Nat} (h : twoJ B T i0 i1 i2 d0 d1 c1 zs l a.tmps W)
    (n0 : i ≠ i0) (n1 : i ≠ i1) (n2 : i ≠ i2) (m0 : o ≠ some d0) (m1 : o ≠ some d1) (_ : l' i = true) (hl : ∀ j, j ≠ i → l' j = l j) : twoJ B T i0 i1 i2 d0 d1 c1 zs l' (a.put o v).tmps W := by
  obtain ⟨g, k, h1, h2, h3, h4⟩ := h
  have hp : ∀ d : Nat, o ≠ some d → (a.put o v).tmps[d]? = a.tmps[d]? := fun d hd => by
    cases o with
    | none => rfl
    | some q => simp only [Act.put]; exact Array.getElem?_setIfInBounds_ne (by intro e; exact hd (by rw [e]))
  refine ⟨g, k, ?_, ?_, ?_, ?_⟩
  · rw [hl _ (Ne.symm n0), hl _ (Ne.symm n2), hp _ m0]; exact h1
  · rw [hl _ (Ne.symm n1), hp _ m1]; exact h2
  · rw [hl _ (Ne.symm n0), hl _ (Ne.symm n1)]; exact h3
  · rw [hl _ (Ne.symm n0), hl _ (Ne.symm n2)]; exact h4
theorem twoJ_a0 {B T i0 i1 i2 d0 d1 : Nat} {c1 zs : Array Value} {l l' : Nat → Bool} {a : Act} {W : World} (h : twoJ B T i0 i1 i2 d0 d1 c1 zs l a.tmps W)
    (n1 : i1 ≠ i0) (n2 : i2 ≠ i0) (m1 : d1 ≠ d0) (hd : d0 < a.tmps.size) (hB : B ≤ W.heap.size) (ho : l i0 = false) (_ : l' i0 = true) (hl : ∀ j, j ≠ i0 → l' j = l j) : twoJ B T i0 i1 i2 d0 d1 c1 zs l' (a.put (some d0) (.pointer (some ⟨W.heap.size, 0, none⟩))).tmps (W.alloc (.cells zs T)) := by
  obtain ⟨g, k, h1, h2, h3, h4⟩ := h
  refine ⟨W.heap.size, k, fun _ => ⟨by simp [Act.put, hd], hB, by simp, zs, rfl, heapNew rfl, fun h => ?_, fun _ => rfl⟩, ?_, ?_, fun _ => by assumption⟩
  · rw [hl _ n2] at h; rw [h4 h] at ho; cases ho
  · rw [hl _ n1]
    intro h
    obtain ⟨k1, k2, k3, k5⟩ := h2 h
    refine ⟨?_, k2, by simp; omega, heapOld k5⟩
    simp only [Act.put]; exact (Array.getElem?_setIfInBounds_ne (Ne.symm m1)).trans k1
  · intro _ h
    rw [hl _ n1] at h
    have := (h2 h).2.2.1
    omega
theorem twoJ_a1 {B T i0 i1 i2 d0 d1 : Nat} {c1 zs : Array Value} {l l' : Nat → Bool} {a : Act} {W : World} (h : twoJ B T i0 i1 i2 d0 d1 c1 zs l a.tmps W)
    (n0 : i0 ≠ i1) (n2 : i2 ≠ i1) (m0 : d0 ≠ d1) (hd : d1 < a.tmps.size) (hB : B ≤ W.heap.size) (_ : l' i1 = true) (hl : ∀ j, j ≠ i1 → l' j = l j) : twoJ B T i0 i1 i2 d0 d1 c1 zs l' (a.put (some d1) (.pointer (some ⟨W.heap.size, 0, none⟩))).tmps (W.alloc (.cells zs T)) := by
  obtain ⟨g, k, h1, h2, h3, h4⟩ := h
  refine ⟨g, W.heap.size, ?_, fun _ => ⟨by simp [Act.put, hd], hB, by simp, heapNew rfl⟩, ?_, ?_⟩
  · rw [hl _ n0, hl _ n2]
    intro h
    obtain ⟨k1, k2, k3, cs, k4, k5, k6⟩ := h1 h
    refine ⟨?_, k2, by simp; omega, cs, k4, heapOld k5, k6⟩
    simp only [Act.put]; exact (Array.getElem?_setIfInBounds_ne (Ne.symm m0)).trans k1
  · intro h _
    rw [hl _ n0] at h
    have := (h1 h).2.2.1
    omega
  · rw [hl _ n0, hl _ n2]; exact h4
theorem twoJ_s {B T i0 i1 i2 d0 d1 : Nat} {c1 zs : Array Value} {l l' : Nat → Bool} {a : Act} {W : World} {g : Nat} {v : Value} (h : twoJ B T i0 i1 i2 d0 d1 c1 zs l a.tmps W)
    (n0 : i0 ≠ i2) (n1 : i1 ≠ i2) (hg : a.tmps[d0]? = some (.pointer (some ⟨g, 0, none⟩))) (hc : c1.size = zs.size) (ho : l i0 = true) (hs2 : l' i2 = true) (hl : ∀ j, j ≠ i2 → l' j = l j) : twoJ B T i0 i1 i2 d0 d1 c1 zs l' (a.put none v).tmps (W.setRow g c1) := by
  obtain ⟨g', k, h1, h2, h3, h4⟩ := h
  obtain ⟨k1, k2, k3, cs, k4, k5, k6⟩ := h1 ho
  obtain rfl : g' = g := by rw [hg] at k1; injection k1 with k1; injection k1 with k1; injection k1 with k1; injection k1 with k1; exact k1.symm
  refine ⟨g', k, fun _ => ⟨hg, k2, by rw [setRow_size]; exact k3, c1, hc, setRow_at k5, fun _ => rfl, fun h => ?_⟩, ?_, ?_, fun _ => by rw [hl _ n0]; exact ho⟩
  · rw [hs2] at h; cases h
  · rw [hl _ n1]
    intro h
    obtain ⟨q1, q2, q3, q5⟩ := h2 h
    exact ⟨q1, q2, by rw [setRow_size]; exact q3, (setRow_ne (Ne.symm (h3 ho h))).trans q5⟩
  · rw [hl _ n0, hl _ n1]; exact h3
/-- the law, the frame at the last operation told, and J of a frame that is not written out -/
theorem drawnJ3 {P : Program} {ops : Array Oper} {Q : Exit → Act → World → Prop} {id : Nat} {a : Act} {w : World} (hm : P.follows .mixedOrders = true) (L n : Nat) (ds : List Nat) (G : Nat → World → Prop) (F : Nat → Value → World → Prop) (R : Nat → World → World → Prop) (J : (Nat → Bool) → Array Value → World → Prop)
    (hn : a.tmps.size = n) (hok : drawnOkJ ops L n = true) (hds : (ops.toList.take L).filterMap (·.dst) = ds) (hd : a.defers = [])
    (hJ0 : J (fun _ => false) a.tmps w.drew) (hG : ∀ j, j ≤ L → G j w.drew) (hFm : ∀ i j v w w', i ≠ j → i < L → j < L → F i v w → R j w w' → F i v w') (hGm : ∀ i j w w', i ≠ j → i < L → j ≤ L → j ∉ ancs ops ops.size i → G j w → R i w w' → G j w')
    (hstep : ∀ (l : Nat → Bool) (i : Nat) (o : Oper) (a' : Act) (w' : World), J l a'.tmps w' → l i = false → (∀ e ∈ o.after, Region.binds .any e = true → l e.on = true) → i < L → ops[i]? = some o → a'.defers = [] → a'.tmps.size = n → (∀ t : Nat, (ops.toList.take L).all (fun o => !decide (o.dst = some t)) = true → a'.tmps[t]? = a.tmps[t]?) → G i w' → G L w' →
      (∀ j d, waitsFor ops i j = some d → ∃ v, a'.tmps[d]? = some v ∧ F j v w') → o.wp P a' w' (fun a2 w2 => ∃ v, a2 = a'.put o.dst v ∧ R i w' w2 ∧ F i v w2 ∧ ∀ l' : Nat → Bool, l' i = true → (∀ j, j ≠ i → l' j = l j) → J l' (a'.put o.dst v).tmps w2) Q)
    (hlast : ∀ (l : Nat → Bool) (o : Oper) (u : Nat → Value) (w' : World) (t : Array Value), J l t w' → (∀ d, d ∈ ds → d < n → t[d]? = some (u d)) → (∀ j, j < L → l j = true) → ops[L]? = some o → G L w' → (∀ i d, i < L → dstOf ops i = some d → F i (u d) w') → o.wp P (ds.foldl (fun x d => x.put (some d) (u d)) a) w' (fun a2 w2 => Q .normal a2 w2) Q) :
    (Code.region id ops true).wp P Q a w :=
  drawnJ2 hm L n ds G F R J hn hok hds hd hJ0 hG hFm hGm hstep fun l o u w' hJ hl ho hGL hw => hlast l o u w' _ hJ (fun d hd hdn => by rw [puts_get u d ds a (by omega), if_pos hd]) hl ho hGL hw
/-- at the region's last operation -/
theorem twoJ_fin {B T i0 i1 i2 d0 d1 : Nat} {c1 zs : Array Value} {l : Nat → Bool} {t : Array Value} {W : World} {v0 v1 : Value} (h : twoJ B T i0 i1 i2 d0 d1 c1 zs l t W)
    (h0 : l i0 = true) (h1 : l i1 = true) (h2 : l i2 = true) (m0 : t[d0]? = some v0) (m1 : t[d1]? = some v1) :
    ∃ g h : Nat, v0 = .pointer (some ⟨g, 0, none⟩) ∧ v1 = .pointer (some ⟨h, 0, none⟩) ∧ B ≤ g ∧ B ≤ h ∧ g ≠ h ∧ W.heap[g]? = some (.cells c1 T (0, 0)) ∧ ∃ cs : Array Value, cs = zs ∧ W.heap[h]? = some (.cells cs T (0, 0)) := by
  obtain ⟨g, h, j1, j2, j3, -⟩ := h
  obtain ⟨t6, hBg, _, cs, _, hrow, hcs1, -⟩ := j1 h0
  obtain rfl := hcs1 h2
  obtain ⟨t7, hBh, _, hrow2⟩ := j2 h1
  rw [m0] at t6
  rw [m1] at t7
  exact ⟨g, h, Option.some.inj t6, Option.some.inj t7, hBg, hBh, j3 h0 h1, hrow, zs, rfl, hrow2⟩
end Go.Proofs.YtplekbpmfaghbaaGreatDoor

/- show.shown, sum, within, exp: an expression's text. -/
namespace Go.Proofs.YtplekbpmfaghbaaGreatDoor
open Go.RowKit

set_option maxRecDepth 100000 in
set_option maxHeartbeats 1000000 in
theorem shown_any (t : GTold) (hv : fits t.v.n) (w : World) (h : TabW w) : Calls Tryz.prog 115 #[toldV t] w (RetV (.string (bytes (shownT t))) w) := by
  obtain ⟨S, HS⟩ : ∃ S, Hid (S = shownT t) := ⟨_, rfl⟩
  rw [← HS.out]
  have hrb : (w.alloc (.cells #[.string t.x, .int .i64 t.v.k, .int .i64 t.v.n, .string t.v.s] 33)).heap[w.heap.size]? = some (.cells #[.string t.x, .int .i64 t.v.k, .int .i64 t.v.n, .string t.v.s] 33 (0, 0)) := heapNew rfl
  have hba : Below w.heap.size w (w.alloc (.cells #[.string t.x, .int .i64 t.v.k, .int .i64 t.v.n, .string t.v.s] 33)) := belowA (Below.refl _ _) _
  have HR := Lib.hid (text_any t.v hv _ (h.on hba))
  obtain ⟨b0, b1, b2, b3⟩ := facts4 hrb
  clear h
  by_cases h0 : t.x.size = 0
  · have e0 : (t.x.toList == ([] : List UInt8)) = true := by simp [str_empty.2 h0]
    have e1 : t.x.toList.isEmpty = true := by simp [str_empty.2 h0]
    have HE : Hid (S = textOf t.v) := by show _ = _; rw [HS.out]; simp [shownT, h0]
    clear h0 HS
    go_enter Tryz.func115, Tryz.ntmps115
    go_wp2_with fail
    refine HR.out.mono ?_
    rintro e w1 ⟨rfl, hb⟩
    have Hb := Lib.hid hb
    clear hb
    go_wp2_with fail
    go_ret
    exact ⟨by rw [HE.out]; rfl, below_next hba Hb.out⟩
  · have e0 : (t.x.toList == ([] : List UInt8)) = false := by simp [str_empty, h0]
    have e1 : t.x.toList.isEmpty = false := by simp [str_empty, h0]
    have HE : Hid (bytes S = t.x) := by show _ = _; rw [HS.out]; simp only [shownT, if_neg h0]; exact bytes_of _
    clear h0 HS HR
    go_enter Tryz.func115, Tryz.ntmps115
    go_wp2_with fail
    go_ret
    exact ⟨by rw [HE.out]; rfl, hba⟩

set_option maxRecDepth 100000 in
theorem sum_any (e : GExp) (A : Option Addr) (n c : Nat) (w : World) : Calls Tryz.prog 117 #[expV e A n c] w (RetBool (sumB e) w) := by
  obtain ⟨S, HS⟩ : ∃ S, Hid (S = sumB e) := ⟨_, rfl⟩
  rw [← HS.out]
  have hba : Below w.heap.size w (w.alloc (.cells (expC e A n c).toArray 36)) := belowA (Below.refl _ _) _
  by_cases h0 : 0 < e.op
  · by_cases h3 : e.op < 3
    · have HE : Hid (S = true) := by show _ = _; rw [HS.out]; simp [sumB, h0, h3]
      clear HS
      go_enter Tryz.func117, Tryz.ntmps117
      go_wp2_with fail
      go_ret
      exact ⟨by rw [HE.out]; simp [*], hba⟩
    · have HE : Hid (S = false) := by show _ = _; rw [HS.out]; simp [sumB, h0, h3]
      clear HS
      go_enter Tryz.func117, Tryz.ntmps117
      go_wp2_with fail
      go_ret
      exact ⟨by rw [HE.out]; simp [*], hba⟩
  · have HE : Hid (S = false) := by show _ = _; rw [HS.out]; simp [sumB, h0]
    clear HS
    go_enter Tryz.func117, Tryz.ntmps117
    go_wp2_with fail
    go_ret
    exact ⟨by rw [HE.out]; simp [*], hba⟩

theorem bytes_in (s : List UInt8) : (⟨#[40]⟩ : ByteArray) ++ bytes s ++ ⟨#[41]⟩ = bytes (inB true s) := by
  show bytes [40] ++ bytes s ++ bytes [41] = _
  rw [bytes_app, bytes_app]; rfl
set_option maxRecDepth 100000 in
theorem within_any (e : GExp) (A : Option Addr) (n c : Nat) (b : Bool) (s : List UInt8) (w : World) (hs : s.length ≤ 1000000000000)
    (H : ∀ W, Below w.heap.size w W → Calls Tryz.prog 74 #[expV e A n c] W (RetV (.string (bytes s)) W)) : Calls Tryz.prog 116 #[expV e A n c, .bool b] w (RetV (.string (bytes (inB b s))) w) := by
  have hba : Below w.heap.size w (w.alloc (.cells (expC e A n c).toArray 36)) := belowA (Below.refl _ _) _
  have HC := Lib.hid (H _ hba)
  clear H
  cases b with
  | false =>
    go_enter Tryz.func116, Tryz.ntmps116
    go_wp2_with fail
    refine HC.out.mono ?_
    rintro r w1 ⟨rfl, hb⟩
    go_wp2_with fail
    go_ret
    exact ⟨rfl, below_next hba hb⟩
  | true =>
    go_enter Tryz.func116, Tryz.ntmps116
    go_wp2_with fail
    refine HC.out.mono ?_
    rintro r w1 ⟨rfl, hb⟩
    have HI := Lib.hid (bytes_in s)
    have hz : (bytes s).size ≤ 1000000000000 := hs
    generalize bytes s = sb at *
    have hz1 : ¬ (9223372036854775807 < 1 + sb.size) := by omega
    have hz2 : ¬ (9223372036854775807 < sb.size + 1) := by omega
    have hz3 : ¬ (9223372036854775806 < sb.size) := by omega
    go_wp2_with fail
    go_ret
    exact ⟨by rw [HI.out]; rfl, below_next hba hb⟩
end Go.Proofs.YtplekbpmfaghbaaGreatDoor
