/- My own texts ShowD, PbA, RtA, ShowSL, ShowLn, ShBld, as far as this claim needs them. -/
import Derived.Test.YtplekbpmfaghbaaGreatDoorZd7
import Derived.Test.YtplekbpmfaghbaaGreatDoorZd10
import Derived.Test.YtplekbpmfaghbaaGreatDoorZd11
import Derived.Test.YtplekbpmfaghbaaGreatDoorZd13
import Derived.Test.YtplekbpmfaghbaaGreatDoorZd15
import Derived.OwnWalkIn
import Derived.TacticsInMore
import Derived.RegionIn
import Derived.LoopNIn
import Derived.LoopIn
import Derived.Shelf.Abstract
import Derived.Shelf.Strings.BuilderK
set_option linter.unusedVariables false
set_option linter.unusedSimpArgs false
namespace Go.Proofs.YtplekbpmfaghbaaGreatDoor
open Go.RowKit
theorem kinds_take {l : List Int} {k : Nat} {x : Int} (h : l[k]? = some x) : ((l.take (k + 1)).map fun y => Value.string (bytes (kindS y))) = ((l.take k).map fun y => Value.string (bytes (kindS y))) ++ [.string (bytes (kindS x))] := by
  rw [List.take_add_one, h]; simp
theorem kindS_one : bytes (kindS 1) = ⟨#[105, 110, 116]⟩ := rfl
theorem kindS_two {k : Int} (h : ¬ k = 1) : bytes (kindS k) = ⟨#[115, 121, 109]⟩ := by unfold kindS; rw [if_neg h]; rfl
theorem declS_bytes (x : GDecl) : bytes (declS x) = ⟨#[114, 101, 108, 32]⟩ ++ x.rel ++ ⟨#[40]⟩ ++ bytes (Lib.join (x.kinds.map kindS) sep2) ++ ⟨#[41, 46]⟩ := by
  show _ = bytes [114, 101, 108, 32] ++ x.rel ++ bytes [40] ++ bytes (Lib.join (x.kinds.map kindS) sep2) ++ bytes [41, 46]
  conv => rhs; rw [← bytes_of x.rel]
  rw [bytes_app, bytes_app, bytes_app, bytes_app]; rfl
set_option maxRecDepth 100000 in
set_option maxHeartbeats 4000000 in
theorem decl_any (x : GDecl) (A : Option Addr) (n c : Nat) (w : World) (h : DeclAt w w.heap.size x ⟨A, n, c⟩) (hn : n ≤ 100000) (hlen : (declS x).length ≤ 1000000000000) :
    Calls Tryz.prog 82 #[.agg #[.string x.rel, .slice A n c, .int .i64 x.pos]] w (RetV (.string (bytes (declS x))) w) := by
  have mixed : Tryz.prog.follows .mixedOrders = true := by kernel_rfl
  have Hlen := Lib.hid h.kinds.1
  have hba : Below w.heap.size w (w.alloc (.cells #[.string x.rel, .slice A n c, .int .i64 x.pos] 155)) := belowA (Below.refl _ _) _
  have hrb : (w.alloc (.cells #[.string x.rel, .slice A n c, .int .i64 x.pos] 155)).heap[w.heap.size]? = some (.cells #[.string x.rel, .slice A n c, .int .i64 x.pos] 155 (0, 0)) := heapNew rfl
  have HH := Lib.hid (h.keep hba)
  have Hba := Lib.hid hba
  have Hrb := Lib.hid hrb
  obtain ⟨S, HS⟩ : ∃ S, Hid (S = bytes (declS x)) := ⟨_, rfl⟩
  rw [← HS.out]
  have HE : Hid (S = ⟨#[114, 101, 108, 32]⟩ ++ x.rel ++ ⟨#[40]⟩ ++ bytes (Lib.join (x.kinds.map kindS) sep2) ++ ⟨#[41, 46]⟩) := by show _ = _; rw [HS.out, declS_bytes]
  have hl2 : x.rel.size + (Lib.join (x.kinds.map kindS) sep2).length ≤ 1000000000000 := by
    have := hlen
    unfold declS at this
    simp only [List.length_append, List.length_cons, List.length_nil, ba_len] at this
    omega
  have HL2 := Lib.hid hl2
  obtain ⟨f0, f1, f2⟩ := facts3 hrb
  clear h hba hrb HS hlen hl2
  generalize hwb : (w.alloc (.cells #[.string x.rel, .slice A n c, .int .i64 x.pos] 155)) = wb at *
  go_enter Tryz.func82, Tryz.ntmps82
  go_wp2_with fail
  try simp only [hwb]
  clear hwb
  go_wp2_with fail
  clear f0 f1 f2
  go_loopw [3, 5, 6, 10] (fun v _ _ i wr => ∃ k A' c', k ≤ n ∧ v = .slice A' k c' ∧ i = .int .i64 k ∧ Hid (wr.ownsRow wb.heap.size 9 1 (.slice A' k c') k ((x.kinds.take k).map fun y => .string (bytes (kindS y)))) ∧ Hid (Below wb.heap.size wb wr)) (fun _ _ _ i _ => n - (intOf i).toNat)
  case atStart => exact ⟨0, none, 0, by omega, rfl, rfl, World.ownsRow_nil _ _ _ _, Below.refl _ _⟩
  case round =>
    obtain ⟨k, A', c', hk, rfl, rfl, HO, HBr⟩ := hrel
    have i0 : (0 : Int) ≤ (k : Int) := by omega
    by_cases hlt : k < n
    · have i1 : (k : Int) < (n : Int) := by omega
      obtain ⟨b, o, y, hA, _, hy, y0, _⟩ := (HH.out.keep HBr.out).kinds.int_at hlt
      try simp only at hA
      subst hA
      have HSt := Lib.hid (kinds_take hy.out)
      obtain ⟨v', w', hrun, hown', hb'⟩ := str_push (bytes (kindS y)) (by omega) HBr.out HO.out
      obtain ⟨A4, c4, rfl⟩ := own_form hown'
      rw [← HSt.out] at hown'
      have HOn := Lib.hid hown'
      have HBn := Lib.hid hb'
      clear hown' hb' HSt hy HO
      by_cases h1 : y = 1
      · have q1 : (y == 1) = true := by simp [h1]
        rw [h1, kindS_one] at hrun
        have HRun := Lib.hid hrun
        clear h1 hrun
        go_wp2_with (at_builtin; refine wpList_append_run rfl _ _ _ rfl _ _ rfl rfl (HRun.out _) ?_)
        go_roundw
        case rel => exact ⟨k + 1, A4, c4, by omega, rfl, by go_num, HOn, HBn⟩
        case measure => simp [intOf]; omega
      · have q1 : (y == 1) = false := by simp [h1]
        rw [kindS_two h1] at hrun
        have HRun := Lib.hid hrun
        clear h1 hrun
        go_wp2_with (at_builtin; refine wpList_append_run rfl _ _ _ rfl _ _ rfl rfl (HRun.out _) ?_)
        go_roundw
        case rel => exact ⟨k + 1, A4, c4, by omega, rfl, by go_num, HOn, HBn⟩
        case measure => simp [intOf]; omega
    · have i1 : ¬ (k : Int) < (n : Int) := by omega
      obtain rfl : k = n := by omega
      have hown := HO.out
      rw [List.take_of_length_le (by have h1 := Hlen.out; omega), show x.kinds.map (fun y => Value.string (bytes (kindS y))) = (x.kinds.map kindS).map (fun s => Value.string (bytes s)) by rw [List.map_map]; rfl] at hown
      have HCj := Lib.hid (fun (V : World) (hb : Below wr.heap.size wr V) => sjoin_any A' k c' (x.kinds.map kindS) V (by rw [List.length_map]; exact Hlen.out) (by have := HL2.out; omega) (by omega) (own_below hown hb))
      have hjs : x.rel.size + (bytes (Lib.join (x.kinds.map kindS) sep2)).size ≤ 1000000000000 := HL2.out
      have HR := Lib.hid ((HBr.out.block _ (Array.getElem?_eq_some_iff.1 Hrb.out).1).trans Hrb.out)
      have HBn := Lib.hid (below_next Hba.out HBr.out)
      unfold JoinPost at HCj
      generalize bytes (Lib.join (x.kinds.map kindS) sep2) = sj at *
      have hrs : x.rel.size ≤ 1000000000000 := by omega
      generalize x.rel = sr at *
      have z1 : ¬ (9223372036854775807 < 4 + sr.size) := by omega
      have z2 : ¬ (9223372036854775807 < 4 + sr.size + 1) := by omega
      have z3 : ¬ (9223372036854775806 < 4 + sr.size) := by omega
      have z4 : ¬ (9223372036854775807 < 4 + sr.size + 1 + sj.size) := by omega
      have z5 : ¬ (9223372036854775807 < 4 + sr.size + 1 + sj.size + 2) := by omega
      have z6 : ¬ (9223372036854775805 < 4 + sr.size + 1 + sj.size) := by omega
      clear HO hown HL2 HH
      have f0 := (facts3 HR.out).1
      have Hk := Lib.hid (fun (V : World) (hb : Below wr.heap.size wr V) => below_cell hb f0)
      have hb1 := Below.refl wr.heap.size wr
      go_wp2_with fail
      go_region_held3 (fun w' => w'.cell? ⟨w.heap.size, 0, none⟩ = some (.string sr))
        (first
          | (refine Hk.out _ ?_; (repeat (first | with_reducible exact Below.refl _ _ | with_reducible assumption | with_reducible refine Below.drew ?_ | with_reducible refine belowA ?_ _)); done)
          | go_keep)
        ((first
          | (go_at_call 112
             refine (HCj.out _ (by repeat (first | with_reducible exact Below.refl _ _ | with_reducible assumption | with_reducible refine Below.drew ?_ | with_reducible refine belowA ?_ _))).mono ?_
             rintro r wN ⟨rfl, hq1⟩
             have hb1 : Below wr.heap.size wr wN := by
               refine below_next ?_ hq1
               repeat (first | with_reducible exact Below.refl _ _ | with_reducible assumption | with_reducible refine Below.drew ?_ | with_reducible refine belowA ?_ _)
             clear hq1)))
      clear f0 Hk
      go_wp2_with fail
      go_ret
      exact ⟨by rw [HE.out]; rfl, below_next HBn.out hb1⟩
end Go.Proofs.YtplekbpmfaghbaaGreatDoor

namespace Go.Proofs.YtplekbpmfaghbaaGreatDoor
open Go.RowKit
def GLit.e (l : GLit) : GLit := ⟨l.k, l.atom, l.op, l.l, l.r, 0⟩
def GRule.e (r : GRule) : GRule := ⟨r.head, r.agg, r.col, r.body.map GLit.e, 0⟩
def GDecl.e (d : GDecl) : GDecl := ⟨d.rel, d.kinds, 0⟩
def GProg.e (p : GProg) : GProg := ⟨p.decls.map GDecl.e, p.rules.map GRule.e⟩
section
variable {T T' : List GTok} {E E' : Nat}
end
end Go.Proofs.YtplekbpmfaghbaaGreatDoor

namespace Go.Proofs.YtplekbpmfaghbaaGreatDoor
open Go.RowKit
def kt (q : GTok) : Int × List UInt8 := (q.k, q.t)
/-- the text s, ahead of r, is read as the tokens ts -/
def Rds (s r : List UInt8) (ts : List (Int × List UInt8)) : Prop := ∀ a, ∃ toks, lexA wordK a (s ++ r) = (toks ++ (lexA wordK (a + s.length) r).1, (lexA wordK (a + s.length) r).2) ∧ toks.map kt = ts
theorem Rds.nil (r : List UInt8) : Rds [] r [] := fun a => ⟨[], by simp, rfl⟩
/-- a symbol is a token -/
def SymT (t : GTold) : Prop := t.x.size = 0 → t.v.k = 2 → TextOf wordK 2 t.v.s.toList
/-- all symbols of an expression are tokens -/
def SymE : Nat → GExp → Prop
  | 0, e => SymT e.t
  | k + 1, e => SymT e.t ∧ ∀ a ∈ e.kids, SymE k a
theorem SymE.t {k : Nat} {e : GExp} (h : SymE k e) : SymT e.t := by
  cases k with
  | zero => exact h
  | succ k => exact h.1
theorem rightE_split {k : Nat} {e : GExp} (h : rightE (k + 1) e = true) (h0 : ¬ e.op = 0) : (1 ≤ e.op ∧ e.op ≤ 3 ∧ e.t = zT) ∧ ∃ a b, e.kids = [a, b] ∧ rightE k a = true ∧ rightE k b = true := by
  rw [rightE, if_neg h0, Bool.and_eq_true] at h
  obtain ⟨h1, h2⟩ := h
  unfold opE at h1
  simp only [Bool.and_eq_true, decide_eq_true_eq] at h1
  refine ⟨⟨h1.1.1, h1.1.2, h1.2⟩, ?_⟩
  split at h2
  · rename_i a b hk
    rw [Bool.and_eq_true] at h2
    exact ⟨a, b, hk, h2.1, h2.2⟩
  · cases h2
theorem rightE_zero {k : Nat} {e : GExp} (h : rightE k e = true) (h0 : e.op = 0) : e.kids = [] ∧ rightT e.t = true := by
  rw [rightE_leaf h0, Bool.and_eq_true] at h
  exact ⟨List.isEmpty_iff.1 h.1, h.2⟩
theorem rightE_none {e : GExp} (h : rightE 0 e = true) : e.op = 0 := by
  by_cases h0 : e.op = 0
  · exact h0
  · rw [rightE_flat h0] at h; cases h
theorem atomB_parts {a : GAtom} (h : atomB a = true) : singleB 2 a.rel = true ∧ a.args.length ≤ 6 ∧ ∀ t ∈ a.args, rightT t = true := by
  unfold atomB at h
  simp only [Bool.and_eq_true, decide_eq_true_eq] at h
  exact ⟨h.1, h.2.1, fun t ht => List.all_eq_true.1 h.2.2 t ht⟩
theorem rule_parts {x : GRule} (h : rightRule x = true) : atomB x.head = true ∧ aggB x = true ∧ x.body.length ≤ 8 ∧ ∀ l ∈ x.body, rightLit l = true := by
  unfold rightRule at h
  simp only [Bool.and_eq_true, decide_eq_true_eq] at h
  exact ⟨h.1, h.2.1, h.2.2.1, fun t ht => List.all_eq_true.1 h.2.2.2 t ht⟩
theorem declB_parts {x : GDecl} (h : declB x = true) : singleB 2 x.rel = true ∧ x.kinds.length ≤ 6 ∧ ∀ k ∈ x.kinds, k = 1 ∨ k = 2 := by
  unfold declB at h
  simp only [Bool.and_eq_true, decide_eq_true_eq] at h
  refine ⟨h.1, h.2.1, fun k hk => ?_⟩
  have := List.all_eq_true.1 h.2.2 k hk
  unfold kindB at this
  simpa using this
theorem formed_parts {p : GProg} (h : formedB p = true) : p.decls.length ≤ 32 ∧ p.rules.length ≤ 64 ∧ (∀ d ∈ p.decls, declB d = true) ∧ ∀ r ∈ p.rules, rightRule r = true := by
  unfold formedB at h
  simp only [Bool.and_eq_true, decide_eq_true_eq] at h
  exact ⟨h.1.1, h.1.2, fun t ht => List.all_eq_true.1 h.2.1 t ht, fun t ht => List.all_eq_true.1 h.2.2 t ht⟩
end Go.Proofs.YtplekbpmfaghbaaGreatDoor

namespace Go.Proofs.YtplekbpmfaghbaaGreatDoor
open Go.RowKit
theorem single_le {k : Int} {s : ByteArray} (h : singleB k s = true) : s.size ≤ 4000 := by
  unfold singleB at h
  simp only [Bool.and_eq_true, decide_eq_true_eq] at h
  exact h.1
theorem rightT_le {t : GTold} (h : rightT t = true) : t.x.size ≤ 4000 := by
  unfold rightT at h
  split at h
  · omega
  · simp only [Bool.and_eq_true] at h
    exact single_le h.1
theorem shown_le {t : GTold} (h : rightT t = true) : (shownT t).length ≤ 4032 := by
  have h1 := rightT_le h
  have h2 := shown_len t
  omega
def eB : Nat → Nat
  | 0 => 4032
  | k + 1 => 2 * eB k + 7
theorem eB_ge : ∀ k, 4032 ≤ eB k
  | 0 => Nat.le_refl _
  | k + 1 => by have := eB_ge k; unfold eB; omega
theorem expS_le : ∀ (k : Nat) (e : GExp), rightE k e = true → (expS k e).length ≤ eB k
  | 0, e, h => by
    rw [expS_leaf (rightE_none h)]
    exact shown_le (rightE_zero h (rightE_none h)).2
  | k + 1, e, h => by
    by_cases h0 : e.op = 0
    · rw [expS_leaf h0]
      have h1 := shown_le (rightE_zero h h0).2
      have h2 := eB_ge (k + 1)
      omega
    · obtain ⟨-, a, b, hk, ha, hb⟩ := rightE_split h h0
      rw [expS_two h0 hk]
      have i1 := expS_le k a ha
      have i2 := expS_le k b hb
      have j1 := inB_len (decide (e.op = 3) && sumB a) (expS k a)
      have j2 := inB_len (sumB b || (decide (e.op = 3) && decide (b.op = 3))) (expS k b)
      have j3 := opS_len e.op
      simp only [List.length_append, List.length_cons, List.length_nil]
      unfold eB
      omega
theorem eB_20 : eB 20 ≤ 4300000000 := by decide
theorem sumLen_bound {c : Nat} : ∀ {xs : List (List UInt8)}, (∀ s ∈ xs, s.length ≤ c) → sumLen xs ≤ xs.length * (c + 2)
  | [], _ => by simp [sumLen]
  | x :: xs, h => by
    have h1 := h x (List.mem_cons_self ..)
    have h2 := sumLen_bound (xs := xs) (fun s hs => h s (List.mem_cons_of_mem _ hs))
    rw [sumLen, List.length_cons, Nat.succ_mul]
    omega
theorem thingsL_bound {agg col : Int} : ∀ (l : List GTold) (i : Nat), (∀ t ∈ l, rightT t = true) → ∀ s ∈ thingsL agg col i l, s.length ≤ 4039
  | [], _, _ => fun _ h => by cases h
  | t :: l, i, h => by
    intro s hs
    rw [thingsL] at hs
    rcases List.mem_cons.1 hs with rfl | hs
    · have h1 := thing_len agg col i t
      have h2 := rightT_le (h t (List.mem_cons_self ..))
      omega
    · exact thingsL_bound l (i + 1) (fun u hu => h u (List.mem_cons_of_mem _ hu)) s hs
theorem atomS_le {a : GAtom} (agg col : Int) (h : atomB a = true) : (atomS a agg col).length ≤ 30000 := by
  obtain ⟨h1, h2, h3⟩ := atomB_parts h
  have h4 := join_le (thingsL agg col 0 a.args)
  have h5 := sumLen_bound (thingsL_bound (agg := agg) (col := col) a.args 0 h3)
  rw [thingsL_len] at h5
  have h6 := single_le h1
  have h7 : a.args.length * (4039 + 2) ≤ 6 * 4041 := Nat.mul_le_mul h2 (Nat.le_refl _)
  unfold atomS thingsS
  simp only [List.length_append, List.length_cons, List.length_nil, ba_len]
  omega
theorem litS_bound {x : GLit} (h : rightLit x = true) : (litS x).length ≤ 8700000000 := by
  unfold rightLit at h
  have hs := sgnS_len x.op
  unfold litS
  split at h
  · rename_i hk
    simp only [Bool.and_eq_true] at h
    have h1 := atomS_le 0 0 h.1
    rw [if_neg (show ¬ x.k = 3 by omega)]
    by_cases h2 : x.k = 2
    · rw [if_pos h2]
      simp only [List.length_append, List.length_cons, List.length_nil]; omega
    · rw [if_neg h2]; omega
  · rename_i hk
    simp only [Bool.and_eq_true, decide_eq_true_eq] at h
    have e20 := eB_20
    have h1 := expS_le 20 x.l h.2.2.1
    have h2 := expS_le 20 x.r h.2.2.2
    rw [if_pos h.1]
    simp only [List.length_append, List.length_cons, List.length_nil]
    omega
theorem ruleS_bound {x : GRule} (h : rightRule x = true) : (ruleS x).length ≤ 100000000000 := by
  obtain ⟨h1, -, h3, h4⟩ := rule_parts h
  have h5 := atomS_le x.agg x.col h1
  have h6 := join_le (x.body.map litS)
  have h7 : sumLen (x.body.map litS) ≤ (x.body.map litS).length * (8700000000 + 2) := sumLen_bound (fun s hs => by
    obtain ⟨y, hy, rfl⟩ := List.mem_map.1 hs
    exact litS_bound (h4 y hy))
  rw [List.length_map] at h7
  have h8 : x.body.length * (8700000000 + 2) ≤ 8 * 8700000002 := Nat.mul_le_mul h3 (Nat.le_refl _)
  unfold ruleS
  simp only [List.length_append, List.length_cons, List.length_nil]
  split
  · simp only [List.length_nil]; omega
  · simp only [List.length_append, List.length_cons, List.length_nil]; omega
theorem declS_bound {x : GDecl} (h : declB x = true) : (declS x).length ≤ 100000000000 ∧ x.kinds.length ≤ 6 := by
  obtain ⟨h1, h2, -⟩ := declB_parts h
  have h3 := declS_len x
  have h4 := single_le h1
  exact ⟨by omega, h2⟩
theorem formed_line {p : GProg} (h : formedB p = true) : ∀ s ∈ linesS p, s.length ≤ 100000000000 := by
  obtain ⟨-, -, h3, h4⟩ := formed_parts h
  intro s hs
  rcases List.mem_append.1 hs with hs | hs
  · obtain ⟨x, hx, rfl⟩ := List.mem_map.1 hs
    exact (declS_bound (h3 x hx)).1
  · obtain ⟨x, hx, rfl⟩ := List.mem_map.1 hs
    exact ruleS_bound (h4 x hx)
theorem formed_len {p : GProg} (h : formedB p = true) : (linesS p).length ≤ 96 := by
  obtain ⟨h1, h2, -⟩ := formed_parts h
  simp only [linesS, List.length_append, List.length_map]
  omega
theorem formed_text {p : GProg} (h : formedB p = true) (k : Nat) : (textS ((linesS p).take k)).length ≤ 9600000000096 := by
  have h1 := textS_len 100000000000 ((linesS p).take k) (fun s hs => formed_line h s (List.mem_of_mem_take hs))
  have h2 := formed_len h
  have h3 : ((linesS p).take k).length ≤ 96 := by rw [List.length_take]; omega
  have := Nat.mul_le_mul_right 100000000001 h3
  omega
theorem ShowW.keep {W W' : World} (h : ShowW W) (hk : ∀ b, b < W.heap.size → W'.heap[b]? = W.heap[b]?) : ShowW W' := by
  obtain ⟨h1, ⟨t2, fr2, h2⟩, ⟨t3, fr3, h3⟩, ⟨t4, fr4, h4⟩⟩ := h
  refine ⟨TabW.of ?_, ⟨t2, fr2, (hk _ (Array.getElem?_eq_some_iff.1 h2).1).trans h2⟩, ⟨t3, fr3, (hk _ (Array.getElem?_eq_some_iff.1 h3).1).trans h3⟩, ⟨t4, fr4, (hk _ (Array.getElem?_eq_some_iff.1 h4).1).trans h4⟩⟩
  have hlt := tab_lt h1
  have h0 := h1 W (Below.refl _ _)
  unfold Lib.TabIs World.var? at h0 ⊢
  rw [gPow] at h0 ⊢
  simp only [Option.bind_some] at h0 ⊢
  rw [hk _ hlt]; exact h0
theorem own_low {W : World} {base base' : Nat} {e : TypeId} {size : Nat} {v : Value} {k : Nat} {xs : List Value} (h : W.ownsRow base e size v k xs) (hb : base' ≤ base) : W.ownsRow base' e size v k xs := by
  refine ⟨h.1, ?_⟩
  rcases h.2 with hn | ⟨g, cap, cur, hv, hbg, rest⟩
  · exact .inl hn
  · exact .inr ⟨g, cap, cur, hv, Nat.le_trans hb hbg, rest⟩
end Go.Proofs.YtplekbpmfaghbaaGreatDoor

namespace Go.Proofs.YtplekbpmfaghbaaGreatDoor
open Go.RowKit Go.Shelf
attribute [local go_sem] Oper.semAt_some
def encS (s : List UInt8) : Array Value := #[.string (bytes s)]
def RS (L : List (List UInt8)) (pre : List (List UInt8)) (x : List UInt8) (_base : Nat) (_W : World) : Prop := (pre ++ [x]) <+: L
def linesF (p : GProg) : List (List UInt8) := if formedB p = true then linesS p else []
theorem encS_one (s : List UInt8) : encS s = #[.string (bytes s)] := rfl
theorem lines_any (A1 : Option Addr) (n1 c1 : Nat) (A2 : Option Addr) (n2 c2 : Nat) (w : World) : Calls Tryz.prog 34 #[.agg #[.slice A1 n1 c1, .slice A2 n2 c2]] w fun e w' => e = .returned (.func (.func 81) #[] #[.pointer (some ⟨w.heap.size, 0, none⟩)]) ∧ w' = w.alloc (.cells #[.slice A1 n1 c1, .slice A2 n2 c2] 74) := by
  go_enter Tryz.func34, Tryz.ntmps34
  go_wp2_with fail
  go_ret
  exact ⟨rfl, rfl⟩
theorem take_pre {α : Type} {L : List α} {k : Nat} {x : α} (h : L[k]? = some x) : (L.take k ++ [x]) <+: L := by
  have e : L.take k ++ [x] = L.take (k + 1) := by rw [List.take_add_one, h]; rfl
  rw [e]; exact List.take_prefix _ _
set_option maxRecDepth 100000 in
set_option maxHeartbeats 4000000 in
theorem lines_seq {w0 w : World} {d : Nat} {p : GProg} {A1 : Option Addr} {n1 c1 : Nat} {A2 : Option Addr} {n2 c2 : Nat} (hP : ProgAt d w0 w0.heap.size p ⟨A1, n1, c1⟩ ⟨A2, n2, c2⟩) (hS0 : ShowW w0) (hL0 : LexW w0) (hb0 : Below w0.heap.size w0 w)
    {g : Nat} (hg : w.heap[g]? = some (.cells #[.slice A1 n1 c1, .slice A2 n2 c2] 74 (0, 0))) (S : List Nat) (hgS : g ∉ S) (hS : ∀ b ∈ S, w0.heap.size ≤ b) :
    SeqR2 Tryz.prog 81 #[.pointer (some ⟨g, 0, none⟩)] encS (RS (linesF p)) S (fun xs => Hid (xs = linesF p)) (fun pre => Hid (pre <+: linesF p)) w := by
  intro l J Jx W hbW hl hlW hJ h0 hY
  have HJ := Lib.hid hJ
  have H0 := Lib.hid h0
  have HY := Lib.hid hY
  have gl : g < w.heap.size := (Array.getElem?_eq_some_iff.1 hg).1
  have hsW := hbW.size
  have hs0 := hb0.size
  have hglW : g < W.heap.size := by omega
  have hneq : g ≠ l := by omega
  have hgW := (hbW.block g gl).trans hg
  have HK : Hid (∀ V : World, (∀ b, b < W.heap.size → b ≠ l → b ∉ S → V.heap[b]? = W.heap[b]?) → W.heap.size ≤ V.heap.size → ProgAt d V V.heap.size p ⟨A1, n1, c1⟩ ⟨A2, n2, c2⟩ ∧ ShowW V ∧ V.heap[g]? = some (.cells #[.slice A1 n1 c1, .slice A2 n2 c2] 74 (0, 0))) := by
    intro V hV hz
    have hk : ∀ b, b < w0.heap.size → V.heap[b]? = w0.heap[b]? := fun b hb => (hV b (by omega) (by omega) (fun hbS => by have := hS b hbS; omega)).trans ((hbW.block b (by omega)).trans (hb0.block b hb))
    exact ⟨⟨hP.decls.mono' (by omega) (Kept.of hk), hP.rules.mono' (by omega) (Kept.of hk)⟩, hS0.keep hk, (hV g hglW hneq hgS).trans hgW⟩
  have hPW := (HK.out W (fun _ _ _ _ => rfl) (Nat.le_refl _)).1
  have HF := Lib.hid (formed_any d p ⟨A1, n1, c1⟩ ⟨A2, n2, c2⟩ W hPW ((hL0.on hb0).on hbW))
  have Hn1 : Hid (p.decls.length = n1) := hP.decls.1
  have Hn2 : Hid (p.rules.length = n2) := hP.rules.1
  have hbn1 := hP.decls.bound
  have hbn2 := hP.rules.bound
  dsimp only at hbn1 hbn2
  obtain ⟨c0, c1'⟩ := facts2 hgW
  obtain ⟨L, HL⟩ : ∃ L, Hid (L = linesF p) := ⟨_, rfl⟩
  rw [← HL.out] at HY ⊢
  clear hP hS0 hL0 hg hJ h0 hY hPW hgW
  refine (callsIn_wide (n := 0)).1 ?_
  refine callsIn_of_wp Tryz.func81 rfl trivial ?_ rfl
  simp only [Tryz.ntmps81, List.size_toArray, List.length_cons, List.length_nil, Nat.reduceAdd, Nat.reduceSub, Array.replicate_succ, Array.replicate_zero, List.push_toArray, List.append_toArray, List.nil_append, List.cons_append]
  gi_wp2_with fail
  refine ⟨trivial, rfl, (callsIn_wide.2 HF.out).mono ?_⟩
  rintro e w1 ⟨rfl, hb1⟩
  have hz1 := hb1.size
  have HJ0 : Hid (J W.heap.size [] w1) := H0.out _ w1 hb1 (Nat.le_refl _) hz1
  have HB1 : Hid (∀ b, b < W.heap.size → b ≠ l → b ∉ S → w1.heap[b]? = W.heap[b]?) := fun b hb _ _ => hb1.block b hb
  clear hb1 H0 HF c0 c1'
  cases hfo : formedB p with
  | false =>
    have HE : Hid ([] = L) := by show _ = _; rw [HL.out]; unfold linesF; rw [hfo]; rfl
    clear hfo
    gi_wp2_with fail
    refine bodyPost_ret (results_none rfl _ _ _) rfl ?_
    exact ⟨⟨_, rfl⟩, .inl ⟨W.heap.size, _, HE, HJ0.out⟩⟩
  | true =>
  have HLs : Hid (L = linesS p) := by show _ = _; rw [HL.out]; unfold linesF; rw [hfo]; rfl
  have HLd : Hid (∀ (k : Nat) (x : GDecl), p.decls[k]? = some x → L[k]? = some (declS x)) := fun k x hx => by
    have hk : k < p.decls.length := (List.getElem?_eq_some_iff.1 hx).1
    rw [HLs.out, linesS, List.getElem?_append_left (by simpa using hk), List.getElem?_map, hx]; rfl
  have HLr : Hid (∀ (k : Nat) (x : GRule), p.rules[k]? = some x → L[n1 + k]? = some (ruleS x)) := fun k x hx => by
    rw [HLs.out, linesS, List.getElem?_append_right (by rw [List.length_map, Hn1.out]; omega), List.length_map, Hn1.out, Nat.add_sub_cancel_left, List.getElem?_map, hx]; rfl
  have HLl : Hid (L.length = n1 + n2) := by show _ = _; rw [HLs.out]; simp [linesS, Hn1.out, Hn2.out]
  have HFd : Hid (∀ x ∈ p.decls, declB x = true) := (formed_parts hfo).2.2.1
  have HFr : Hid (∀ x ∈ p.rules, rightRule x = true) := (formed_parts hfo).2.2.2
  clear hfo HL HLs
  obtain ⟨c0, c1'⟩ := facts2 (HK.out w1 HB1.out hz1).2.2
  gi_wp2_with fail
  clear c0 c1'
  gi_loopw [4, 13] (fun _ i wr => ∃ k : Nat, k ≤ n1 ∧ i = .int .i64 k ∧ Hid (J W.heap.size (L.take k) wr) ∧ Hid (∀ b, b < W.heap.size → b ≠ l → b ∉ S → wr.heap[b]? = W.heap[b]?) ∧ W.heap.size ≤ wr.heap.size) (fun _ i _ => n1 - (intOf i).toNat)
  case atStart => exact ⟨0, by omega, rfl, by rw [List.take_zero]; exact HJ0, HB1, hz1⟩
  case round =>
    obtain ⟨k, hk, rfl, HJk, HBk, hNk⟩ := hrel
    have i0 : (0 : Int) ≤ (k : Int) := by omega
    by_cases hlt : k < n1
    · have i1 : (k : Int) < (n1 : Int) := by omega
      obtain ⟨b, o, x, a, hA, _, hx, hd, x0, x1, x2⟩ := (HK.out wr HBk.out hNk).1.decls.decl_at hlt
      try simp only at hA
      subst hA
      obtain ⟨aA, an, ac⟩ := a
      dsimp only [Hd.v] at x0 x1 x2
      obtain ⟨hd1, hd2⟩ := declS_bound (HFd.out x (List.mem_of_getElem? hx.out))
      have hka : an ≤ 100000 := by have := hd.kinds.1; dsimp only at this; omega
      have hba : Below wr.heap.size wr (wr.alloc (.cells #[.string x.rel, .slice aA an ac, .int .i64 x.pos] 155)) := belowA (Below.refl _ _) _
      have HC := Lib.hid (decl_any x aA an ac _ (hd.keep hba) hka (by omega))
      have Hba := Lib.hid hba
      have HX : Hid (L[k]? = some (declS x)) := HLd.out k x hx.out
      have HTk : Hid (L.take (k + 1) = L.take k ++ [declS x]) := by show _ = _; rw [List.take_add_one, HX.out]; rfl
      clear hd hx hd1 hd2 hka hba
      generalize declS x = dx at *
      gi_wp2_with fail
      refine ⟨trivial, rfl, (callsIn_wide.2 HC.out).mono ?_⟩
      rintro e w2 ⟨rfl, hb2⟩
      have hbc := below_next Hba.out hb2
      have hzc := hbc.size
      have HYs := Lib.hid (fun m => HY.out m W.heap.size (L.take k) dx wr _ HJk.out hbc (take_pre HX.out))
      have Hbc := Lib.hid hbc
      clear hb2 hbc HC Hba x0 x1 x2
      obtain ⟨fn, tmps, assign, body, hy, hR⟩ := HYs.out 0
      have HRR := Lib.hid hR
      rw [encS_one] at hy
      clear hR HYs
      gi_wp2_with fail
      refine ⟨rfl, HRR.out.mono ?_⟩
      rintro e w4 (⟨rfl, hj, hz4, hbl, hfr⟩ | ⟨rfl, hj⟩)
      · have HJ4 : Hid (J W.heap.size (L.take (k + 1)) w4) := by rw [HTk.out]; exact hj
        have HB4 : Hid (∀ b, b < W.heap.size → b ≠ l → b ∉ S → w4.heap[b]? = W.heap[b]?) := fun b hb hbl' hbS => (hbl b hb hbS hbl').trans ((Hbc.out.block b (by omega)).trans (HBk.out b hb hbl' hbS))
        have hz5 : W.heap.size ≤ w4.heap.size := by omega
        clear hj hbl hfr hy HRR HTk HX Hbc HBk HJk
        gi_wp2_with fail
        go_roundw
        case rel => exact ⟨k + 1, by omega, by go_num, HJ4, HB4, hz5⟩
        case measure => simp [intOf]; omega
      · have HJ4 := Lib.hid hj
        have HE := Lib.hid (take_pre HX.out)
        clear hj hy HRR HTk HX Hbc HBk HJk
        gi_wp2_with fail
        refine bodyPost_ret (results_none rfl _ _ _) rfl ?_
        exact ⟨⟨_, rfl⟩, .inr ⟨W.heap.size, _, HE, HJ4.out⟩⟩
    · have i1 : ¬ (k : Int) < (n1 : Int) := by omega
      obtain rfl : k = n1 := by omega
      obtain ⟨w5, hw5⟩ : ∃ V, V = wr := ⟨_, rfl⟩
      subst hw5
      obtain ⟨c0, c1'⟩ := facts2 (HK.out w5 HBk.out hNk).2.2
      gi_wp2_with fail
      clear c0 c1'
      gi_loopw [6, 26] (fun _ i wr => ∃ j : Nat, j ≤ n2 ∧ i = .int .i64 j ∧ Hid (J W.heap.size (L.take (k + j)) wr) ∧ Hid (∀ b, b < W.heap.size → b ≠ l → b ∉ S → wr.heap[b]? = W.heap[b]?) ∧ W.heap.size ≤ wr.heap.size) (fun _ i _ => n2 - (intOf i).toNat)
      case atStart => exact ⟨0, by omega, rfl, HJk, HBk, hNk⟩
      case round =>
        obtain ⟨j, hj, rfl, HJj, HBj, hNj⟩ := hrel
        have j0 : (0 : Int) ≤ (j : Int) := by omega
        by_cases hlt2 : j < n2
        · have j1 : (j : Int) < (n2 : Int) := by omega
          obtain ⟨b, o, x, a, m, hA, _, hx, hd, x0, x1, x2, x3, x4, x5⟩ := (HK.out wr HBj.out hNj).1.rules.rule_at hlt2
          try simp only at hA
          subst hA
          obtain ⟨aA, an, ac⟩ := a
          obtain ⟨mA, mn, mc⟩ := m
          dsimp only [Hd.v] at x0 x1 x2 x3 x4 x5
          have hrr := HFr.out x (List.mem_of_getElem? hx.out)
          have hd1 := ruleS_bound hrr
          have hba : Below wr.heap.size wr (wr.alloc (.cells #[.string x.head.rel, .slice aA an ac, .int .i64 x.agg, .int .i64 x.col, .slice mA mn mc, .int .i64 x.pos] 27)) := belowA (Below.refl _ _) _
          have HC := Lib.hid (rule2_any d x aA an ac mA mn mc _ (hd.keep hba) hrr ((HK.out wr HBj.out hNj).2.1.on hba) (by omega))
          have Hba := Lib.hid hba
          have HX : Hid (L[k + j]? = some (ruleS x)) := HLr.out j x hx.out
          have HTk : Hid (L.take (k + (j + 1)) = L.take (k + j) ++ [ruleS x]) := by show _ = _; rw [← Nat.add_assoc, List.take_add_one, HX.out]; rfl
          clear hd hx hd1 hrr hba
          generalize ruleS x = dx at *
          gi_wp2_with fail
          refine ⟨trivial, rfl, (callsIn_wide.2 HC.out).mono ?_⟩
          rintro e w6 ⟨rfl, hb2⟩
          have hbc := below_next Hba.out hb2
          have hzc := hbc.size
          have HYs := Lib.hid (fun m => HY.out m W.heap.size (L.take (k + j)) dx wr _ HJj.out hbc (take_pre HX.out))
          have Hbc := Lib.hid hbc
          clear hb2 hbc HC Hba x0 x1 x2 x3 x4 x5
          obtain ⟨fn, tmps, assign, body, hy, hR⟩ := HYs.out 0
          have HRR := Lib.hid hR
          rw [encS_one] at hy
          clear hR HYs
          gi_wp2_with fail
          refine ⟨rfl, HRR.out.mono ?_⟩
          rintro e w4 (⟨rfl, hj4, hz4, hbl, hfr⟩ | ⟨rfl, hj4⟩)
          · have HJ4 : Hid (J W.heap.size (L.take (k + (j + 1))) w4) := by rw [HTk.out]; exact hj4
            have HB4 : Hid (∀ b, b < W.heap.size → b ≠ l → b ∉ S → w4.heap[b]? = W.heap[b]?) := fun b hb hbl' hbS => (hbl b hb hbS hbl').trans ((Hbc.out.block b (by omega)).trans (HBj.out b hb hbl' hbS))
            have hz5 : W.heap.size ≤ w4.heap.size := by omega
            clear hj4 hbl hfr hy HRR HTk HX Hbc HBj HJj
            gi_wp2_with fail
            go_roundw
            case rel => exact ⟨j + 1, by omega, by go_num, HJ4, HB4, hz5⟩
            case measure => simp [intOf]; omega
          · have HJ4 := Lib.hid hj4
            have HE := Lib.hid (take_pre HX.out)
            clear hj4 hy HRR HTk HX Hbc HBj HJj
            gi_wp2_with fail
            refine bodyPost_ret (results_none rfl _ _ _) rfl ?_
            exact ⟨⟨_, rfl⟩, .inr ⟨W.heap.size, _, HE, HJ4.out⟩⟩
        · have j1 : ¬ (j : Int) < (n2 : Int) := by omega
          have HE : Hid (L.take (k + j) = L) := by
            show _ = _
            exact List.take_of_length_le (by rw [HLl.out]; omega)
          gi_wp2_with fail
          go_end0
          exact ⟨⟨_, rfl⟩, .inl ⟨W.heap.size, _, HE, HJj.out⟩⟩
end Go.Proofs.YtplekbpmfaghbaaGreatDoor

namespace Go.Proofs.YtplekbpmfaghbaaGreatDoor
open Go.RowKit
theorem bld240 : Go.Proofs.Lays.n240 Tryz.prog Tryz.lays156_ren := { Tryz.lays156 with }
theorem bld169 : Go.Proofs.Lays.n169 Tryz.prog Tryz.lays156_ren := { Tryz.lays156 with }
theorem byte_info : (Tryz.prog.info? 5).map (fun i => (i.zero, i.size, i.bytes)) = some (some (.int .u8 0), 1, 1) := by kernel_rfl
/-- a builder that holds bs: its own block b, its row from B on -/
def BldAt (B b : Nat) (p v : Value) (bs : List Value) (w : World) : Prop :=
  w.heap[b]? = some (.cells #[p, v] 161 (0, 0)) ∧ (p = .pointer none ∨ p = .pointer (some ⟨b, 0, none⟩)) ∧ w.ownsRow B 5 1 v bs.length bs ∧ v.ownBlock ≠ some b
theorem copyCheck_any {B b : Nat} {p v : Value} {bs : List Value} {w : World} (h : BldAt B b p v bs w) :
    ∃ w1, Calls Tryz.prog 121 #[.pointer (some ⟨b, 0, none⟩)] w (fun e w' => e = .returned (.tuple #[]) ∧ w' = w1) ∧ BldAt B b (.pointer (some ⟨b, 0, none⟩)) v bs w1 ∧ Out [b] w w1 ∧ w1.heap.size = w.heap.size := by
  obtain ⟨h1, h2, h3, h4⟩ := h
  have c0 : w.cell? ⟨b, 0, none⟩ = some p := (cell_of_row _ _ 0 _ _ _ h1).trans rfl
  rcases h2 with rfl | rfl
  · have hz : (w.setCell ⟨b, 0, none⟩ (.pointer (some ⟨b, 0, none⟩))).heap.size = w.heap.size := by simp [World.setCell]
    have ho := set_out w b 0 (.pointer (some ⟨b, 0, none⟩))
    refine ⟨_, Go.Proofs.Any.Builder_copyCheck_fresh bld240 Tryz.Builder_Extra_156.toX72 b w c0 (by simp [World.shape?, h1]; rfl) (frozen_of_row _ _ _ _ _ h1), ⟨?_, .inr rfl, ?_, h4⟩, ho, hz⟩
    · simp [World.setCell, Array.getElem?_modify, h1]
    · exact own_out' h3 ho (fun c hc hm => by simp at hm; exact h4 (hm ▸ hc))
  · exact ⟨w, Go.Proofs.Any.Builder_copyCheck_used bld240 Tryz.Builder_Extra_156.toX72 b w c0, ⟨h1, .inr rfl, h3, h4⟩, Out.refl _ _, rfl⟩
def WStr (B b : Nat) (v : Value) (bs : List Value) (s : ByteArray) (w : World) (e : Ending) (w' : World) : Prop :=
  e = .returned (.tuple #[.int .i64 s.size, .nilIface]) ∧ (∃ v', BldAt B b (.pointer (some ⟨b, 0, none⟩)) v' (bs ++ Lib.strCells s) w') ∧ Out (b :: v.ownBlock.toList) w w'
set_option maxRecDepth 100000 in
set_option maxHeartbeats 1000000 in
theorem wstr_any {B b : Nat} {p v : Value} {bs : List Value} {w : World} (h : BldAt B b p v bs w) (s : ByteArray) (hlen : bs.length + s.size ≤ 140737488355328) (hB : B ≤ w.heap.size) :
    Calls Tryz.prog 83 #[.pointer (some ⟨b, 0, none⟩), .string s] w (WStr B b v bs s w) := by
  obtain ⟨w1, hC, ⟨h1, -, h3, h4⟩, ho, hz⟩ := copyCheck_any h
  obtain ⟨i0, hi, hz0, hz1, hz2⟩ := info_parts byte_info
  have c1 : w1.cell? ⟨b, 1, none⟩ = some v := (cell_of_row _ _ 1 _ _ _ h1).trans rfl
  have hlt : b < w1.heap.size := (Array.getElem?_eq_some_iff.1 h1).1
  have HC := Lib.hid hC
  have Hi := Lib.hid hi
  have Hz0 := Lib.hid hz0
  have Hz1 := Lib.hid hz1
  have Hz2 := Lib.hid hz2
  have H1 := Lib.hid h1
  have H3 := Lib.hid h3
  have H4 := Lib.hid h4
  have HO := Lib.hid ho
  have HZ := Lib.hid hz
  have HL := Lib.hid hlen
  have HB := Lib.hid hB
  clear h hC h1 h3 h4 ho hz hlen hB hi hz0 hz1 hz2
  go_enter Tryz.func83, Tryz.ntmps83
  go_wp2_with fail
  refine HC.out.mono ?_
  rintro e w2 ⟨rfl, rfl⟩
  go_wp2_with (at_builtin; refine Lib.wpList_append_own_string _ rfl _ _ 159 9 rfl B 5 i0 Tryz.underlying159 Tryz.underlying9 Hi.out Hz0.out Hz1.out Hz2.out _ _ _ rfl H3.out s rfl ?c3 ?c4 ?c5 ?_)
  case c3 => have := HL.out; unfold maxLen; omega
  case c4 => exact HL.out
  case c5 => have := HB.out; have := HZ.out; omega
  intro v' w3 hown' hgrow _
  have hb2 : w3.heap[b]? = some (.cells #[.pointer (some ⟨b, 0, none⟩), v] 161 (0, 0)) := (hgrow.block b hlt (fun e => H4.out e.symm)).trans H1.out
  have d1 : w3.cell? ⟨b, 1, none⟩ = some v := (cell_of_row _ _ 1 _ _ _ hb2).trans rfl
  have f1 : w3.frozen? ⟨b, 1, none⟩ = false := by simp [World.frozen?, hb2]
  obtain ⟨ao, cap, rfl⟩ := own_form hown'
  have HO2 : Hid (Out (b :: v.ownBlock.toList) w w3) := (HO.out.mono (fun c hc _ => by simp at hc; simp [hc])).trans (grown_out hgrow) (fun c hc _ => List.mem_cons_of_mem _ hc)
  have HO3 : Hid (Out (b :: v.ownBlock.toList) w (w3.setCell ⟨b, 1, none⟩ (.slice ao (bs.length + s.size) cap))) := HO2.out.trans (set_out w3 b 1 _) (fun c hc _ => by simp at hc; simp [hc])
  have hnb : (Value.slice ao (bs.length + s.size) cap).ownBlock ≠ some b := by
    intro e
    obtain ⟨cur, hc⟩ := own_type hown' e
    rw [hb2] at hc
    simp at hc
  have HBl : Hid (BldAt B b (.pointer (some ⟨b, 0, none⟩)) (.slice ao (bs.length + s.size) cap) (bs ++ Lib.strCells s) (w3.setCell ⟨b, 1, none⟩ (.slice ao (bs.length + s.size) cap))) := by
    refine ⟨by simp [World.setCell, Array.getElem?_modify, hb2], .inr rfl, ?_, hnb⟩
    have := own_out' hown' (set_out w3 b 1 (.slice ao (bs.length + s.size) cap)) (fun c hc hm => by simp at hm; exact hnb (hm ▸ hc))
    simpa [Lib.strCells_length] using this
  clear hown' hgrow hb2 hnb HO HO2 HC
  go_wp2_with fail
  go_ret2
  exact ⟨rfl, ⟨_, HBl.out⟩, HO3.out⟩
theorem blen_any {B b : Nat} {p v : Value} {bs : List Value} {w : World} (h : BldAt B b p v bs w) : Calls Tryz.prog 84 #[.pointer (some ⟨b, 0, none⟩)] w fun e w' => e = .returned (.int .i64 bs.length) ∧ w = w' := by
  obtain ⟨h1, -, h3, -⟩ := h
  obtain ⟨ao, cap, rfl⟩ := own_form h3
  have c1 : w.cell? ⟨b, 1, none⟩ = some (.slice ao bs.length cap) := (cell_of_row _ _ 1 _ _ _ h1).trans rfl
  clear h1 h3
  go_enter Tryz.func84, Tryz.ntmps84
  go_wp2_with fail
  go_ret
  exact ⟨rfl, rfl⟩
theorem bstr_any {B b : Nat} {p v : Value} {l : List UInt8} {w : World} (h : BldAt B b p v (Lib.byteCells l) w) (hb : B ≤ b) (hB : B ≤ w.heap.size) : Calls Tryz.prog 85 #[.pointer (some ⟨b, 0, none⟩)] w fun e w' => e = .returned (.string (bytes l)) ∧ Below B w w' ∧ ∀ (k : Nat) (ds : Option (List Deferred)), w.heap[k]? = some (Obj.deferred ds) → w'.heap[k]? = some (Obj.deferred ds) := by
  obtain ⟨h1, h2, h3, h4⟩ := h
  refine (Go.Proofs.Any.Builder_String_any_k bld169 Tryz.Builder_Extra_156 B b l w ?_ hB).mono ?_
  · refine Lib.IsBuilderF.of ?_
    rcases h2 with rfl | rfl
    · exact .inl ⟨hb, v, h1, h3, h4⟩
    · exact .inr ⟨hb, v, h1, h3, h4⟩
  · rintro e w' ⟨rfl, -, h5, h6⟩
    refine ⟨rfl, h5, fun k ds hk => h6 k _ hk (fun e => ?_) (fun c fz e => by cases e)⟩
    injection e with e
    subst e
    rw [h1] at hk
    simp at hk
theorem strCells_bytes (l : List UInt8) : Lib.strCells (bytes l) = Lib.byteCells l := rfl
theorem byteCells_app (a b : List UInt8) : Lib.byteCells (a ++ b) = Lib.byteCells a ++ Lib.byteCells b := by simp [Lib.byteCells]
end Go.Proofs.YtplekbpmfaghbaaGreatDoor
