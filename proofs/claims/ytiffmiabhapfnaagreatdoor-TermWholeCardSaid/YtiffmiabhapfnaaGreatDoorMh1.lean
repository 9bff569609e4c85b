/- Merged by my own program of: TSize, TEvK, TDecl, TEvD, TEvR, TFormed, TermWhole. -/
import Derived.Test.YtiffmiabhapfnaaGreatDoorMg1
import Derived.Test.YtiffmiabhapfnaaGreatDoorMg2
import Derived.Test.YtiffmiabhapfnaaGreatDoorMg5
import Derived.Test.YtiffmiabhapfnaaGreatDoorMg4
import Derived.Test.YtiffmiabhapfnaaGreatDoorMg3
/- corollarylaw05.atom, Rule, Size: how much more there may be. -/
namespace Go.Proofs.YtiffmiabhapfnaaGreatDoor
open Go.RowKit

def szT : List GTold → Int → Int
  | [], l => l
  | t :: ts, l => if l - (1 + (((t.x.size + t.v.s.size) / 50 : Nat) : Int)) < 0 then -1 else szT ts (l - (1 + (((t.x.size + t.v.s.size) / 50 : Nat) : Int)))
def szA (x : GAtom) (l : Int) : Int := szT x.args (l - (1 + ((x.rel.size / 50 : Nat) : Int)))
def szLit (x : GLit) (l : Int) : Int := szE x.r (szE x.l (szA x.atom l))
def szB : List GLit → Int → Int
  | [], l => l
  | x :: xs, l => if l < 0 then -1 else szB xs (szLit x l)
def szR (x : GRule) (l : Int) : Int := szB x.body (szA x.head l)
def szD : List GDecl → Int → Int
  | [], l => l
  | x :: xs, l => if l - (1 + ((x.rel.size / 50 : Nat) : Int) + x.kinds.length) < 0 then -1 else szD xs (l - (1 + ((x.rel.size / 50 : Nat) : Int) + x.kinds.length))
def szRs : List GRule → Int → Int
  | [], l => l
  | x :: xs, l => if szR x (l - 1) < 0 then -1 else szRs xs (szR x (l - 1))
def szP (p : GProg) (l : Int) : Int := if szD p.decls l < 0 then -1 else szRs p.rules (szD p.decls l)

theorem szT_le : ∀ (ts : List GTold) (l : Int), szT ts l ≤ max l (-1)
  | [], l => by rw [szT]; omega
  | t :: ts, l => by
    rw [szT]
    split
    · omega
    · have := szT_le ts (l - (1 + (((t.x.size + t.v.s.size) / 50 : Nat) : Int)))
      omega
theorem szA_le (x : GAtom) (l : Int) : szA x l ≤ max l (-1) := by
  have := szT_le x.args (l - (1 + ((x.rel.size / 50 : Nat) : Int)))
  unfold szA; omega
theorem szE_le2 (e : GExp) (l : Int) : szE e l ≤ max l (-1) := by
  rw [szE_def]
  have := szL_le e.kids (l - (1 + (((e.t.x.size + e.t.v.s.size) / 50 : Nat) : Int)))
  omega
theorem szLit_le (x : GLit) (l : Int) : szLit x l ≤ max l (-1) := by
  have h1 := szA_le x.atom l
  have h2 := szE_le2 x.l (szA x.atom l)
  have h3 := szE_le2 x.r (szE x.l (szA x.atom l))
  unfold szLit; omega
theorem szB_le : ∀ (xs : List GLit) (l : Int), szB xs l ≤ max l (-1)
  | [], l => by rw [szB]; omega
  | x :: xs, l => by
    rw [szB]
    split
    · omega
    · have h1 := szLit_le x l
      have h2 := szB_le xs (szLit x l)
      omega
theorem szR_le (x : GRule) (l : Int) : szR x l ≤ max l (-1) := by
  have h1 := szA_le x.head l
  have h2 := szB_le x.body (szA x.head l)
  unfold szR; omega
theorem szT_ge : ∀ (ts : List GTold) (l : Int), min l (-1) ≤ szT ts l
  | [], l => by rw [szT]; omega
  | t :: ts, l => by
    rw [szT]
    split
    · omega
    · have := szT_ge ts (l - (1 + (((t.x.size + t.v.s.size) / 50 : Nat) : Int)))
      omega
theorem szA_ge (x : GAtom) (l : Int) (h : x.rel.size ≤ reachN) : min (l - 2814749767106) (-1) ≤ szA x l := by
  have := szT_ge x.args (l - (1 + ((x.rel.size / 50 : Nat) : Int)))
  have h2 : x.rel.size ≤ 140737488351232 := h
  unfold szA; omega
theorem szL_ge : ∀ (ks : List GExp) (l : Int), (∀ k ∈ ks, ∀ l : Int, 0 ≤ l → -5629499534051 ≤ szE k l) → min l (-5629499534051) ≤ szL ks l
  | [], l, _ => by rw [szL]; omega
  | k :: ks, l, h => by
    rw [szL]
    split
    · omega
    · have h1 := h k (by simp) l (by omega)
      have h2 := szL_ge ks (szE k l) (fun q hq => h q (by simp [hq]))
      omega
theorem szE_ge : ∀ (d : Nat) (e : GExp) (A : Option Addr) (n c : Nat) (w : World) (B : Nat), SliceIs (Enc.exp d) w B A n c e.kids → e.t.x.size ≤ reachN → e.t.v.s.size ≤ reachN → ∀ l : Int, min (l - 5629499534051) (-5629499534051) ≤ szE e l := by
  intro d
  induction d using Nat.strongRecOn with
  | ind d ih =>
    intro e A n c w B hk hx hv l
    have hx' : e.t.x.size ≤ 140737488351232 := hx
    have hv' : e.t.v.s.size ≤ 140737488351232 := hv
    rw [szE_def]
    have := szL_ge e.kids (l - (1 + (((e.t.x.size + e.t.v.s.size) / 50 : Nat) : Int))) (fun k hk' l hl => by
      obtain ⟨i, hi⟩ := List.mem_iff_getElem?.1 hk'
      have hil : i < n := by rw [← hk.1]; exact (List.getElem?_eq_some_iff.1 hi).1
      obtain ⟨b, o, k', A', n', c', d', -, -, hk2, hd, -, -, -, -, -, -, -, f1, f2, hkk⟩ := hk.exp_at hil
      have e1 : k' = k := by have := hk2.out; rw [hi] at this; injection this with this; exact this.symm
      subst e1
      have := ih d' (by omega) k' A' n' c' w B hkk f1 f2.2.2 l
      omega)
    omega
/-! what is not too large -/
theorem szT_len : ∀ (ts : List GTold) (l : Int), 0 ≤ szT ts l → (ts.length : Int) ≤ l - szT ts l ∧ 0 ≤ l
  | [], l, h => by rw [szT] at h ⊢; simp; exact h
  | t :: ts, l, h => by
    rw [szT] at h ⊢
    split at h
    · omega
    · rename_i hl
      rw [if_neg hl]
      have := szT_len ts _ h
      simp only [List.length_cons]
      omega
theorem szA_len {x : GAtom} {l : Int} (h : 0 ≤ szA x l) : (x.args.length : Int) + 1 ≤ l - szA x l ∧ 1 ≤ l := by
  unfold szA at h ⊢
  have := szT_len _ _ h
  omega
theorem szLit_len {x : GLit} {l : Int} (h : 0 ≤ szLit x l) : (x.atom.args.length : Int) + (leavesE x.l).length + (leavesE x.r).length + 1 ≤ l - szLit x l ∧ 1 ≤ l ∧ (∃ l', 0 ≤ szE x.l l' ∧ l' ≤ l) ∧ ∃ l', 0 ≤ szE x.r l' ∧ l' ≤ l := by
  unfold szLit at h ⊢
  have h1 := szE_pos _ _ h
  have h2 := szE_pos _ _ (by omega : 0 ≤ szE x.l (szA x.atom l))
  have h3 := szA_len (x := x.atom) (l := l) (by omega)
  have h4 := leavesE_len x.l _ (by omega : 0 ≤ szE x.l (szA x.atom l))
  have h5 := leavesE_len x.r _ h
  exact ⟨by omega, h3.2, ⟨szA x.atom l, by omega, by omega⟩, ⟨szE x.l (szA x.atom l), h, by omega⟩⟩
/-- a literal of at most 1500 things -/
structure SmLit (x : GLit) : Prop where
  args : x.atom.args.length ≤ 1500
  l : Sm x.l
  r : Sm x.r
  all : x.atom.args.length + ((leavesE x.l).length + (leavesE x.r).length) ≤ 1500
theorem szB_all : ∀ (xs : List GLit) (l : Int), 0 ≤ szB xs l → l ≤ 1500 → (xs.length : Int) + ((xs.flatMap (fun x => x.atom.args ++ (leavesE x.l ++ leavesE x.r))).length : Int) ≤ l - szB xs l ∧ 0 ≤ l ∧ ∀ x ∈ xs, SmLit x
  | [], l, h, hl => by rw [szB] at h ⊢; exact ⟨by simp, h, fun _ h => by cases h⟩
  | x :: xs, l, h, hl => by
    rw [szB] at h ⊢
    split at h
    · omega
    · rename_i hn
      rw [if_neg hn]
      have h1 := szLit_le x l
      obtain ⟨h2, h3, h4⟩ := szB_all xs _ h (by omega)
      obtain ⟨h5, h6, ⟨l1, h7, h8⟩, ⟨l2, h9, h10⟩⟩ := szLit_len h3
      refine ⟨?_, by omega, fun y hy => ?_⟩
      · simp only [List.length_cons, List.flatMap_cons, List.length_append]
        omega
      · rcases List.mem_cons.1 hy with rfl | hy
        · exact ⟨by omega, Sm.of h7 (by omega), Sm.of h9 (by omega), by omega⟩
        · exact h4 y hy
/-- a rule of at most 1500 things -/
structure SmRule (x : GRule) : Prop where
  args : x.head.args.length ≤ 1500
  body : x.body.length ≤ 1500
  lits : ∀ y ∈ x.body, SmLit y
  all : x.head.args.length + (x.body.flatMap (fun x => x.atom.args ++ (leavesE x.l ++ leavesE x.r))).length ≤ 1500
theorem szR_all {x : GRule} {l : Int} (h : 0 ≤ szR x l) (hl : l ≤ 1500) : SmRule x ∧ 1 ≤ l ∧ szR x l + 1 ≤ l := by
  unfold szR at h ⊢
  have h0 := szA_le x.head l
  obtain ⟨h1, h2, h3⟩ := szB_all _ _ h (by omega)
  have h4 := szA_len h2
  exact ⟨⟨by omega, by omega, h3, by omega⟩, h4.2, by omega⟩
theorem szRs_all : ∀ (xs : List GRule) (l : Int), 0 ≤ szRs xs l → l ≤ 1500 → (xs.length : Int) ≤ l - szRs xs l ∧ ∀ x ∈ xs, SmRule x
  | [], l, h, hl => ⟨by rw [szRs]; simp, fun _ h => by cases h⟩
  | x :: xs, l, h, hl => by
    rw [szRs] at h ⊢
    split at h
    · omega
    · rename_i hn
      rw [if_neg hn]
      obtain ⟨h1, h2, h3⟩ := szR_all (x := x) (l := l - 1) (by omega) (by omega)
      obtain ⟨h4, h5⟩ := szRs_all xs _ h (by omega)
      refine ⟨by simp only [List.length_cons]; omega, fun y hy => ?_⟩
      rcases List.mem_cons.1 hy with rfl | hy
      · exact h1
      · exact h5 y hy
theorem szD_all : ∀ (xs : List GDecl) (l : Int), 0 ≤ szD xs l → (xs.length : Int) ≤ l - szD xs l ∧ 0 ≤ l ∧ ∀ x ∈ xs, (x.kinds.length : Int) ≤ l
  | [], l, h => by rw [szD] at h ⊢; exact ⟨by simp, h, fun _ h => by cases h⟩
  | x :: xs, l, h => by
    rw [szD] at h ⊢
    split at h
    · omega
    · rename_i hn
      rw [if_neg hn]
      obtain ⟨h1, h2, h3⟩ := szD_all xs _ h
      refine ⟨by simp only [List.length_cons]; omega, by omega, fun y hy => ?_⟩
      rcases List.mem_cons.1 hy with rfl | hy
      · omega
      · have := h3 y hy; omega
/-- a program of at most 1500 things -/
structure SmProg (p : GProg) : Prop where
  decls : p.decls.length ≤ 1500
  kinds : ∀ x ∈ p.decls, x.kinds.length ≤ 1500
  rules : p.rules.length ≤ 1500
  each : ∀ x ∈ p.rules, SmRule x
theorem szP_all {p : GProg} (h : 0 ≤ szP p 1500) : SmProg p := by
  unfold szP at h
  split at h
  · omega
  · rename_i hn
    obtain ⟨h1, h2, h3⟩ := szD_all p.decls 1500 (by omega)
    obtain ⟨h4, h5⟩ := szRs_all p.rules _ h (by omega)
    exact ⟨by omega, fun x hx => by have := h3 x hx; omega, by omega, h5⟩

abbrev atomC (x : GAtom) (a : Hd) : List Value := [.string x.rel, a.v]
set_option maxRecDepth 100000 in
set_option maxHeartbeats 2000000 in
theorem szAtom_any (x : GAtom) (a : Hd) (left : Int) (w : World) (hk : SliceIs Enc.told w w.heap.size a.A a.n a.c x.args) (hx : x.rel.size ≤ reachN) (h0 : -100000000000000 ≤ left) (h1 : left ≤ 100000) :
    Calls Tryz.prog 50 #[.agg (atomC x a).toArray, .int .i64 left] w (RetInt (szA x left) w) := by
  have hn := hk.bound
  have HK := Lib.hid hk
  have Hlen := Lib.hid hk.1
  obtain ⟨R, HR⟩ : ∃ R, Hid (R = szA x left) := ⟨_, rfl⟩
  rw [← HR.out]
  have hx' : x.rel.size ≤ 140737488351232 := hx
  obtain ⟨c0, hc0, hc1⟩ : ∃ c0 : Nat, (x.rel.size : Int).tdiv 50 = (c0 : Int) ∧ c0 = x.rel.size / 50 := ⟨x.rel.size / 50, by rw [Int.tdiv_eq_ediv_of_nonneg (by omega)]; omega, rfl⟩
  have HR2 : Hid (R = szT (x.args.drop 0) (left - (1 + (c0 : Int)))) := by show _ = _; rw [HR.out, hc1]; rfl
  have hc2 : c0 ≤ 2814749767025 := by omega
  have hrb : (w.alloc (.cells (atomC x a).toArray 53)).heap[w.heap.size]? = some (.cells (atomC x a).toArray 53 (0, 0)) := heapNew rfl
  obtain ⟨b0, b1⟩ := facts2 hrb
  have hb0 : Below w.heap.size w (w.alloc (.cells (atomC x a).toArray 53)) := belowA (Below.refl _ _) _
  obtain ⟨A, n, c⟩ := a
  simp only [Hd.v] at *
  clear hk hrb hc1 HR
  go_enter Tryz.func50, Tryz.ntmps50
  go_wp2_with fail
  go_loopw [1, 6, 17] (fun lv _ i wr => ∃ (j : Nat) (l : Int), j ≤ n ∧ i = .int .i64 j ∧ lv = .int .i64 l ∧ -1000000000000000 ≤ l ∧ l ≤ 100000 ∧ Hid (R = szT (x.args.drop j) l) ∧ (0 < j → 0 ≤ l) ∧ Below w.heap.size w wr) (fun _ _ i _ => n - (intOf i).toNat)
  case atStart => exact ⟨0, left - (1 + (c0 : Int)), by omega, rfl, by go_num, by omega, by omega, HR2, by omega, hb0⟩
  case round =>
    obtain ⟨j, l, hj, rfl, rfl, hl0, hl, HRj, hjl, hbr⟩ := hrel
    have i0 : (0 : Int) ≤ (j : Int) := by omega
    by_cases hlt : j < n
    · have i1 : (j : Int) < (n : Int) := by omega
      obtain ⟨b, o, t, rfl, hb, ht, x0, x1, x2, x3, f1, f2⟩ := (HK.out.below hbr).told_at hlt
      have hs1 : t.x.size ≤ 140737488351232 := f1
      have hs2 : t.v.s.size ≤ 140737488351232 := f2.2.2
      obtain ⟨c1, hc1, hc2'⟩ : ∃ c1 : Nat, ((t.x.size : Int) + (t.v.s.size : Int)).tdiv 50 = (c1 : Int) ∧ c1 = (t.x.size + t.v.s.size) / 50 := ⟨(t.x.size + t.v.s.size) / 50, by rw [Int.tdiv_eq_ediv_of_nonneg (by omega)]; omega, rfl⟩
      have HRk : Hid (R = if l - (1 + (c1 : Int)) < 0 then -1 else szT (x.args.drop (j + 1)) (l - (1 + (c1 : Int)))) := by
        show _ = _
        rw [HRj.out]
        obtain ⟨g1, g2⟩ := List.getElem?_eq_some_iff.1 ht.out
        rw [List.drop_eq_getElem_cons g1, g2, szT, hc2']
      have hc3 : c1 ≤ 5629499534050 := by omega
      have hba : Below w.heap.size w (wr.alloc (.cells (GTold.cells t).toArray 26)) := belowA hbr _
      clear HRj ht hc2'
      by_cases hneg : l - (1 + (c1 : Int)) < 0
      · have HR1 : Hid (R = -1) := by show _ = _; rw [HRk.out, if_pos hneg]
        clear HRk
        go_wp2_with fail
        go_ret
        exact ⟨by rw [HR1.out]; rfl, hba⟩
      · have HR1 : Hid (R = szT (x.args.drop (j + 1)) (l - (1 + (c1 : Int)))) := by show _ = _; rw [HRk.out, if_neg hneg]
        clear HRk
        go_wp2_with fail
        go_roundw
        case rel => exact ⟨j + 1, l - (1 + (c1 : Int)), by omega, by go_num, by go_num, by omega, by omega, HR1, by omega, hba⟩
        case measure => simp [intOf]; omega
    · have i1 : ¬ (j : Int) < (n : Int) := by omega
      have HR1 : Hid (R = l) := by
        show _ = _
        rw [HRj.out, List.drop_eq_nil_of_le (by have := Hlen.out; omega), szT]
      clear HRj
      go_wp2_with fail
      go_ret
      exact ⟨by rw [HR1.out]; rfl, hbr⟩

theorem range_off {w : World} {g o : Nat} {T : TypeId} {cs cs' : List Value} (h : w.heap[g]? = some (.cells cs.toArray T (0, 0))) (hc : (cs.drop o).take cs'.length = cs') : w.rangeAt g o cs' := fun j v hj => by
  rw [cell_of_row _ _ _ _ _ _ h]
  rw [← hc, List.getElem?_take] at hj
  split at hj
  · rw [List.getElem?_drop] at hj; simpa using hj
  · cases hj
theorem exp_size (e : GExp) (A : Option Addr) (n c : Nat) : (Tryz.prog.info? 29).map (·.size) = some (expC e A n c).length := by
  show _ = some 6
  kernel_rfl
theorem atom_size (x : GAtom) (a : Hd) : (Tryz.prog.info? 53).map (·.size) = some (atomC x a).length := by
  show _ = some 2
  kernel_rfl
def szF (x : GLit) (a p q : Hd) (l : Int) (g : Nat) (i : Nat) (v : Value) (_W : World) : Prop := match i with
  | 0 => v = .pointer (some ⟨g, 10, none⟩)
  | 1 => v = .agg (expC x.r q.A q.n q.c).toArray
  | 2 => v = .pointer (some ⟨g, 4, none⟩)
  | 3 => v = .agg (expC x.l p.A p.n p.c).toArray
  | 4 => v = .pointer (some ⟨g, 1, none⟩)
  | 5 => v = .agg (atomC x.atom a).toArray
  | 6 => v = .int .i64 l
  | 7 => v = .int .i64 (szA x.atom l)
  | 8 => v = .int .i64 (szE x.l (szA x.atom l))
  | 9 => v = .int .i64 (szLit x l)
  | _ => True
/-- 'x = x' as an operation -/
theorem op_assign {P : Program} {o : Oper} {a : Act} {w : World} {K : Act → World → Prop} {Q : Exit → Act → World → Prop} (x : Operand) (ho : o.op = .assign x ∨ o.op = .move x) (v : Value) (hx : a.eval x = v) (hk : K (a.put o.dst v) w) : o.wp P a w K Q := by
  refine op_val v ?_ hk
  unfold execOp
  rcases ho with ho | ho <;> simp [ho, hx]

set_option maxRecDepth 100000 in
set_option maxHeartbeats 4000000 in
theorem szRule_any (d : Nat) (x : GRule) (a b : Hd) (left : Int) (w : World) (hk : RuleAt d w w.heap.size x a b) (h0 : -100000000000 ≤ left) (h1 : left ≤ 100000) :
    Calls Tryz.prog 29 #[.agg (ruleC x a b).toArray, .int .i64 left] w (RetInt (szR x left) w) := by
  have mixed : Tryz.prog.follows .mixedOrders = true := by kernel_rfl
  have hn := hk.body.bound
  have HK := Lib.hid hk
  have Hlen := Lib.hid hk.body.1
  obtain ⟨R, HR⟩ : ∃ R, Hid (R = szR x left) := ⟨_, rfl⟩
  rw [← HR.out]
  have hrb : (w.alloc (.cells (ruleC x a b).toArray 56)).heap[w.heap.size]? = some (.cells (ruleC x a b).toArray 56 (0, 0)) := heapNew rfl
  obtain ⟨b0, b1, b2, b3, b4, b5⟩ := facts6 hrb
  have hb0 : Below w.heap.size w (w.alloc (.cells (ruleC x a b).toArray 56)) := belowA (Below.refl _ _) _
  have HA := Lib.hid (szAtom_any x.head a left _ (hk.args.mono' hb0.size (Kept.of hb0.block)) hk.rel (by omega) h1)
  have hR0 : Hid (R = szB (x.body.drop 0) (szA x.head left)) := by show _ = _; rw [HR.out]; rfl
  have hle := szA_le x.head left
  have hge : -1000000000000000 ≤ szA x.head left := by
    have h2 : x.head.rel.size ≤ 140737488351232 := hk.rel
    unfold szA
    cases hh : x.head.args with
    | nil => rw [szT]; omega
    | cons t ts => have := (show ∀ (ts : List GTold) (l : Int), -1000000000000000 ≤ l → -1000000000000000 ≤ szT ts l from fun ts => by
        induction ts with
        | nil => intro l h; rw [szT]; exact h
        | cons t ts ih => intro l h; rw [szT]; split; omega; exact ih _ (by omega)) (t :: ts) (left - (1 + ((x.head.rel.size / 50 : Nat) : Int))) (by omega)
                   exact this
  generalize szA x.head left = l0 at *
  clear hk hrb HR
  go_enter Tryz.func29, Tryz.ntmps29
  go_wp2_with fail
  refine HA.out.mono ?_
  rintro r w1 ⟨rfl, hb1⟩
  have hrb1 := (hb1.block w.heap.size (by simp)).trans (heapNew (w := w) (o := .cells (ruleC x a b).toArray 56) rfl)
  obtain ⟨c0, c1, c2, c3, c4, c5⟩ := facts6 hrb1
  have hbw1 := below_next hb0 hb1
  clear hrb1 HA hb1 hb0 b0 b1 b2 b3 b4 b5
  go_wp2_with fail
  obtain ⟨A, n, c⟩ := b
  simp only [Hd.v] at *
  go_loopw [1, 6, 14] (fun lv _ i wr => ∃ (j : Nat) (l : Int), j ≤ n ∧ i = .int .i64 j ∧ lv = .int .i64 l ∧ -1000000000000000 ≤ l ∧ l ≤ 100000 ∧ Hid (R = szB (x.body.drop j) l) ∧ Below w.heap.size w wr) (fun _ _ i _ => n - (intOf i).toNat)
  case atStart => exact ⟨0, l0, by omega, rfl, rfl, hge, by omega, hR0, hbw1⟩
  case round =>
    obtain ⟨j, l, hj, rfl, rfl, hl0, hl, HRj, hbr⟩ := hrel
    have i0 : (0 : Int) ≤ (j : Int) := by omega
    by_cases hlt : j < n
    · have i1 : (j : Int) < (n : Int) := by omega
      obtain ⟨b, o, y, a', p, q, hA, hb, hy, hl1, hr⟩ := (HK.out.keep hbr).body.lit_range hlt
      simp only at hA
      subst hA
      have HRk : Hid (R = if l < 0 then -1 else szB (x.body.drop (j + 1)) (szLit y l)) := by
        show _ = _
        rw [HRj.out]
        obtain ⟨g1, g2⟩ := List.getElem?_eq_some_iff.1 hy.out
        rw [List.drop_eq_getElem_cons g1, g2, szB]
      have hba : Below wr.heap.size wr (wr.alloc (.cells (litC y a' p q).toArray 63)) := belowA (Below.refl _ _) _
      have hgx : (wr.alloc (.cells (litC y a' p q).toArray 63)).heap[wr.heap.size]? = some (.cells (litC y a' p q).toArray 63 (0, 0)) := heapNew rfl
      have HGx := Lib.hid hgx
      have HBa := Lib.hid hba
      have HL1 := Lib.hid (hl1.keep hba)
      clear HRj hy hba hgx hl1
      by_cases hneg : l < 0
      · have HR1 : Hid (R = -1) := by show _ = _; rw [HRk.out, if_pos hneg]
        clear HRk
        go_wp2_with (first
          | refine wpList_load_mid rfl 63 (.tmp 16) rfl b (o + j * 17) rfl (litC y a' p q) _ hr.out Tryz.underlying63 rfl (lit_size y a' p q) ?_
          | refine wpList_new rfl rfl 63 6 (.tmp 17) rfl rfl rfl rfl _ (litC y a' p q).toArray lit_info rfl (lit_one y a' p q) rfl rfl ?_)
        go_ret
        exact ⟨by rw [HR1.out]; rfl, below_next hbr HBa.out⟩
      · have HR1 : Hid (R = szB (x.body.drop (j + 1)) (szLit y l)) := by show _ = _; rw [HRk.out, if_neg hneg]
        clear HRk
        go_wp2_with (first
          | refine wpList_load_mid rfl 63 (.tmp 16) rfl b (o + j * 17) rfl (litC y a' p q) _ hr.out Tryz.underlying63 rfl (lit_size y a' p q) ?_
          | refine wpList_new rfl rfl 63 6 (.tmp 17) rfl rfl rfl rfl _ (litC y a' p q).toArray lit_info rfl (lit_one y a' p q) rfl rfl ?_)
        have hA0 := szA_ge y.atom l HL1.out.rel
        have hA1 := szA_le y.atom l
        have hE0 := szE_ge d y.l p.A p.n p.c _ _ HL1.out.lk HL1.out.lx HL1.out.lv.2.2 (szA y.atom l)
        have hE1 := szE_le2 y.l (szA y.atom l)
        have hF0 := szE_ge d y.r q.A q.n q.c _ _ HL1.out.rk HL1.out.rx HL1.out.rv.2.2 (szE y.l (szA y.atom l))
        have hF1 := szE_le2 y.r (szE y.l (szA y.atom l))
        have q1 : y.l.t.x.size ≤ 140737488351232 := HL1.out.lx
        have q2 : y.l.t.v.s.size ≤ 140737488351232 := HL1.out.lv.2.2
        have q3 : y.r.t.x.size ≤ 140737488351232 := HL1.out.rx
        have q4 : y.r.t.v.s.size ≤ 140737488351232 := HL1.out.rv.2.2
        have C1 := Lib.hid (fun (W : World) (h : Below (wr.alloc (.cells (litC y a' p q).toArray 63)).heap.size (wr.alloc (.cells (litC y a' p q).toArray 63)) W) => szAtom_any y.atom a' l W ((HL1.out.keep h).args) HL1.out.rel (by omega) hl)
        have C2 := Lib.hid (fun (W : World) (h : Below (wr.alloc (.cells (litC y a' p q).toArray 63)).heap.size (wr.alloc (.cells (litC y a' p q).toArray 63)) W) => exp_any d y.l p.A p.n p.c (szA y.atom l) W ((HL1.out.keep h).lk) q1 q2 (by omega) (by omega))
        have C3 := Lib.hid (fun (W : World) (h : Below (wr.alloc (.cells (litC y a' p q).toArray 63)).heap.size (wr.alloc (.cells (litC y a' p q).toArray 63)) W) => exp_any d y.r q.A q.n q.c (szE y.l (szA y.atom l)) W ((HL1.out.keep h).rk) q3 q4 (by omega) (by omega))
        have hS0 : -1000000000000000 ≤ szLit y l := by unfold szLit; omega
        have hS1 : szLit y l ≤ 100000 := by unfold szLit; omega
        have hbS : Below w.heap.size w (wr.alloc (.cells (litC y a' p q).toArray 63)) := below_next hbr HBa.out
        clear hA0 hA1 hE0 hE1 hF0 hF1
        generalize hwx : wr.alloc (.cells (litC y a' p q).toArray 63) = wx at *
        refine drawn2 mixed 10 32 [20, 21, 22, 23, 24, 25, 26, 27, 28, 29] (fun _ W => Below wx.heap.size wx W) (szF y a' p q l wr.heap.size) (fun _ W W' => Below W.heap.size W W') rfl (by kernel_rfl) (by kernel_rfl) rfl (fun j _ => below_drewN _ 1 _) (fun i j v W W' _ _ _ h _ => by unfold szF at h ⊢; exact h) (fun _ _ _ _ _ _ _ _ h h' => below_next h h') ?_ ?_
        · intro i o2 a2 W hi ho hd hold hG _ hw
          have hr6 : a2.tmps[6]? = some (.pointer (some ⟨wr.heap.size, 0, none⟩)) := hold 6 (by kernel_rfl)
          have hr1 : a2.tmps[1]? = some (.int .i64 l) := hold 1 (by kernel_rfl)
          have hgW := (hG.block _ (Array.getElem?_eq_some_iff.1 HGx.out).1).trans HGx.out
          clear hold
          match i, hi, ho with
          | 0, _, ho =>
            injection ho with ho; subst ho
            exact op_val _ (by simp [execOp, Act.eval, hr6, go_sem]) ⟨_, rfl, Below.refl _ _, rfl⟩
          | 1, _, ho =>
            injection ho with ho; subst ho
            obtain ⟨v0, h0, e0⟩ := hw 0 20 (by kernel_rfl)
            obtain rfl : v0 = _ := e0
            exact wp_load_mid 29 (.tmp 20) rfl _ _ (eval_tmp h0) (expC y.r q.A q.n q.c) _ (range_off hgW rfl) Tryz.underlying29 rfl (exp_size _ _ _ _) ⟨_, rfl, Below.refl _ _, rfl⟩
          | 2, _, ho =>
            injection ho with ho; subst ho
            exact op_val _ (by simp [execOp, Act.eval, hr6, go_sem]) ⟨_, rfl, Below.refl _ _, rfl⟩
          | 3, _, ho =>
            injection ho with ho; subst ho
            obtain ⟨v0, h0, e0⟩ := hw 2 22 (by kernel_rfl)
            obtain rfl : v0 = _ := e0
            exact wp_load_mid 29 (.tmp 22) rfl _ _ (eval_tmp h0) (expC y.l p.A p.n p.c) _ (range_off hgW rfl) Tryz.underlying29 rfl (exp_size _ _ _ _) ⟨_, rfl, Below.refl _ _, rfl⟩
          | 4, _, ho =>
            injection ho with ho; subst ho
            exact op_val _ (by simp [execOp, Act.eval, hr6, go_sem]) ⟨_, rfl, Below.refl _ _, rfl⟩
          | 5, _, ho =>
            injection ho with ho; subst ho
            obtain ⟨v0, h0, e0⟩ := hw 4 24 (by kernel_rfl)
            obtain rfl : v0 = _ := e0
            exact wp_load_mid 53 (.tmp 24) rfl _ _ (eval_tmp h0) (atomC y.atom a') _ (range_off hgW rfl) Tryz.underlying53 rfl (atom_size _ _) ⟨_, rfl, Below.refl _ _, rfl⟩
          | 6, _, ho =>
            injection ho with ho; subst ho
            exact op_assign (.tmp 1) (.inr rfl) _ (eval_tmp hr1) ⟨_, rfl, Below.refl _ _, rfl⟩
          | 7, _, ho =>
            injection ho with ho; subst ho
            obtain ⟨v0, h0, e0⟩ := hw 5 25 (by kernel_rfl)
            obtain ⟨v1, h1, e1⟩ := hw 6 26 (by kernel_rfl)
            obtain rfl : v0 = _ := e0
            obtain rfl : v1 = _ := e1
            refine op_call 50 _ rfl rfl #[.agg (atomC y.atom a').toArray, .int .i64 l] (by simp [Act.eval, h0, h1]) _ Tryz.func50 (by kernel_rfl) (by kernel_rfl) ((C1.out W hG).mono ?_)
            rintro r w' ⟨rfl, hb⟩
            exact ⟨_, rfl, _, rfl, hb, rfl⟩
          | 8, _, ho =>
            injection ho with ho; subst ho
            obtain ⟨v0, h0, e0⟩ := hw 3 23 (by kernel_rfl)
            obtain ⟨v1, h1, e1⟩ := hw 7 27 (by kernel_rfl)
            obtain rfl : v0 = _ := e0
            obtain rfl : v1 = _ := e1
            refine op_call 7 _ rfl rfl #[expV y.l p.A p.n p.c, .int .i64 (szA y.atom l)] (by simp [Act.eval, h0, h1]) _ Tryz.func7 (by kernel_rfl) (by kernel_rfl) ((C2.out W hG).mono ?_)
            rintro r w' ⟨rfl, hb⟩
            exact ⟨_, rfl, _, rfl, hb, rfl⟩
          | 9, _, ho =>
            injection ho with ho; subst ho
            obtain ⟨v0, h0, e0⟩ := hw 1 21 (by kernel_rfl)
            obtain ⟨v1, h1, e1⟩ := hw 8 28 (by kernel_rfl)
            obtain rfl : v0 = _ := e0
            obtain rfl : v1 = _ := e1
            refine op_call 7 _ rfl rfl #[expV y.r q.A q.n q.c, .int .i64 (szE y.l (szA y.atom l))] (by simp [Act.eval, h0, h1]) _ Tryz.func7 (by kernel_rfl) (by kernel_rfl) ((C3.out W hG).mono ?_)
            rintro r w' ⟨rfl, hb⟩
            exact ⟨_, rfl, _, rfl, hb, rfl⟩
          | n + 10, hi, _ => omega
        · intro o2 u W ho hG hw
          have e0 := hw 9 29 (by decide) (by kernel_rfl)
          have hbn := below_next hbS hG
          injection ho with ho; subst ho
          simp only [List.foldl_cons, List.foldl_nil, Act.put, List.setIfInBounds_toArray, List.set_cons_zero, List.set_cons_succ]
          rw [show u 29 = Value.int .i64 (szLit y l) from e0]
          refine op_assign (.tmp 29) (.inl rfl) _ rfl ?_
          clear hw e0 C1 C2 C3 HK HL1 HGx HBa
          go_wp2_with fail
          go_roundw
          case rel => exact ⟨j + 1, szLit y l, by omega, by go_num, rfl, hS0, hS1, HR1, hbn⟩
          case measure => simp [intOf]; omega
    · have i1 : ¬ (j : Int) < (n : Int) := by omega
      have HR1 : Hid (R = l) := by
        show _ = _
        rw [HRj.out, List.drop_eq_nil_of_le (by have := Hlen.out; omega), szB]
      clear HRj
      go_wp2_with fail
      go_ret
      exact ⟨by rw [HR1.out]; rfl, hbr⟩

theorem szB_ge (d : Nat) : ∀ (xs : List GLit) (l : Int), (∀ y ∈ xs, ∀ l : Int, 0 ≤ l → -100000000000000 ≤ szLit y l) → min l (-100000000000000) ≤ szB xs l
  | [], l, _ => by rw [szB]; omega
  | x :: xs, l, h => by
    rw [szB]
    split
    · omega
    · have h1 := h x (by simp) l (by omega)
      have h2 := szB_ge d xs (szLit x l) (fun q hq => h q (by simp [hq]))
      omega
theorem szLit_ge {d : Nat} {w : World} {B : Nat} {y : GLit} {a p q : Hd} (h : LitAt d w B y a p q) (l : Int) (hl : 0 ≤ l) : -100000000000000 ≤ szLit y l := by
  have hA0 := szA_ge y.atom l h.rel
  have hE0 := szE_ge d y.l p.A p.n p.c _ _ h.lk h.lx h.lv.2.2 (szA y.atom l)
  have hF0 := szE_ge d y.r q.A q.n q.c _ _ h.rk h.rx h.rv.2.2 (szE y.l (szA y.atom l))
  unfold szLit
  omega
theorem szR_ge {d : Nat} {w : World} {B : Nat} {x : GRule} {a b : Hd} (h : RuleAt d w B x a b) (l : Int) (hl : -1 ≤ l) : -100000000000000 ≤ szR x l := by
  have hA0 := szA_ge x.head l h.rel
  have := szB_ge d x.body (szA x.head l) (fun y hy l hl => by
    obtain ⟨i, hi⟩ := List.mem_iff_getElem?.1 hy
    have hil : i < b.n := by rw [← h.body.1]; exact (List.getElem?_eq_some_iff.1 hi).1
    obtain ⟨bb, o, y', a', p', q', -, -, hy', hl1, -⟩ := h.body.lit_at hil
    have e1 : y' = y := by have := hy'.out; rw [hi] at this; injection this with this; exact this.symm
    subst e1
    exact szLit_ge hl1 l hl)
  unfold szR
  omega
abbrev progC (a b : Hd) : List Value := [a.v, b.v]
set_option maxRecDepth 100000 in
set_option maxHeartbeats 4000000 in
theorem size_any (d : Nat) (x : GProg) (a b : Hd) (w : World) (hk : ProgAt d w w.heap.size x a b) : Calls Tryz.prog 13 #[.agg (progC a b).toArray, .int .i64 1500] w (fun r w' => ∃ R : Int, r = .returned (.int .i64 R) ∧ (0 ≤ R ↔ 0 ≤ szP x 1500) ∧ Below w.heap.size w w') := by
  have hn := hk.decls.bound
  have hm := hk.rules.bound
  have HK := Lib.hid hk
  have Hlen := Lib.hid hk.decls.1
  have Hlen2 := Lib.hid hk.rules.1
  obtain ⟨P, HP⟩ : ∃ P : Ending → World → Prop, Hid (P = (fun r w' => ∃ R : Int, r = .returned (.int .i64 R) ∧ (0 ≤ R ↔ 0 ≤ szP x 1500) ∧ Below w.heap.size w w')) := ⟨_, rfl⟩
  rw [← HP.out]
  have hrb : (w.alloc (.cells (progC a b).toArray 48)).heap[w.heap.size]? = some (.cells (progC a b).toArray 48 (0, 0)) := heapNew rfl
  obtain ⟨b0, b1⟩ := facts2 hrb
  have hb0 : Below w.heap.size w (w.alloc (.cells (progC a b).toArray 48)) := belowA (Below.refl _ _) _
  obtain ⟨A, n, c⟩ := a
  obtain ⟨A2, m, c2⟩ := b
  simp only [Hd.v] at *
  have HRb := Lib.hid hrb
  clear hk hrb
  go_enter Tryz.func13, Tryz.ntmps13
  go_wp2_with fail
  go_loopw [1, 6, 12] (fun lv _ i wr => ∃ (j : Nat) (l : Int), j ≤ n ∧ i = .int .i64 j ∧ lv = .int .i64 l ∧ 0 ≤ l ∧ l ≤ 1500 ∧ Hid (szD x.decls 1500 = szD (x.decls.drop j) l) ∧ Hid (wr.heap[w.heap.size]? = some (.cells (progC ⟨A, n, c⟩ ⟨A2, m, c2⟩).toArray 48 (0, 0))) ∧ Below w.heap.size w wr) (fun _ _ i _ => n - (intOf i).toNat)
  case atStart => exact ⟨0, 1500, by omega, rfl, rfl, by omega, by omega, rfl, HRb, hb0⟩
  case round =>
    obtain ⟨j, l, hj, rfl, rfl, hl0, hl, HRj, Hg, hbr⟩ := hrel
    have i0 : (0 : Int) ≤ (j : Int) := by omega
    by_cases hlt : j < n
    · have i1 : (j : Int) < (n : Int) := by omega
      obtain ⟨bb, o, y, aa, hA, hb, hy, hat, y0, y1, y2⟩ := (HK.out.keep hbr).decls.decl_at hlt
      simp only at hA
      subst hA
      have hs1 : y.rel.size ≤ 140737488351232 := hat.rel
      have hs2 := hat.kinds.bound
      have hs3 := hat.kinds.1
      obtain ⟨c1, hc1, hc2'⟩ : ∃ c1 : Nat, (y.rel.size : Int).tdiv 50 = (c1 : Int) ∧ c1 = y.rel.size / 50 := ⟨y.rel.size / 50, by rw [Int.tdiv_eq_ediv_of_nonneg (by omega)]; omega, rfl⟩
      have HRk : Hid (szD x.decls 1500 = if l - (1 + (c1 : Int) + (aa.n : Int)) < 0 then -1 else szD (x.decls.drop (j + 1)) (l - (1 + (c1 : Int) + (aa.n : Int)))) := by
        show _ = _
        rw [HRj.out]
        obtain ⟨g1, g2⟩ := List.getElem?_eq_some_iff.1 hy.out
        rw [List.drop_eq_getElem_cons g1, g2, szD, hc2', hs3]
      have hc3 : c1 ≤ 5629499534050 := by omega
      have hba : Below wr.heap.size wr (wr.alloc (.cells (declC y aa).toArray 89)) := belowA (Below.refl _ _) _
      have hbw := below_next hbr hba
      have Hg2 : Hid ((wr.alloc (.cells (declC y aa).toArray 89)).heap[w.heap.size]? = some (.cells (progC ⟨some ⟨bb, o, none⟩, n, c⟩ ⟨A2, m, c2⟩).toArray 48 (0, 0))) := heapOld Hg.out
      obtain ⟨Aa, na, ca⟩ := aa
      simp only [Hd.v] at *
      clear HRj hy hc2' hat hs3 hba
      by_cases hneg : l - (1 + (c1 : Int) + (na : Int)) < 0
      · have hpost : P (.returned (.int .i64 (-1))) (wr.alloc (.cells (declC y ⟨Aa, na, ca⟩).toArray 89)) := by
          rw [HP.out]
          refine ⟨-1, rfl, ?_, hbw⟩
          have h9 := HRk.out
          rw [if_pos hneg] at h9
          unfold szP
          rw [h9]
          simp
        have HPo := Lib.hid hpost
        clear HRk hpost
        go_wp2_with fail
        first | exact HPo.out | (go_ret; exact HPo.out)
      · have HR1 : Hid (szD x.decls 1500 = szD (x.decls.drop (j + 1)) (l - (1 + (c1 : Int) + (na : Int)))) := by show _ = _; rw [HRk.out, if_neg hneg]
        clear HRk
        go_wp2_with fail
        go_roundw
        case rel => exact ⟨j + 1, l - (1 + (c1 : Int) + (na : Int)), by omega, by go_num, by go_num, by omega, by omega, HR1, Hg2, hbw⟩
        case measure => simp [intOf]; omega
    · have i1 : ¬ (j : Int) < (n : Int) := by omega
      have hD : Hid (szD x.decls 1500 = l) := by
        show _ = _
        rw [HRj.out, List.drop_eq_nil_of_le (by have := Hlen.out; omega), szD]
      have hP0 : Hid (szP x 1500 = szRs (x.rules.drop 0) l) := by
        show _ = _
        unfold szP
        rw [hD.out, if_neg (by omega)]
        rfl
      obtain ⟨c0, c1⟩ := facts2 Hg.out
      dsimp only [Hd.v] at c0 c1
      clear HRj
      go_wp2_with fail
      go_loopw [1, 8, 33] (fun lv _ i wr => ∃ (j : Nat) (l : Int), j ≤ m ∧ i = .int .i64 j ∧ lv = .int .i64 l ∧ 0 ≤ l ∧ l ≤ 1500 ∧ Hid (szP x 1500 = szRs (x.rules.drop j) l) ∧ Below w.heap.size w wr) (fun _ _ i _ => m - (intOf i).toNat)
      case atStart => exact ⟨0, l, by omega, rfl, rfl, hl0, hl, hP0, hbr⟩
      case round =>
        clear hP0 hD hl0 hl
        obtain ⟨j2, l2, hj2, rfl, rfl, hl0, hl, HRj, hbr2⟩ := hrel
        have k0 : (0 : Int) ≤ (j2 : Int) := by omega
        by_cases hlt2 : j2 < m
        · have k1 : (j2 : Int) < (m : Int) := by omega
          obtain ⟨bb, o, y, aa, mm, hA, hb, hy, hat, y0, y1, y2, y3, y4, y5⟩ := (HK.out.keep hbr2).rules.rule_at hlt2
          simp only at hA
          subst hA
          have HRk : Hid (szP x 1500 = if szR y (l2 - 1) < 0 then -1 else szRs (x.rules.drop (j2 + 1)) (szR y (l2 - 1))) := by
            show _ = _
            rw [HRj.out]
            obtain ⟨g1, g2⟩ := List.getElem?_eq_some_iff.1 hy.out
            rw [List.drop_eq_getElem_cons g1, g2, szRs]
          have hba : Below wr.heap.size wr (wr.alloc (.cells (ruleC y aa mm).toArray 56)) := belowA (Below.refl _ _) _
          have HC := Lib.hid (szRule_any d y aa mm (l2 - 1) (wr.alloc (.cells (ruleC y aa mm).toArray 56)) (hat.keep hba) (by omega) (by omega))
          have hbw := below_next hbr2 hba
          have hle := szR_le y (l2 - 1)
          have hge := szR_ge hat (l2 - 1) (by omega)
          generalize szR y (l2 - 1) = l3 at *
          clear HRj hy hba hat
          go_wp2_with fail
          refine HC.out.mono ?_
          rintro r w2 ⟨rfl, hb2⟩
          have hbn := below_next hbw hb2
          clear HC hb2 hbw
          by_cases hneg : l3 < 0
          · have hpost : P (.returned (.int .i64 (-1))) w2 := by
              rw [HP.out]
              refine ⟨-1, rfl, ?_, hbn⟩
              have h9 := HRk.out
              rw [if_pos hneg] at h9
              rw [h9]
            have HPo := Lib.hid hpost
            clear HRk hpost
            go_wp2_with fail
            first | exact HPo.out | (go_ret; exact HPo.out)
          · have HR1 : Hid (szP x 1500 = szRs (x.rules.drop (j2 + 1)) l3) := by show _ = _; rw [HRk.out, if_neg hneg]
            clear HRk
            go_wp2_with fail
            go_roundw
            case rel => exact ⟨j2 + 1, l3, by omega, by go_num, rfl, by omega, by omega, HR1, hbn⟩
            case measure => simp [intOf]; omega
        · have k1 : ¬ (j2 : Int) < (m : Int) := by omega
          have hpost : P (.returned (.int .i64 l2)) wr := by
            rw [HP.out]
            refine ⟨l2, rfl, ?_, hbr2⟩
            rw [HRj.out, List.drop_eq_nil_of_le (by have := Hlen2.out; omega), szRs]
          have HPo := Lib.hid hpost
          clear HRj hpost
          go_wp2_with fail
          first | exact HPo.out | (go_ret; exact HPo.out)
end Go.Proofs.YtiffmiabhapfnaaGreatDoor

/- term.every over a list of kinds. -/
namespace Go.Proofs.YtiffmiabhapfnaaGreatDoor
open Go.RowKit

def kindB (k : Int) : Bool := decide (k = 1) || decide (k = 2)
set_option maxRecDepth 100000 in
theorem kind_any (k : Int) (w : World) : Calls Tryz.prog 53 #[.int .i64 k] w (RetBool (kindB k) w) := by
  by_cases h1 : k = 1
  · subst h1
    go_enter Tryz.func53, Tryz.ntmps53
    go_wp2
    go_ret
    exact ⟨rfl, Below.refl _ _⟩
  · have e1 : (k == 1) = false := by simp [h1]
    have HB : Hid (kindB k = (k == 2)) := by show _ = _; simp [kindB, h1]; rw [Bool.eq_iff_iff]; simp
    clear h1
    go_enter Tryz.func53, Tryz.ntmps53
    go_wp2
    go_ret
    exact ⟨by rw [HB.out]; rfl, Below.refl _ _⟩

set_option maxRecDepth 100000 in
set_option maxHeartbeats 1000000 in
theorem ev1K_any (x : Int) (g : Nat) (w : World) (hg : w.cell? ⟨g, 0, none⟩ = some (.func (.func 53) #[] #[])) (HC : Hid (∀ W, Below w.heap.size w W → Calls Tryz.prog 53 #[.int .i64 x] W (RetBool (kindB x) W))) :
    Calls Tryz.prog 82 #[.int .i64 x, .pointer (some ⟨g, 0, none⟩)] w (RetBool (!kindB x) w) := by
  have cg := hg
  clear hg
  generalize kindB x = B at *
  go_enter Tryz.func82, Tryz.ntmps82
  go_wp2_with fail
  refine (HC.out _ (by first | exact Below.refl _ _ | exact belowA (Below.refl _ _) _)).mono ?_
  rintro e w1 ⟨rfl, hb⟩
  have Hb := Lib.hid hb
  clear hb
  go_wp2_with fail
  go_ret
  exact ⟨rfl, Hb.out⟩

set_option maxRecDepth 100000 in
set_option maxHeartbeats 1000000 in
theorem evIK_any (A : Option Addr) (n c : Nat) (l : List Int) (g : Nat) (w : World) (hl : SliceIs Enc.int w w.heap.size A n c l) (hg : w.cell? ⟨g, 0, none⟩ = some (.func (.func 53) #[] #[]))
    (HC : Hid (∀ (x : Int) W, fits x → Below w.heap.size w W → Calls Tryz.prog 53 #[.int .i64 x] W (RetBool (kindB x) W))) :
    Calls Tryz.prog 104 #[.slice A n c, .func (.func 82) #[] #[.pointer (some ⟨g, 0, none⟩)]] w (fun e w' => ∃ k : Int, e = .returned (.int .i64 k) ∧ decide (0 ≤ k) = !(l.all kindB) ∧ Below w.heap.size w w') := by
  have hn := hl.bound
  have HL := Lib.hid hl
  have hlen := Lib.hid hl.1
  have Hg := Lib.hid hg
  clear hl hg
  go_enter Tryz.func104, Tryz.ntmps104
  go_wp2_with fail
  go_loopw [5, 8] (fun _ i wr => ∃ k : Nat, k ≤ n ∧ i = .int .i64 k ∧ Hid ((l.take k).all kindB = true) ∧ Below w.heap.size w wr) (fun _ i _ => n - (intOf i).toNat)
  case atStart => exact ⟨0, by omega, rfl, by simp [Hid], Below.refl _ _⟩
  case round =>
    obtain ⟨k, hk, rfl, hpre, hbr⟩ := hrel
    by_cases hlt : k < n
    · have HLr := (HL.out.below hbr)
      obtain ⟨b, o, x, rfl, hbb, hx, z0, f0⟩ := HLr.int_at hlt
      have hokx : fits x := f0
      have C := Lib.hid (ev1K_any x g wr (below_cell hbr Hg.out) (fun W hW => HC.out x W (hokx) (below_next hbr hW)))
      have i0 : (0 : Int) ≤ (k : Int) := by omega
      have i1 : (k : Int) < (n : Int) := by omega
      have HT : Hid ((l.take (k + 1)).all kindB = kindB x) := by
        show _ = _
        obtain ⟨g1, g2⟩ := List.getElem?_eq_some_iff.1 hx.out
        rw [List.take_succ_eq_append_getElem g1, g2, List.all_append, hpre.out]; simp
      have HF : Hid (kindB x = false → l.all kindB = false) := fun h => by
        rw [List.all_eq_false]
        exact ⟨x, List.mem_of_getElem? hx.out, by simp [h]⟩
      clear HLr hokx
      generalize kindB x = B at *
      cases B with
      | true =>
        clear HF
        go_wp2_with fail
        refine C.out.mono ?_
        rintro e w1 ⟨rfl, hb⟩
        have Hb := Lib.hid hb
        clear hb
        go_wp2_with fail
        go_roundw
        case rel => exact ⟨k + 1, by omega, by go_num, HT, below_next hbr Hb.out⟩
        case measure => simp [intOf]; omega
      | false =>
        have HF' : Hid (l.all kindB = false) := HF.out rfl
        clear HF
        go_wp2_with fail
        refine C.out.mono ?_
        rintro e w1 ⟨rfl, hb⟩
        have Hb := Lib.hid hb
        clear hb
        go_wp2_with fail
        go_ret
        exact ⟨_, rfl, by rw [HF'.out]; simp, below_next hbr Hb.out⟩
    · have i1 : ¬ (k : Int) < (n : Int) := by omega
      have HA : Hid (l.all kindB = true) := by
        show _ = _
        have h := hpre.out
        rw [List.take_of_length_le (by have := hlen.out; omega)] at h
        exact h
      go_wp2_with fail
      go_ret
      exact ⟨_, rfl, by rw [HA.out]; rfl, hbr⟩

set_option maxRecDepth 100000 in
set_option maxHeartbeats 1000000 in
theorem everyK_any (A : Option Addr) (n c : Nat) (l : List Int) (w : World) (hl : SliceIs Enc.int w w.heap.size A n c l)
    (HC : Hid (∀ (x : Int) W, fits x → Below w.heap.size w W → Calls Tryz.prog 53 #[.int .i64 x] W (RetBool (kindB x) W))) :
    Calls Tryz.prog 55 #[.slice A n c, .func (.func 53) #[] #[]] w (RetBool (l.all kindB) w) := by
  have hba : Below w.heap.size w (w.alloc (.cells #[.func (.func 53) #[] #[]] 121)) := belowA (Below.refl _ _) _
  have C := Lib.hid (evIK_any A n c l w.heap.size (w.alloc (.cells #[.func (.func 53) #[] #[]] 121)) (hl.keep hba) ((cell_of_row _ _ 0 _ _ _ (heapNew rfl)).trans rfl) (fun x W h hW => HC.out x W h (below_next hba hW)))
  generalize l.all kindB = B at *
  clear hl HC
  have CC : Hid (Calls Tryz.prog 81 #[.slice A n c, .func (.func 82) #[] #[.pointer (some ⟨w.heap.size, 0, none⟩)]] (w.alloc (.cells #[.func (.func 53) #[] #[]] 121)) (RetBool (!B) (w.alloc (.cells #[.func (.func 53) #[] #[]] 121)))) := by
    show Calls _ _ _ _ _
    generalize w.alloc (.cells #[.func (.func 53) #[] #[]] 121) = wb at *
    go_enter Tryz.func81, Tryz.ntmps81
    go_wp2_with fail
    refine C.out.mono ?_
    rintro e w1 ⟨k, rfl, hk, hb⟩
    have Hb := Lib.hid hb
    have Hk := Lib.hid hk
    clear hb hk
    go_wp2_with fail
    go_ret
    exact ⟨by rw [← Hk.out]; rfl, Hb.out⟩
  clear C
  go_enter Tryz.func55, Tryz.ntmps55
  go_wp2_with fail
  refine CC.out.mono ?_
  rintro e w1 ⟨rfl, hb⟩
  have Hb := Lib.hid hb
  clear hb CC
  go_wp2_with fail
  go_ret
  exact ⟨by cases B <;> rfl, below_next hba Hb.out⟩
end Go.Proofs.YtiffmiabhapfnaaGreatDoor

/- term.declared. -/
namespace Go.Proofs.YtiffmiabhapfnaaGreatDoor
open Go.RowKit

def declB (x : GDecl) : Bool := singleB 2 x.rel && (decide (x.kinds.length ≤ 6) && x.kinds.all kindB)
set_option maxRecDepth 100000 in
set_option maxHeartbeats 2000000 in
theorem declared_any (x : GDecl) (a : Hd) (w : World) (h : DeclAt w w.heap.size x a) (hW : LexW w) : Calls Tryz.prog 31 #[.agg #[.string x.rel, a.v, .int .i64 x.pos]] w (RetBool (declB x) w) := by
  obtain ⟨B, HB⟩ : ∃ B, Hid (B = declB x) := ⟨_, rfl⟩
  rw [← HB.out]
  have hrb : (w.alloc (.cells #[.string x.rel, a.v, .int .i64 x.pos] 89)).heap[w.heap.size]? = some (.cells #[.string x.rel, a.v, .int .i64 x.pos] 89 (0, 0)) := heapNew rfl
  have hba : Below w.heap.size w (w.alloc (.cells #[.string x.rel, a.v, .int .i64 x.pos] 89)) := belowA (Below.refl _ _) _
  have hn := h.kinds.bound
  have Hlen := Lib.hid h.kinds.1
  have HH := Lib.hid (h.keep hba)
  have HW := Lib.hid (hW.on hba)
  clear h hW
  obtain ⟨P1, HP1⟩ : ∃ E, Hid (E = singleB 2 x.rel) := ⟨_, rfl⟩
  obtain ⟨P2, HP2⟩ : ∃ E, Hid (E = x.kinds.all kindB) := ⟨_, rfl⟩
  have HE : Hid (B = (P1 && (decide (x.kinds.length ≤ 6) && P2))) := by show _ = _; rw [HB.out, HP1.out, HP2.out]; rfl
  have Hrow : Hid (∀ W, Below (w.alloc (.cells #[.string x.rel, a.v, .int .i64 x.pos] 89)).heap.size (w.alloc (.cells #[.string x.rel, a.v, .int .i64 x.pos] 89)) W → W.heap[w.heap.size]? = some (.cells #[.string x.rel, a.v, .int .i64 x.pos] 89 (0, 0))) := fun W h => (h.block _ (Array.getElem?_eq_some_iff.1 hrb).1).trans hrb
  obtain ⟨f0_0, f0_1, f0_2⟩ := facts3 hrb
  have C1 : Hid (∀ W, Below (w.alloc (.cells #[.string x.rel, a.v, .int .i64 x.pos] 89)).heap.size (w.alloc (.cells #[.string x.rel, a.v, .int .i64 x.pos] 89)) W → Calls Tryz.prog 54 #[.string x.rel] W (RetBool P1 W)) := fun W h => by rw [HP1.out]; exact named_any x.rel HH.out.rel W (HW.out.on h)
  have C2 : Hid (∀ W, Below (w.alloc (.cells #[.string x.rel, a.v, .int .i64 x.pos] 89)).heap.size (w.alloc (.cells #[.string x.rel, a.v, .int .i64 x.pos] 89)) W → Calls Tryz.prog 55 #[a.v, .func (.func 53) #[] #[]] W (RetBool P2 W)) := fun W h => by
    rw [HP2.out]
    exact everyK_any a.A a.n a.c x.kinds W (HH.out.kinds.keep h) (fun y W' hy h' => kind_any y W')
  clear hrb HB HP1 HP2 HH HW
  by_cases h8 : a.n ≤ 6
  · have z8 : (a.n : Int) ≤ 6 := by omega
    have HE2 : Hid (B = (P1 && P2)) := by show _ = _; rw [HE.out, decide_eq_true (by rw [Hlen.out]; exact h8)]; rfl
    clear HE Hlen h8
    generalize hwb : (w.alloc (.cells #[.string x.rel, a.v, .int .i64 x.pos] 89)) = wb at *
    have Hbw0 := Lib.hid (Below.refl wb.heap.size wb)
    go_enter Tryz.func31, Tryz.ntmps31
    go_wp2_with fail
    try simp only [hwb]
    go_wp2_with fail
    refine (C1.out _ Hbw0.out).mono ?_
    rintro e1 w1 ⟨rfl, hq1⟩
    have Hbw1 := Lib.hid (below_next Hbw0.out hq1)
    obtain ⟨f1_0, f1_1, f1_2⟩ := facts3 (Hrow.out _ Hbw1.out)
    clear hq1 f0_0 f0_1 f0_2
    cases P1 with
    | false =>
      go_wp2_with fail
      go_ret
      exact ⟨by rw [HE2.out]; rfl, below_next hba Hbw1.out⟩
    | true =>
      go_wp2_with fail
      refine (C2.out _ Hbw1.out).mono ?_
      rintro e2 w2 ⟨rfl, hq2⟩
      have Hbw2 := Lib.hid (below_next Hbw1.out hq2)
      obtain ⟨f2_0, f2_1, f2_2⟩ := facts3 (Hrow.out _ Hbw2.out)
      clear hq2 f1_0 f1_1 f1_2
      cases P2 <;>
      · go_wp2_with fail
        go_ret
        exact ⟨by rw [HE2.out]; rfl, below_next hba Hbw2.out⟩
  · have z8 : ¬ (a.n : Int) ≤ 6 := by omega
    have HE2 : Hid (B = false) := by show _ = _; rw [HE.out, decide_eq_false (by rw [Hlen.out]; exact h8)]; simp
    clear HE Hlen h8 C2
    generalize hwb : (w.alloc (.cells #[.string x.rel, a.v, .int .i64 x.pos] 89)) = wb at *
    have Hbw0 := Lib.hid (Below.refl wb.heap.size wb)
    go_enter Tryz.func31, Tryz.ntmps31
    go_wp2_with fail
    try simp only [hwb]
    go_wp2_with fail
    refine (C1.out _ Hbw0.out).mono ?_
    rintro e1 w1 ⟨rfl, hq1⟩
    have Hbw1 := Lib.hid (below_next Hbw0.out hq1)
    obtain ⟨f1_0, f1_1, f1_2⟩ := facts3 (Hrow.out _ Hbw1.out)
    clear hq1 f0_0 f0_1 f0_2
    cases P1 <;>
    · go_wp2_with fail
      go_ret
      exact ⟨by rw [HE2.out]; rfl, below_next hba Hbw1.out⟩
end Go.Proofs.YtiffmiabhapfnaaGreatDoor

/- term.every over a list of declarations. -/
namespace Go.Proofs.YtiffmiabhapfnaaGreatDoor
open Go.RowKit

set_option maxRecDepth 100000 in
set_option maxHeartbeats 1000000 in
theorem ev1D_any (x : GDecl) (a : Hd) (g : Nat) (w : World) (hg : w.cell? ⟨g, 0, none⟩ = some (.func (.func 31) #[] #[])) (HC : Hid (∀ W, Below w.heap.size w W → Calls Tryz.prog 31 #[.agg #[.string x.rel, a.v, .int .i64 x.pos]] W (RetBool (declB x) W))) :
    Calls Tryz.prog 52 #[.agg #[.string x.rel, a.v, .int .i64 x.pos], .pointer (some ⟨g, 0, none⟩)] w (RetBool (!declB x) w) := by
  have hrb : (w.alloc (.cells #[.string x.rel, a.v, .int .i64 x.pos] 89)).heap[w.heap.size]? = some (.cells #[.string x.rel, a.v, .int .i64 x.pos] 89 (0, 0)) := heapNew rfl
  obtain ⟨b0, b1, b2⟩ := facts3 hrb
  have cg : (w.alloc (.cells #[.string x.rel, a.v, .int .i64 x.pos] 89)).cell? ⟨g, 0, none⟩ = some (.func (.func 31) #[] #[]) := cellA hg
  clear hrb hg
  generalize declB x = B at *
  go_enter Tryz.func52, Tryz.ntmps52
  go_wp2_with fail
  refine (HC.out _ (by first | exact Below.refl _ _ | exact belowA (Below.refl _ _) _)).mono ?_
  rintro e w1 ⟨rfl, hb⟩
  have Hb := Lib.hid hb
  clear hb
  go_wp2_with fail
  go_ret
  exact ⟨rfl, below_next (belowA (Below.refl _ _) _) Hb.out⟩

set_option maxRecDepth 100000 in
set_option maxHeartbeats 1000000 in
theorem evID_any (A : Option Addr) (n c : Nat) (l : List GDecl) (g : Nat) (w : World) (hl : SliceIs Enc.decl w w.heap.size A n c l) (hg : w.cell? ⟨g, 0, none⟩ = some (.func (.func 31) #[] #[]))
    (HC : Hid (∀ (x : GDecl) (a : Hd) W, DeclAt W W.heap.size x a → Below w.heap.size w W → Calls Tryz.prog 31 #[.agg #[.string x.rel, a.v, .int .i64 x.pos]] W (RetBool (declB x) W))) :
    Calls Tryz.prog 80 #[.slice A n c, .func (.func 52) #[] #[.pointer (some ⟨g, 0, none⟩)]] w (fun e w' => ∃ k : Int, e = .returned (.int .i64 k) ∧ decide (0 ≤ k) = !(l.all declB) ∧ Below w.heap.size w w') := by
  have hn := hl.bound
  have HL := Lib.hid hl
  have hlen := Lib.hid hl.1
  have Hg := Lib.hid hg
  clear hl hg
  go_enter Tryz.func80, Tryz.ntmps80
  go_wp2_with fail
  go_loopw [5, 8] (fun _ i wr => ∃ k : Nat, k ≤ n ∧ i = .int .i64 k ∧ Hid ((l.take k).all declB = true) ∧ Below w.heap.size w wr) (fun _ i _ => n - (intOf i).toNat)
  case atStart => exact ⟨0, by omega, rfl, by simp [Hid], Below.refl _ _⟩
  case round =>
    obtain ⟨k, hk, rfl, hpre, hbr⟩ := hrel
    by_cases hlt : k < n
    · have HLr := (HL.out.below hbr)
      obtain ⟨b, o, x, a, rfl, hbb, hx, hat, z0, z1, z2⟩ := HLr.decl_at hlt
      have hokx : DeclAt wr wr.heap.size x a := hat.mono' hbr.size (Kept.of fun _ _ => rfl)
      have C := Lib.hid (ev1D_any x a g wr (below_cell hbr Hg.out) (fun W hW => HC.out x a W (hokx.keep hW) (below_next hbr hW)))
      have i0 : (0 : Int) ≤ (k : Int) := by omega
      have i1 : (k : Int) < (n : Int) := by omega
      have HT : Hid ((l.take (k + 1)).all declB = declB x) := by
        show _ = _
        obtain ⟨g1, g2⟩ := List.getElem?_eq_some_iff.1 hx.out
        rw [List.take_succ_eq_append_getElem g1, g2, List.all_append, hpre.out]; simp
      have HF : Hid (declB x = false → l.all declB = false) := fun h => by
        rw [List.all_eq_false]
        exact ⟨x, List.mem_of_getElem? hx.out, by simp [h]⟩
      clear HLr hokx
      generalize declB x = B at *
      cases B with
      | true =>
        clear HF
        go_wp2_with fail
        refine C.out.mono ?_
        rintro e w1 ⟨rfl, hb⟩
        have Hb := Lib.hid hb
        clear hb
        go_wp2_with fail
        go_roundw
        case rel => exact ⟨k + 1, by omega, by go_num, HT, below_next hbr Hb.out⟩
        case measure => simp [intOf]; omega
      | false =>
        have HF' : Hid (l.all declB = false) := HF.out rfl
        clear HF
        go_wp2_with fail
        refine C.out.mono ?_
        rintro e w1 ⟨rfl, hb⟩
        have Hb := Lib.hid hb
        clear hb
        go_wp2_with fail
        go_ret
        exact ⟨_, rfl, by rw [HF'.out]; simp, below_next hbr Hb.out⟩
    · have i1 : ¬ (k : Int) < (n : Int) := by omega
      have HA : Hid (l.all declB = true) := by
        show _ = _
        have h := hpre.out
        rw [List.take_of_length_le (by have := hlen.out; omega)] at h
        exact h
      go_wp2_with fail
      go_ret
      exact ⟨_, rfl, by rw [HA.out]; rfl, hbr⟩

set_option maxRecDepth 100000 in
set_option maxHeartbeats 1000000 in
theorem everyD_any (A : Option Addr) (n c : Nat) (l : List GDecl) (w : World) (hl : SliceIs Enc.decl w w.heap.size A n c l)
    (HC : Hid (∀ (x : GDecl) (a : Hd) W, DeclAt W W.heap.size x a → Below w.heap.size w W → Calls Tryz.prog 31 #[.agg #[.string x.rel, a.v, .int .i64 x.pos]] W (RetBool (declB x) W))) :
    Calls Tryz.prog 30 #[.slice A n c, .func (.func 31) #[] #[]] w (RetBool (l.all declB) w) := by
  have hba : Below w.heap.size w (w.alloc (.cells #[.func (.func 31) #[] #[]] 92)) := belowA (Below.refl _ _) _
  have C := Lib.hid (evID_any A n c l w.heap.size (w.alloc (.cells #[.func (.func 31) #[] #[]] 92)) (hl.keep hba) ((cell_of_row _ _ 0 _ _ _ (heapNew rfl)).trans rfl) (fun x a W h hW => HC.out x a W h (below_next hba hW)))
  generalize l.all declB = B at *
  clear hl HC
  have CC : Hid (Calls Tryz.prog 51 #[.slice A n c, .func (.func 52) #[] #[.pointer (some ⟨w.heap.size, 0, none⟩)]] (w.alloc (.cells #[.func (.func 31) #[] #[]] 92)) (RetBool (!B) (w.alloc (.cells #[.func (.func 31) #[] #[]] 92)))) := by
    show Calls _ _ _ _ _
    generalize w.alloc (.cells #[.func (.func 31) #[] #[]] 92) = wb at *
    go_enter Tryz.func51, Tryz.ntmps51
    go_wp2_with fail
    refine C.out.mono ?_
    rintro e w1 ⟨k, rfl, hk, hb⟩
    have Hb := Lib.hid hb
    have Hk := Lib.hid hk
    clear hb hk
    go_wp2_with fail
    go_ret
    exact ⟨by rw [← Hk.out]; rfl, Hb.out⟩
  clear C
  go_enter Tryz.func30, Tryz.ntmps30
  go_wp2_with fail
  refine CC.out.mono ?_
  rintro e w1 ⟨rfl, hb⟩
  have Hb := Lib.hid hb
  clear hb CC
  go_wp2_with fail
  go_ret
  exact ⟨by cases B <;> rfl, below_next hba Hb.out⟩
end Go.Proofs.YtiffmiabhapfnaaGreatDoor

/- term.every over a list of rules. -/
namespace Go.Proofs.YtiffmiabhapfnaaGreatDoor
open Go.RowKit

set_option maxRecDepth 100000 in
set_option maxHeartbeats 1000000 in
theorem ev1R_any (x : GRule) (a m : Hd) (g : Nat) (w : World) (hg : w.cell? ⟨g, 0, none⟩ = some (.func (.func 15) #[] #[])) (HC : Hid (∀ W, Below w.heap.size w W → Calls Tryz.prog 15 #[.agg #[.string x.head.rel, a.v, .int .i64 x.agg, .int .i64 x.col, m.v, .int .i64 x.pos]] W (RetBool (rightRule x) W))) :
    Calls Tryz.prog 57 #[.agg #[.string x.head.rel, a.v, .int .i64 x.agg, .int .i64 x.col, m.v, .int .i64 x.pos], .pointer (some ⟨g, 0, none⟩)] w (RetBool (!rightRule x) w) := by
  have hrb : (w.alloc (.cells #[.string x.head.rel, a.v, .int .i64 x.agg, .int .i64 x.col, m.v, .int .i64 x.pos] 56)).heap[w.heap.size]? = some (.cells #[.string x.head.rel, a.v, .int .i64 x.agg, .int .i64 x.col, m.v, .int .i64 x.pos] 56 (0, 0)) := heapNew rfl
  obtain ⟨b0, b1, b2, b3, b4, b5⟩ := facts6 hrb
  have cg : (w.alloc (.cells #[.string x.head.rel, a.v, .int .i64 x.agg, .int .i64 x.col, m.v, .int .i64 x.pos] 56)).cell? ⟨g, 0, none⟩ = some (.func (.func 15) #[] #[]) := cellA hg
  clear hrb hg
  generalize rightRule x = B at *
  go_enter Tryz.func57, Tryz.ntmps57
  go_wp2_with fail
  refine (HC.out _ (by first | exact Below.refl _ _ | exact belowA (Below.refl _ _) _)).mono ?_
  rintro e w1 ⟨rfl, hb⟩
  have Hb := Lib.hid hb
  clear hb
  go_wp2_with fail
  go_ret
  exact ⟨rfl, below_next (belowA (Below.refl _ _) _) Hb.out⟩

set_option maxRecDepth 100000 in
set_option maxHeartbeats 1000000 in
theorem evIR_any (d : Nat) (A : Option Addr) (n c : Nat) (l : List GRule) (g : Nat) (w : World) (hl : SliceIs (Enc.rule d) w w.heap.size A n c l) (hg : w.cell? ⟨g, 0, none⟩ = some (.func (.func 15) #[] #[]))
    (HC : Hid (∀ (x : GRule) (a m : Hd) W, RuleAt d W W.heap.size x a m → Below w.heap.size w W → Calls Tryz.prog 15 #[.agg #[.string x.head.rel, a.v, .int .i64 x.agg, .int .i64 x.col, m.v, .int .i64 x.pos]] W (RetBool (rightRule x) W))) :
    Calls Tryz.prog 83 #[.slice A n c, .func (.func 57) #[] #[.pointer (some ⟨g, 0, none⟩)]] w (fun e w' => ∃ k : Int, e = .returned (.int .i64 k) ∧ decide (0 ≤ k) = !(l.all rightRule) ∧ Below w.heap.size w w') := by
  have hn := hl.bound
  have HL := Lib.hid hl
  have hlen := Lib.hid hl.1
  have Hg := Lib.hid hg
  clear hl hg
  go_enter Tryz.func83, Tryz.ntmps83
  go_wp2_with fail
  go_loopw [5, 8] (fun _ i wr => ∃ k : Nat, k ≤ n ∧ i = .int .i64 k ∧ Hid ((l.take k).all rightRule = true) ∧ Below w.heap.size w wr) (fun _ i _ => n - (intOf i).toNat)
  case atStart => exact ⟨0, by omega, rfl, by simp [Hid], Below.refl _ _⟩
  case round =>
    obtain ⟨k, hk, rfl, hpre, hbr⟩ := hrel
    by_cases hlt : k < n
    · have HLr := (HL.out.below hbr)
      obtain ⟨b, o, x, a, m, rfl, hbb, hx, hat, z0, z1, z2, z3, z4, z5⟩ := HLr.rule_at hlt
      have hokx : RuleAt d wr wr.heap.size x a m := hat.mono' hbr.size (Kept.of fun _ _ => rfl)
      have C := Lib.hid (ev1R_any x a m g wr (below_cell hbr Hg.out) (fun W hW => HC.out x a m W (hokx.keep hW) (below_next hbr hW)))
      have i0 : (0 : Int) ≤ (k : Int) := by omega
      have i1 : (k : Int) < (n : Int) := by omega
      have HT : Hid ((l.take (k + 1)).all rightRule = rightRule x) := by
        show _ = _
        obtain ⟨g1, g2⟩ := List.getElem?_eq_some_iff.1 hx.out
        rw [List.take_succ_eq_append_getElem g1, g2, List.all_append, hpre.out]; simp
      have HF : Hid (rightRule x = false → l.all rightRule = false) := fun h => by
        rw [List.all_eq_false]
        exact ⟨x, List.mem_of_getElem? hx.out, by simp [h]⟩
      clear HLr hokx
      generalize rightRule x = B at *
      cases B with
      | true =>
        clear HF
        go_wp2_with fail
        refine C.out.mono ?_
        rintro e w1 ⟨rfl, hb⟩
        have Hb := Lib.hid hb
        clear hb
        go_wp2_with fail
        go_roundw
        case rel => exact ⟨k + 1, by omega, by go_num, HT, below_next hbr Hb.out⟩
        case measure => simp [intOf]; omega
      | false =>
        have HF' : Hid (l.all rightRule = false) := HF.out rfl
        clear HF
        go_wp2_with fail
        refine C.out.mono ?_
        rintro e w1 ⟨rfl, hb⟩
        have Hb := Lib.hid hb
        clear hb
        go_wp2_with fail
        go_ret
        exact ⟨_, rfl, by rw [HF'.out]; simp, below_next hbr Hb.out⟩
    · have i1 : ¬ (k : Int) < (n : Int) := by omega
      have HA : Hid (l.all rightRule = true) := by
        show _ = _
        have h := hpre.out
        rw [List.take_of_length_le (by have := hlen.out; omega)] at h
        exact h
      go_wp2_with fail
      go_ret
      exact ⟨_, rfl, by rw [HA.out]; rfl, hbr⟩

set_option maxRecDepth 100000 in
set_option maxHeartbeats 1000000 in
theorem everyR_any (d : Nat) (A : Option Addr) (n c : Nat) (l : List GRule) (w : World) (hl : SliceIs (Enc.rule d) w w.heap.size A n c l)
    (HC : Hid (∀ (x : GRule) (a m : Hd) W, RuleAt d W W.heap.size x a m → Below w.heap.size w W → Calls Tryz.prog 15 #[.agg #[.string x.head.rel, a.v, .int .i64 x.agg, .int .i64 x.col, m.v, .int .i64 x.pos]] W (RetBool (rightRule x) W))) :
    Calls Tryz.prog 32 #[.slice A n c, .func (.func 15) #[] #[]] w (RetBool (l.all rightRule) w) := by
  have hba : Below w.heap.size w (w.alloc (.cells #[.func (.func 15) #[] #[]] 57)) := belowA (Below.refl _ _) _
  have C := Lib.hid (evIR_any d A n c l w.heap.size (w.alloc (.cells #[.func (.func 15) #[] #[]] 57)) (hl.keep hba) ((cell_of_row _ _ 0 _ _ _ (heapNew rfl)).trans rfl) (fun x a m W h hW => HC.out x a m W h (below_next hba hW)))
  generalize l.all rightRule = B at *
  clear hl HC
  have CC : Hid (Calls Tryz.prog 56 #[.slice A n c, .func (.func 57) #[] #[.pointer (some ⟨w.heap.size, 0, none⟩)]] (w.alloc (.cells #[.func (.func 15) #[] #[]] 57)) (RetBool (!B) (w.alloc (.cells #[.func (.func 15) #[] #[]] 57)))) := by
    show Calls _ _ _ _ _
    generalize w.alloc (.cells #[.func (.func 15) #[] #[]] 57) = wb at *
    go_enter Tryz.func56, Tryz.ntmps56
    go_wp2_with fail
    refine C.out.mono ?_
    rintro e w1 ⟨k, rfl, hk, hb⟩
    have Hb := Lib.hid hb
    have Hk := Lib.hid hk
    clear hb hk
    go_wp2_with fail
    go_ret
    exact ⟨by rw [← Hk.out]; rfl, Hb.out⟩
  clear C
  go_enter Tryz.func32, Tryz.ntmps32
  go_wp2_with fail
  refine CC.out.mono ?_
  rintro e w1 ⟨rfl, hb⟩
  have Hb := Lib.hid hb
  clear hb CC
  go_wp2_with fail
  go_ret
  exact ⟨by cases B <;> rfl, below_next hba Hb.out⟩
end Go.Proofs.YtiffmiabhapfnaaGreatDoor

/- term.Formed. -/
namespace Go.Proofs.YtiffmiabhapfnaaGreatDoor
open Go.RowKit

def formedB (x : GProg) : Bool := (decide (x.decls.length ≤ 32) && decide (x.rules.length ≤ 64)) && (x.decls.all declB && x.rules.all rightRule)
set_option maxRecDepth 100000 in
set_option maxHeartbeats 2000000 in
theorem formed_any (d : Nat) (x : GProg) (a b : Hd) (w : World) (h : ProgAt d w w.heap.size x a b) (hW : LexW w) : Calls Tryz.prog 14 #[.agg #[a.v, b.v]] w (RetBool (formedB x) w) := by
  obtain ⟨B, HB⟩ : ∃ B, Hid (B = formedB x) := ⟨_, rfl⟩
  rw [← HB.out]
  have hrb : (w.alloc (.cells #[a.v, b.v] 48)).heap[w.heap.size]? = some (.cells #[a.v, b.v] 48 (0, 0)) := heapNew rfl
  have hba : Below w.heap.size w (w.alloc (.cells #[a.v, b.v] 48)) := belowA (Below.refl _ _) _
  have hna := h.decls.bound
  have hnb := h.rules.bound
  have Hla := Lib.hid h.decls.1
  have Hlb := Lib.hid h.rules.1
  have HH := Lib.hid (h.keep hba)
  have HW := Lib.hid (hW.on hba)
  clear h hW
  obtain ⟨P1, HP1⟩ : ∃ E, Hid (E = x.decls.all declB) := ⟨_, rfl⟩
  obtain ⟨P2, HP2⟩ : ∃ E, Hid (E = x.rules.all rightRule) := ⟨_, rfl⟩
  have HE : Hid (B = ((decide (x.decls.length ≤ 32) && decide (x.rules.length ≤ 64)) && (P1 && P2))) := by show _ = _; rw [HB.out, HP1.out, HP2.out]; rfl
  have Hrow : Hid (∀ W, Below (w.alloc (.cells #[a.v, b.v] 48)).heap.size (w.alloc (.cells #[a.v, b.v] 48)) W → W.heap[w.heap.size]? = some (.cells #[a.v, b.v] 48 (0, 0))) := fun W h => (h.block _ (Array.getElem?_eq_some_iff.1 hrb).1).trans hrb
  obtain ⟨f0_0, f0_1⟩ := facts2 hrb
  have C1 : Hid (∀ W, Below (w.alloc (.cells #[a.v, b.v] 48)).heap.size (w.alloc (.cells #[a.v, b.v] 48)) W → Calls Tryz.prog 30 #[a.v, .func (.func 31) #[] #[]] W (RetBool P1 W)) := fun W h => by
    rw [HP1.out]
    exact everyD_any a.A a.n a.c x.decls W (HH.out.decls.keep h) (fun y a W' hy h' => declared_any y a W' hy ((HW.out.on h).on h'))
  have C2 : Hid (∀ W, Below (w.alloc (.cells #[a.v, b.v] 48)).heap.size (w.alloc (.cells #[a.v, b.v] 48)) W → Calls Tryz.prog 32 #[b.v, .func (.func 15) #[] #[]] W (RetBool P2 W)) := fun W h => by
    rw [HP2.out]
    exact everyR_any d b.A b.n b.c x.rules W (HH.out.rules.keep h) (fun y a m W' hy h' => rightRule_any d y a m W' hy ((HW.out.on h).on h'))
  clear hrb HB HP1 HP2 HH HW
  by_cases h1 : a.n ≤ 32
  rotate_left
  · have z1 : ¬ (a.n : Int) ≤ 32 := by omega
    have HE2 : Hid (B = false) := by show _ = _; rw [HE.out, decide_eq_false (by rw [Hla.out]; exact h1)]; rfl
    clear HE Hla Hlb h1 C1 C2
    go_enter Tryz.func14, Tryz.ntmps14
    go_wp2_with fail
    go_ret
    exact ⟨by rw [HE2.out]; rfl, hba⟩
  have z1 : (a.n : Int) ≤ 32 := by omega
  by_cases h2 : b.n ≤ 64
  rotate_left
  · have z2 : ¬ (b.n : Int) ≤ 64 := by omega
    have HE2 : Hid (B = false) := by show _ = _; rw [HE.out, decide_eq_false (show ¬ x.rules.length ≤ 64 by rw [Hlb.out]; exact h2)]; simp
    clear HE Hla Hlb h1 h2 C1 C2
    go_enter Tryz.func14, Tryz.ntmps14
    go_wp2_with fail
    go_ret
    exact ⟨by rw [HE2.out]; rfl, hba⟩
  have z2 : (b.n : Int) ≤ 64 := by omega
  have HE2 : Hid (B = (P1 && P2)) := by show _ = _; rw [HE.out, decide_eq_true (show x.decls.length ≤ 32 by rw [Hla.out]; exact h1), decide_eq_true (show x.rules.length ≤ 64 by rw [Hlb.out]; exact h2)]; rfl
  clear HE Hla Hlb h1 h2
  generalize hwb : (w.alloc (.cells #[a.v, b.v] 48)) = wb at *
  have Hbw0 := Lib.hid (Below.refl wb.heap.size wb)
  go_enter Tryz.func14, Tryz.ntmps14
  go_wp2_with fail
  try simp only [hwb]
  go_wp2_with fail
  refine (C1.out _ Hbw0.out).mono ?_
  rintro e1 w1 ⟨rfl, hq1⟩
  have Hbw1 := Lib.hid (below_next Hbw0.out hq1)
  obtain ⟨f1_0, f1_1⟩ := facts2 (Hrow.out _ Hbw1.out)
  clear hq1 f0_0 f0_1
  cases P1 with
  | false =>
    go_wp2_with fail
    go_ret
    exact ⟨by rw [HE2.out]; rfl, below_next hba Hbw1.out⟩
  | true =>
    go_wp2_with fail
    refine (C2.out _ Hbw1.out).mono ?_
    rintro e2 w2 ⟨rfl, hq2⟩
    have Hbw2 := Lib.hid (below_next Hbw1.out hq2)
    obtain ⟨f2_0, f2_1⟩ := facts2 (Hrow.out _ Hbw2.out)
    clear hq2 f1_0 f1_1
    cases P2 <;>
    · go_wp2_with fail
      go_ret
      exact ⟨by rw [HE2.out]; rfl, below_next hba Hbw2.out⟩
end Go.Proofs.YtiffmiabhapfnaaGreatDoor

/- TermWhole: the walk. -/
namespace Go.Proofs.YtiffmiabhapfnaaGreatDoor
open Go.RowKit

theorem put1_mem {acc : List ByteArray} {t : GTold} {s : ByteArray} : s ∈ put1 acc t ↔ s ∈ acc ∨ (t.x = s ∧ t.x.toList.isEmpty = false) := by
  unfold put1
  cases he : t.x.toList.isEmpty
  · simp only [Bool.false_or, and_true]
    by_cases hm : t.x ∈ acc
    · simp only [hm, decide_true, if_true]
      constructor
      · exact .inl
      · rintro (h | rfl)
        · exact h
        · exact hm
    · simp only [hm, decide_false, Bool.false_eq_true, if_false, List.mem_append, List.mem_singleton]
      constructor
      · rintro (h | h); exact .inl h; exact .inr h.symm
      · rintro (h | h); exact .inl h; exact .inr h.symm
  · simp
theorem putL_iff {l : List GTold} {acc : List ByteArray} {s : ByteArray} : s ∈ putL acc l ↔ s ∈ acc ∨ ∃ t ∈ l, t.x = s ∧ t.x.toList.isEmpty = false := by
  induction l generalizing acc with
  | nil => simp [putL]
  | cons t l ih =>
    show s ∈ putL (put1 acc t) l ↔ _
    rw [ih, put1_mem]
    simp only [List.mem_cons, exists_eq_or_imp]
    exact or_assoc
theorem putL_sub {l l' : List GTold} (h : ∀ t ∈ l, t ∈ l') {s : ByteArray} (hs : s ∈ putL [] l) : s ∈ putL [] l' := by
  rw [putL_iff] at hs ⊢
  rcases hs with h1 | ⟨t, ht, h2⟩
  · cases h1
  · exact .inr ⟨t, h t ht, h2⟩
theorem put1_nodup {acc : List ByteArray} {t : GTold} (h : acc.Nodup) : (put1 acc t).Nodup := by
  unfold put1
  split
  · exact h
  · rename_i hn
    simp only [Bool.or_eq_true, decide_eq_true_eq, not_or] at hn
    exact List.nodup_append.2 ⟨h, by simp, fun a ha b hb => by simp at hb; subst hb; intro e; subst e; exact hn.2 ha⟩
theorem putL_nodup : ∀ (l : List GTold) (acc : List ByteArray), acc.Nodup → (putL acc l).Nodup
  | [], _, h => h
  | t :: l, acc, h => putL_nodup l (put1 acc t) (put1_nodup h)
def ones (L : List ByteArray) : List (ByteArray × Value) := L.map fun s => (s, Value.int .i64 1)
theorem ones_get {L : List ByteArray} {s : ByteArray} (h : s ∈ L) : kvGet (ones L) s = some (.int .i64 1) := by
  induction L with
  | nil => cases h
  | cons t L ih =>
    unfold ones at *
    rw [List.map_cons, kvGet_cons]
    split
    · rfl
    · rename_i hn
      rcases List.mem_cons.1 h with h | h
      · exact absurd h.symm hn
      · exact ih h
theorem ones_none {L : List ByteArray} {s : ByteArray} (h : s ∉ L) : kvGet (ones L) s = none := by
  induction L with
  | nil => rfl
  | cons t L ih =>
    unfold ones at *
    rw [List.map_cons, kvGet_cons, if_neg (fun e : t = s => h (e ▸ List.mem_cons_self))]
    exact ih (fun hm => h (by simp [hm]))
theorem ones_set {L : List ByteArray} {s : ByteArray} (h : s ∉ L) : kvSet (ones L) s (.int .i64 1) = ones (L ++ [s]) := by
  have : (ones L).findIdx? (fun p => p.1 == s) = none := by
    rw [List.findIdx?_eq_none_iff]
    intro p hp
    unfold ones at hp
    obtain ⟨t, ht, rfl⟩ := List.mem_map.1 hp
    simp only [beq_eq_false_iff_ne, ne_eq]
    intro e
    rw [← e] at h
    exact h ht
  rw [kvSet_none _ this]
  unfold ones; simp
theorem not_take {α : Type} {L : List α} (h : L.Nodup) {k : Nat} {s : α} (hs : L[k]? = some s) : s ∉ L.take k := by
  intro hm
  rw [← List.take_append_drop k L] at h
  obtain ⟨hk, e⟩ := List.getElem?_eq_some_iff.1 hs
  refine (List.nodup_append.1 h).2.2 s hm s ?_ rfl
  rw [List.drop_eq_getElem_cons hk, e]
  exact List.mem_cons_self
theorem int_zero (w : World) : (zeroValue 3).run Tryz.prog w = .ok (.int .i64 0) w := by
  have h : (Tryz.prog.info? 3).map (·.zero) = some (some (.int .i64 0)) := by kernel_rfl
  obtain ⟨i, h1, h2⟩ := Option.map_eq_some_iff.1 h
  simp [zeroValue, typeInfo, h1, h2]
theorem formed_rules {x : GProg} (h : formedB x = true) : ∀ y ∈ x.rules, rightRule y = true := by
  unfold formedB at h
  simp only [Bool.and_eq_true] at h
  exact fun y hy => List.all_eq_true.1 h.2.2 y hy
theorem rule_lits {y : GRule} (h : rightRule y = true) : ∀ z ∈ y.body, rightLit z = true := by
  unfold rightRule at h
  simp only [Bool.and_eq_true] at h
  exact fun z hz => List.all_eq_true.1 h.2.2.2 z hz

/-- a wide load under a guard that holds -/
theorem wpList_load_want {P : Program} {ops : Array Oper} {rest : List Oper} {op : Oper} {a : Act} {w : World} {Q : Exit → Act → World → Prop} (hw : Region.wanted op (yielded ops a.tmps) = true) (ty : TypeId) (x : Operand) (ho : op.op = .load ty x)
    (b o : Nat) (hx : a.eval x = .pointer (some ⟨b, o, none⟩)) (cs : List Value) (d : TypeDesc) (hc : w.rangeAt b o cs)
    (hu : P.underlying ty = some d) (hd : d.isRow = true) (hi : (P.info? ty).map (·.size) = some cs.length)
    (h : wpList P ops Q rest (a.put op.dst (.agg cs.toArray)) w) : wpList P ops Q (op :: rest) a w :=
  wpList_step fun K hK => by rw [if_pos hw]; exact wp_load_mid ty x ho b o hx cs d hc hu hd hi (hK _ _ h)
theorem kept_map {w w' : World} {g : Nat} {kvs : List (ByteArray × Value)} (h : MapIs w g kvs) (ho : Out [g] w w') : Kept w w' w.heap.size := fun b hb cs t fr hc _ => by
  refine (ho.block b hb (fun hm => ?_)).trans hc
  obtain rfl : b = g := by simpa using hm
  obtain ⟨es, clock, hes, _⟩ := h.ex
  rw [hes] at hc
  cases hc

set_option maxRecDepth 100000 in
set_option maxHeartbeats 8000000 in
theorem termWhole_walk (d : Nat) (x : GProg) (a b : Hd) (w : World) (hk : ProgAt d w w.heap.size x a b) (hW : LexW w) :
    Calls Tryz.prog 4 #[.agg (progC a b).toArray] w (RetBool true w) := by
  have HA := Lib.hid (fun (W : World) (hb : Below w.heap.size w W) => alive_any W (hW.on hb))
  have HWx := Lib.hid (fun (W : World) (hb : Below w.heap.size w W) => hW.on hb)
  have HK := Lib.hid hk
  have hm := hk.rules.bound
  have Hlen := Lib.hid hk.rules.1
  have hrb : (w.alloc (.cells (progC a b).toArray 48)).heap[w.heap.size]? = some (.cells (progC a b).toArray 48 (0, 0)) := heapNew rfl
  have hb0 : Below w.heap.size w (w.alloc (.cells (progC a b).toArray 48)) := belowA (Below.refl _ _) _
  clear hk hW
  go_enter Tryz.func4, Tryz.ntmps4
  go_wp2_with fail
  refine (HA.out _ hb0).mono ?_
  rintro r w1 ⟨rfl, hb1⟩
  replace hrb := (hb1.block _ (Array.getElem?_eq_some_iff.1 hrb).1).trans hrb
  replace hb0 := below_next hb0 hb1
  obtain ⟨c0, c1⟩ := facts2 hrb
  have HS := Lib.hid (size_any d x a b w1 (HK.out.keep hb0))
  clear HA hb1
  go_wp2_with fail
  refine HS.out.mono ?_
  rintro r w2 ⟨R, rfl, hR, hb2⟩
  replace hrb := (hb2.block _ (Array.getElem?_eq_some_iff.1 hrb).1).trans hrb
  replace hb0 := below_next hb0 hb2
  clear c0 c1
  obtain ⟨c0, c1⟩ := facts2 hrb
  clear HS hb2
  by_cases hneg : R < 0
  · clear hR
    go_wp2_with fail
    go_ret
    exact ⟨rfl, hb0⟩
  have HSm := Lib.hid (szP_all (hR.1 (by omega)))
  have HF := Lib.hid (formed_any d x a b w2 (HK.out.keep hb0) (HWx.out _ hb0))
  clear hR
  go_wp2_with fail
  refine HF.out.mono ?_
  rintro r w3 ⟨rfl, hb3⟩
  replace hrb := (hb3.block _ (Array.getElem?_eq_some_iff.1 hrb).1).trans hrb
  replace hb0 := below_next hb0 hb3
  clear c0 c1
  obtain ⟨c0, c1⟩ := facts2 hrb
  have HFr := Lib.hid (fun h => formed_rules (x := x) h)
  clear HF hb3
  generalize formedB x = fb at *
  obtain ⟨A, n, c⟩ := a
  obtain ⟨A2, m, c2⟩ := b
  dsimp only [Hd.v] at c0 c1
  go_wp2_with fail
  go_loopw [24] (fun i wr => ∃ (j : Nat), j ≤ m ∧ i = .int .i64 j ∧ Below w.heap.size w wr) (fun i _ => m - (intOf i).toNat)
  case atStart => exact ⟨0, by omega, rfl, hb0⟩
  case round =>
    obtain ⟨j, hj, rfl, hbr⟩ := hrel
    clear hb0 hrb c0 c1
    have i0 : (0 : Int) ≤ (j : Int) := by omega
    by_cases hlt : j < m
    · have i1 : (j : Int) < (m : Int) := by omega
      obtain ⟨bb, o, y, aa, mm, hA, hb, hy, hat, y0, y1, y2, y3, y4, y5⟩ := (HK.out.keep hbr).rules.rule_at hlt
      simp only at hA
      subst hA
      have hym := List.mem_of_getElem? hy.out
      have HYs := Lib.hid (HSm.out.each y hym)
      have HYf := Lib.hid (fun h => HFr.out h y hym)
      have hba : Below wr.heap.size wr (wr.alloc (.cells (ruleC y aa mm).toArray 56)) := belowA (Below.refl _ _) _
      have hgx : (wr.alloc (.cells (ruleC y aa mm).toArray 56)).heap[wr.heap.size]? = some (.cells (ruleC y aa mm).toArray 56 (0, 0)) := heapNew rfl
      obtain ⟨z0, z1, z2, z3, z4, z5⟩ := facts6 hgx
      have HBa := Lib.hid (below_next hbr hba)
      have HY := Lib.hid (hat.keep hba)
      have HGx := Lib.hid hgx
      have hmr := hat.body.bound
      have hml := Lib.hid hat.body.1
      have hbound : (ruleT y).length ≤ 1500 := by
        have := HYs.out.all
        unfold ruleT
        rw [List.length_append]
        exact this
      have hwr := hbr.size
      clear hy hym hat hba hgx hbr
      have HRR := Lib.hid (fun (W : World) (h : RuleAt d W W.heap.size y aa mm) (hb : Below w.heap.size w W) => rightRule_any d y aa mm W h (HWx.out W hb))
      have Hvs := Lib.hid (fun (W : World) (h : RuleAt d W W.heap.size y aa mm) => vars_any d y aa mm W h hbound)
      have Hso : Hid (∀ s ∈ putL [] (ruleT y), s.size ≤ reachN) := fun s hs => by
        rcases putL_mem hs with h | ⟨t, ht, e⟩
        · cases h
        · exact e ▸ (rule_ok HY.out t ht).1
      obtain ⟨L, HL⟩ : ∃ L, Hid (putL [] (ruleT y) = L) := ⟨_, rfl⟩
      have HLn : Hid (L.Nodup) := by show List.Nodup L; rw [← HL.out]; exact putL_nodup _ _ List.nodup_nil
      have HLl : L.length ≤ 1500 := by
        rw [← HL.out]
        have := putL_len (ruleT y) []
        simp only [List.length_nil, Nat.zero_add] at this
        omega
      rw [HL.out] at Hso
      have HYf2 : Hid ((!fb || rightRule y) = true) := by
        have h9 := HYf.out
        show _ = _
        cases fb
        · rfl
        · simpa using h9 rfl
      clear HYf
      cases fb
      case' false =>
        go_wp2_with fail
        generalize hV : wr.alloc _ = V
        have HGv : Hid (V.heap[wr.heap.size]? = some (.cells (ruleC y aa mm).toArray 56 (0, 0))) := hV ▸ HGx.out
        have HBv : Hid (Below w.heap.size w V) := hV ▸ HBa.out
        have HYv : Hid (RuleAt d V V.heap.size y aa mm) := hV ▸ HY.out
        clear hV
      case' true =>
        go_wp2_with fail
        refine (HRR.out _ HY.out HBa.out).mono ?_
        rintro r V ⟨rfl, hbV⟩
        have HGv : Hid (V.heap[wr.heap.size]? = some (.cells (ruleC y aa mm).toArray 56 (0, 0))) := (hbV.block _ (Array.getElem?_eq_some_iff.1 HGx.out).1).trans HGx.out
        have HBv : Hid (Below w.heap.size w V) := below_next HBa.out hbV
        have HYv : Hid (RuleAt d V V.heap.size y aa mm) := HY.out.keep hbV
        have hyf : rightRule y = true := by simpa using HYf2.out
        rw [hyf]
        clear z0 z1 z2 z3 z4 z5 hbV
        obtain ⟨z0, z1, z2, z3, z4, z5⟩ := facts6 HGv.out
        clear hyf
        go_wp2_with fail
      all_goals
        clear z0 z1 z2 z3 z4 z5 HY HGx HBa
        refine (Hvs.out V HYv.out).mono ?_
        rintro r V1 ⟨A1, c1', rfl, ho1, hb1⟩
        rw [HL.out] at ho1 ⊢
        have hS1 := TextsPost.is ho1 (by omega) Hso.out
        have hMb : Below V1.heap.size V1 (V1.alloc (.map #[] 0)) := belowA (Below.refl _ _) _
        have HS1 := Lib.hid (hS1.mono' hMb.size (Kept.of hMb.block))
        have hbV1 := below_next HBv.out hb1
        have HBm := Lib.hid (below_next hbV1 hMb)
        have HG1 := Lib.hid (heapOld (o := .map #[] 0) ((hb1.block _ (Array.getElem?_eq_some_iff.1 HGv.out).1).trans HGv.out))
        have HM1 : Hid (MapIs (V1.alloc (.map #[] 0)) V1.heap.size (ones (L.take 0))) := MapIs.made
        have HYm := Lib.hid ((HYv.out.keep hb1).keep hMb)
        have hvz : wr.heap.size < V1.heap.size := by have := (Array.getElem?_eq_some_iff.1 HGv.out).1; have := hb1.size; omega
        obtain ⟨ln, Hln⟩ : ∃ ln, Hid (L.length = ln) := ⟨_, rfl⟩
        rw [Hln.out] at HLl HS1 ⊢
        clear ho1 hS1 hMb hb1 hbV1 HGv HBv HYv Hvs
        have hmm := @run_makeMap Tryz.prog
        go_wp2_with fail
        clear hmm
        generalize hVm : V1.alloc _ = Vm
        rw [hVm] at HS1 HBm HG1 HM1 HYm
        obtain ⟨g, Hg⟩ : ∃ g, Hid (V1.heap.size = g) := ⟨_, rfl⟩
        have Hgl : g < Vm.heap.size := by rw [← hVm, ← Hg.out]; simp
        rw [Hg.out] at HM1 hvz ⊢
        clear hVm
        obtain ⟨gx, Hgx⟩ : ∃ gx, Hid (wr.heap.size = gx) := ⟨_, rfl⟩
        rw [Hgx.out] at hvz HG1 hwr ⊢
        have hgxl := (Array.getElem?_eq_some_iff.1 HG1.out).1
        go_loopw [9, 39] (fun _ i W => ∃ (k : Nat), k ≤ ln ∧ i = .int .i64 k ∧ Hid (MapIs W g (ones (L.take k))) ∧ Hid (Out [g] Vm W)) (fun _ i _ => ln - (intOf i).toNat)
        case atStart => exact ⟨0, by omega, rfl, HM1, Out.refl _ _⟩
        case round =>
          obtain ⟨k, hkn, rfl, HMk, HOk⟩ := hrel
          have k0 : (0 : Int) ≤ (k : Int) := by omega
          have hkept := kept_map HM1.out HOk.out
          have hzk := HOk.out.size
          have hS := HS1.out.mono' (B' := wr.heap.size) hzk hkept
          by_cases hlk : k < ln
          · have k1 : (k : Int) < (ln : Int) := by omega
            obtain ⟨b, o2, s, rfl, hbb, hs, q0, hsz⟩ := hS.str_at hlk
            have hnot : s ∉ L.take k := not_take HLn.out hs.out
            have HTk : Hid (L.take (k + 1) = L.take k ++ [s]) := by show _ = _; rw [List.take_add_one, hs.out]; rfl
            have hlook := HMk.out.lookup (P := Tryz.prog) (t := 60) (e := 3) Tryz.underlying60 Tryz.underlying9 (int_zero _) s
            rw [ones_none hnot] at hlook
            simp only [Option.getD_none] at hlook
            obtain ⟨W', hup, hM2, hgr, hz2⟩ := HMk.out.update (P := Tryz.prog) (t := 60) (e := 3) Tryz.underlying60 Tryz.underlying9 s (.int .i64 1)
            rw [ones_set hnot, ← HTk.out] at hM2
            have HM2 := Lib.hid hM2
            have HO2 : Hid (Out [g] Vm W') := HOk.out.trans (grown_out hgr) (fun b hb _ => by simpa using hb)
            clear hM2 hgr hz2 hs hnot hkept hS
            go_wp2_with fail
            go_roundw
            case rel => exact ⟨k + 1, by omega, by go_num, HM2, HO2⟩
            case measure => simp [intOf]; omega
          · have k1 : ¬ (k : Int) < (ln : Int) := by omega
            have hM3 : MapIs wr g (ones L) := by
              have := HMk.out
              rwa [List.take_of_length_le (by have := Hln.out; omega)] at this
            have hgx2 := (HOk.out.block gx hgxl (by simp; omega)).trans HG1.out
            have HM3 := Lib.hid hM3
            have HY3 : Hid (RuleAt d wr wr.heap.size y aa mm) := HYm.out.mono' hzk hkept
            have HB3 : Hid (Below w.heap.size w wr) := HBm.out.trans (HOk.out.below (B := w.heap.size) (fun b hb => by
              simp at hb
              omega) (by have := HBm.out.size; omega))
            clear hS hkept HMk HOk hM3 HM1 HYm HBm HS1
            obtain ⟨z0, z1, z2, z3, z4, z5⟩ := facts6 hgx2
            have HG3 := Lib.hid hgx2
            clear hgx2
            go_wp2_with fail
            obtain ⟨Am, nm, cm⟩ := mm
            dsimp only [Hd.v] at *
            go_loopw [11, 13, 51] (fun _ _ i W => ∃ (k : Nat), k ≤ nm ∧ i = .int .i64 k ∧ Hid (Below wr.heap.size wr W)) (fun _ _ i _ => nm - (intOf i).toNat)
            case atStart => exact ⟨0, by omega, rfl, Below.refl _ _⟩
            case round =>
              obtain ⟨k, hkn, rfl, HBk⟩ := hrel
              have l0 : (0 : Int) ≤ (k : Int) := by omega
              clear z0 z1 z2 z3 z4 z5
              by_cases hlk : k < nm
              · have l1 : (k : Int) < (nm : Int) := by omega
                obtain ⟨b, o2, z, a', p', q', hA, hbb, hz, hlz, hr⟩ := (HY3.out.keep HBk.out).body.lit_range hlk
                simp only at hA
                subst hA
                have hzm := List.mem_of_getElem? hz.out
                have Hzs : Hid (∀ s ∈ putL [] (insideL z), s ∈ L) := fun s hs => by
                  rw [← HL.out]
                  refine putL_sub (fun t ht => ?_) hs
                  unfold ruleT
                  exact List.mem_append_right _ (List.mem_flatMap.2 ⟨z, hzm, ht⟩)
                have Hzr : Hid ((!(rightRule y) || rightLit z) = true) := by
                  show _ = _
                  cases hrr : rightRule y
                  · rfl
                  · simpa using rule_lits hrr z hzm
                have hzl : (insideL z).length ≤ 1500 := by
                  have := (HYs.out.lits z hzm).all
                  unfold insideL
                  simp only [List.length_append]
                  exact this
                have Hzo := Lib.hid (inside_ok hlz)
                have hba : Below wr.heap.size wr (wr.alloc (.cells (litC z a' p' q').toArray 63)) := belowA (Below.refl _ _) _
                have hbA := below_next HBk.out hba
                have HGa := Lib.hid ((hbA.block _ (Array.getElem?_eq_some_iff.1 HG3.out).1).trans HG3.out)
                have HMa := Lib.hid (HM3.out.below hbA HM3.out.lt)
                have HYa := Lib.hid (HY3.out.keep hbA)
                have HLa := Lib.hid (hlz.keep hba)
                have HBa := Lib.hid (below_next HB3.out hbA)
                have HBb := Lib.hid hbA
                have HRa := Lib.hid (range_row (heapNew (w := wr) (o := .cells (litC z a' p' q').toArray 63) rfl))
                have HXa := Lib.hid (heapNew (w := wr) (o := .cells (litC z a' p' q').toArray 63) rfl)
                obtain ⟨z0, z1, z2, z3, z4, z5⟩ := facts6 HGa.out
                clear hba hbA hlz hz hzm HBk
                go_wp2_with (first
                  | refine wpList_load_mid rfl 63 (.tmp 53) rfl b (o2 + k * 17) rfl (litC z a' p' q') _ hr.out Tryz.underlying63 rfl (lit_size z a' p' q') ?_
                  | refine wpList_new rfl rfl 63 11 (.tmp 54) rfl rfl rfl rfl _ (litC z a' p' q').toArray lit_info rfl (lit_one z a' p' q') rfl rfl ?_)
                generalize hV : wr.alloc _ = V at *
                refine (HRR.out _ HYa.out HBa.out).mono ?_
                rintro r V1 ⟨rfl, hb1⟩
                have HGb := Lib.hid ((hb1.block _ (Array.getElem?_eq_some_iff.1 HGa.out).1).trans HGa.out)
                have HMb := Lib.hid (HMa.out.below hb1 HMa.out.lt)
                have HLb := Lib.hid (HLa.out.keep hb1)
                have HBc := Lib.hid (below_next HBa.out hb1)
                have HBd := Lib.hid (below_next HBb.out hb1)
                have HXb := Lib.hid ((hb1.block _ (Array.getElem?_eq_some_iff.1 HXa.out).1).trans HXa.out)
                have HRb := Lib.hid (range_row HXb.out)
                have HRL := Lib.hid (rightLit_any d z a' p' q' V1 HLb.out (HWx.out V1 HBc.out))
                clear z0 z1 z2 z3 z4 z5 HGa HMa HYa HLa HBa HBb HRa HXa hb1 hV hr
                cases hrr : rightRule y
                case' false =>
                  go_wp2_with (first
                    | refine wpList_load_mid rfl 63 (.tmp 11) rfl _ 0 rfl (litC z a' p' q') _ HRb.out Tryz.underlying63 rfl (lit_size z a' p' q') ?_)
                case' true =>
                  go_wp2_with (first
                    | refine wpList_load_want rfl 63 (.tmp 11) rfl _ 0 rfl (litC z a' p' q') _ HRb.out Tryz.underlying63 rfl (lit_size z a' p' q') ?_)
                case' false =>
                  obtain ⟨V2, hV2⟩ : ∃ V2, V2 = V1 := ⟨_, rfl⟩
                  subst hV2
                  have HMc := HMb
                  have HLc := HLb
                  have HBe := HBc
                  have HBf := HBd
                case' true =>
                  refine HRL.out.mono ?_
                  rintro r V2 ⟨rfl, hb2⟩
                  have hrl : rightLit z = true := by
                    have := Hzr.out
                    rw [hrr] at this
                    simpa using this
                  rw [hrl]
                  have HMc := Lib.hid (HMb.out.below hb2 HMb.out.lt)
                  have HLc := Lib.hid (HLb.out.keep hb2)
                  have HBe := Lib.hid (below_next HBc.out hb2)
                  have HBf := Lib.hid (below_next HBd.out hb2)
                  have HRc := Lib.hid (range_row ((hb2.block _ (Array.getElem?_eq_some_iff.1 HXb.out).1).trans HXb.out))
                  clear hb2 hrl
                  go_wp2_with (first
                    | refine wpList_load_mid rfl 63 (.tmp 11) rfl _ 0 rfl (litC z a' p' q') _ HRc.out Tryz.underlying63 rfl (lit_size z a' p' q') ?_)
                  clear HRc
                all_goals
                  clear HMb HLb HBc HBd HRb HXb HRL hrr Hzr
                  refine (inT_any d z a' p' q' V2 HLc.out hzl).mono ?_
                  rintro r V3 ⟨A5, c5, rfl, ho5, hb5⟩
                  have hl5 := putL_len (insideL z) []
                  simp only [List.length_nil, Nat.zero_add] at hl5
                  have HS5 := Lib.hid (TextsPost.is ho5 (by omega) (fun s hs => by
                    rcases putL_mem hs with h | ⟨t, ht, e⟩
                    · cases h
                    · exact e ▸ (Hzo.out t ht).1))
                  have HMd := Lib.hid (HMc.out.below hb5 HMc.out.lt)
                  have HBg := Lib.hid (below_next HBf.out hb5)
                  have HBh := Lib.hid (below_next HBe.out hb5)
                  obtain ⟨L5, HL5⟩ : ∃ L5, Hid (putL [] (insideL z) = L5) := ⟨_, rfl⟩
                  rw [HL5.out] at HS5 Hzs hl5 ⊢
                  obtain ⟨n5, Hn5⟩ : ∃ n5, Hid (L5.length = n5) := ⟨_, rfl⟩
                  rw [Hn5.out] at HS5 hl5 ⊢
                  have hl6 : n5 ≤ 1500 := by omega
                  clear ho5 hb5 HMc HLc HBe HBf
                  go_wp2_with fail
                  go_loopw [13, 65] (fun _ i W => ∃ (q : Nat), q ≤ n5 ∧ i = .int .i64 q ∧ Hid (W = V3)) (fun _ i _ => n5 - (intOf i).toNat)
                  case atStart => exact ⟨0, by omega, rfl, rfl⟩
                  case round =>
                    obtain ⟨q, hqn, rfl, HW3⟩ := hrel
                    have hw3 := HW3.out
                    subst hw3
                    clear HW3
                    have q0 : (0 : Int) ≤ (q : Int) := by omega
                    by_cases hlq : q < n5
                    · have q1 : (q : Int) < (n5 : Int) := by omega
                      obtain ⟨b5, o5, s5, rfl, hbb5, hs5, r0, hsz5⟩ := HS5.out.str_at hlq
                      have hsL := Hzs.out s5 (List.mem_of_getElem? hs5.out)
                      have hlook := HMd.out.lookup (P := Tryz.prog) (t := 60) (e := 3) Tryz.underlying60 Tryz.underlying9 (int_zero _) s5
                      rw [ones_get hsL] at hlook
                      simp only [Option.getD_some] at hlook
                      clear hs5 hsL
                      go_wp2_with fail
                      go_roundw
                      case rel => exact ⟨q + 1, by omega, by go_num, by first | exact (rfl : _ = _) | exact (trivial : True)⟩
                      case measure => simp [intOf]; omega
                    · have q1 : ¬ (q : Int) < (n5 : Int) := by omega
                      go_wp2_with fail
                      go_roundw
                      case rel => exact ⟨k + 1, by omega, by go_num, HBg⟩
                      case measure => simp [intOf]; omega
              · have l1 : ¬ (k : Int) < (nm : Int) := by omega
                have HBz := Lib.hid (below_next HB3.out HBk.out)
                go_wp2_with fail
                exact ⟨⟨_, _, _, _, _, _, _, _, ⟨j + 1, by omega, rfl, HBz.out⟩, rfl, rfl, rfl, rfl, rfl, rfl, rfl, by simp⟩, by simp [intOf]; omega⟩
    · have i1 : ¬ (j : Int) < (m : Int) := by omega
      go_wp2_with fail
      go_ret
      exact ⟨rfl, hbr⟩
end Go.Proofs.YtiffmiabhapfnaaGreatDoor
