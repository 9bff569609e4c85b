/- My own texts TSize, TyKi, as far as this claim needs them. -/
import Derived.Test.YtaeedepojpablaaGreatDoorZq31
import Derived.Test.YtaeedepojpablaaGreatDoorZqa1
set_option linter.unusedVariables false
set_option linter.unusedSimpArgs false
set_option maxRecDepth 1000000
set_option maxHeartbeats 16000000
namespace Go.Proofs.YtaeedepojpablaaGreatDoor
open Go.RowKit
def szT : List GTold → Int → Int
 | [], l => l
 | t :: ts, l => if l - (1 + (((t.x.size + t.v.s.size) / 50 : Nat) : Int)) < 0 then -1 else szT ts (l - (1 + (((t.x.size + t.v.s.size) / 50 : Nat) : Int)))
def szA (x : GAtom) (l : Int) : Int := szT x.args (l - (1 + ((x.rel.size / 50 : Nat) : Int)))
def szLit (x : GLit) (l : Int) : Int := szE x.r (szE x.l (szA x.atom l))
def szB : List GLit → Int → Int
 | [], l => l
 | x :: xs, l => if l < 0 then -1 else szB xs (szLit x l)
def szR (x : GRule) (l : Int) : Int := szB x.body (szA x.head l)
def szD : List GDecl → Int → Int
 | [], l => l
 | x :: xs, l => if l - (1 + ((x.rel.size / 50 : Nat) : Int) + x.kinds.length) < 0 then -1 else szD xs (l - (1 + ((x.rel.size / 50 : Nat) : Int) + x.kinds.length))
def szRs : List GRule → Int → Int
 | [], l => l
 | x :: xs, l => if szR x (l - 1) < 0 then -1 else szRs xs (szR x (l - 1))
def szP (p : GProg) (l : Int) : Int := if szD p.decls l < 0 then -1 else szRs p.rules (szD p.decls l)
theorem szT_le : ∀ (ts : List GTold) (l : Int), szT ts l ≤ max l (-1)
 | [], l => by rw [szT]; omega
 | t :: ts, l => by
   rw [szT]; split
   ·omega
   ·have := szT_le ts (l - (1 + (((t.x.size + t.v.s.size) / 50 : Nat) : Int))); omega
theorem szA_le (x : GAtom) (l : Int) : szA x l ≤ max l (-1) := by
 have := szT_le x.args (l - (1 + ((x.rel.size / 50 : Nat) : Int))); unfold szA; omega
theorem szE_le2 (e : GExp) (l : Int) : szE e l ≤ max l (-1) := by
 rw [szE_def]; have := szL_le e.kids (l - (1 + (((e.t.x.size + e.t.v.s.size) / 50 : Nat) : Int))); omega
theorem szLit_le (x : GLit) (l : Int) : szLit x l ≤ max l (-1) := by
 have h1 := szA_le x.atom l; have h2 := szE_le2 x.l (szA x.atom l); have h3 := szE_le2 x.r (szE x.l (szA x.atom l)); unfold szLit; omega
theorem szB_le : ∀ (xs : List GLit) (l : Int), szB xs l ≤ max l (-1)
 | [], l => by rw [szB]; omega
 | x :: xs, l => by
   rw [szB]; split
   ·omega
   ·have h1 := szLit_le x l; have h2 := szB_le xs (szLit x l); omega
theorem szR_le (x : GRule) (l : Int) : szR x l ≤ max l (-1) := by
 have h1 := szA_le x.head l; have h2 := szB_le x.body (szA x.head l); unfold szR; omega
theorem szT_ge : ∀ (ts : List GTold) (l : Int), min l (-1) ≤ szT ts l
 | [], l => by rw [szT]; omega
 | t :: ts, l => by
   rw [szT]; split
   ·omega
   ·have := szT_ge ts (l - (1 + (((t.x.size + t.v.s.size) / 50 : Nat) : Int))); omega
theorem szA_ge (x : GAtom) (l : Int) (h : x.rel.size ≤ reachN) : min (l - 2814749767106) (-1) ≤ szA x l := by
 have := szT_ge x.args (l - (1 + ((x.rel.size / 50 : Nat) : Int))); have h2 : x.rel.size ≤ 140737488351232 := h; unfold szA; omega
theorem szL_ge : ∀ (ks : List GExp) (l : Int), (∀ k ∈ ks, ∀ l : Int, 0 ≤ l → -5629499534051 ≤ szE k l) → min l (-5629499534051) ≤ szL ks l
 | [], l, _ => by rw [szL]; omega
 | k :: ks, l, h => by
   rw [szL]; split
   ·omega
   ·have h1 := h k (by simp) l (by omega); have h2 := szL_ge ks (szE k l) (fun q hq => h q (by simp [hq])); omega
theorem szE_ge : ∀ (d : Nat) (e : GExp) (A : Option Addr) (n c : Nat) (w : World) (B : Nat), SliceIs (Enc.exp d) w B A n c e.kids → e.t.x.size ≤ reachN → e.t.v.s.size ≤ reachN → ∀ l : Int, min (l - 5629499534051) (-5629499534051) ≤ szE e l := by
 intro d; induction d using Nat.strongRecOn with
 | ind d ih =>
   intro e A n c w B hk hx hv l; have hx' : e.t.x.size ≤ 140737488351232 := hx; have hv' : e.t.v.s.size ≤ 140737488351232 := hv; rw [szE_def]
   have := szL_ge e.kids (l - (1 + (((e.t.x.size + e.t.v.s.size) / 50 : Nat) : Int))) (fun k hk' l hl => by
    obtain ⟨i, hi⟩ := List.mem_iff_getElem?.1 hk'; have hil : i < n := by rw [← hk.1]; exact (List.getElem?_eq_some_iff.1 hi).1
    obtain ⟨b, o, k', A', n', c', d', -, -, hk2, hd, -, -, -, -, -, -, -, f1, f2, hkk⟩ := hk.exp_at hil; have e1 : k' = k := by have := hk2.out; rw [hi] at this; injection this with this; exact this.symm
    subst e1; have := ih d' (by omega) k' A' n' c' w B hkk f1 f2.2.2 l
    omega)
   omega
theorem szAtom_any (x : GAtom) (a : Hd) (left : Int) (w : World) (hk : SliceIs Enc.told w w.heap.size a.A a.n a.c x.args) (hx : x.rel.size ≤ reachN) (h0 : -100000000000000 ≤ left) (h1 : left ≤ 100000) :
 Calls Tryz.prog 67 #[.agg (atomC x a).toArray, .int .i64 left] w (RetInt (szA x left) w) := by
 have hn := hk.bound; have HK := hZ9 hk; have Hlen := hZ9 hk.1; obtain ⟨R, HR⟩ : ∃ R, Hid (R = szA x left) := ⟨_, rfl⟩
 rw [← HR.out]; have hx' : x.rel.size ≤ 140737488351232 := hx; obtain ⟨c0, hc0, hc1⟩ : ∃ c0 : Nat, (x.rel.size : Int).tdiv 50 = (c0 : Int) ∧ c0 = x.rel.size / 50 := ⟨x.rel.size / 50, by rw [Int.tdiv_eq_ediv_of_nonneg (by omega)]; omega, rfl⟩
 have HR2 : Hid (R = szT (x.args.drop 0) (left - (1 + (c0 : Int)))) := by show _ = _; rw [HR.out, hc1]; rfl
 have hc2 : c0 ≤ 2814749767025 := by omega
 have hrb : (w.alloc (.cells (atomC x a).toArray 53)).heap[w.heap.size]? = some (.cells (atomC x a).toArray 53 (0, 0)) := heapNew rfl; obtain ⟨b0, b1⟩ := facts2 hrb; have hb0 : Below w.heap.size w (w.alloc (.cells (atomC x a).toArray 53)) := belowA (Below.refl _ _) _; obtain ⟨A, n, c⟩ := a; simp only [Hd.v] at *; clear hk hrb hc1 HR; go_enter Tryz.func67, Tryz.ntmps67
 go_wp2_with fail
 go_loopw [1, 6, 17] (fun lv _ i wr => ∃ (j : Nat) (l : Int), j ≤ n ∧ i = .int .i64 j ∧ lv = .int .i64 l ∧ -1000000000000000 ≤ l ∧ l ≤ 100000 ∧ Hid (R = szT (x.args.drop j) l) ∧ (0 < j → 0 ≤ l) ∧ Below w.heap.size w wr) (fun _ _ i _ => n - (intOf i).toNat)
 case atStart => exact ⟨0, left - (1 + (c0 : Int)), by omega, rfl, by go_num, by omega, by omega, HR2, by omega, hb0⟩
 case round =>
  obtain ⟨j, l, hj, rfl, rfl, hl0, hl, HRj, hjl, hbr⟩ := hrel; have i0 : (0 : Int) ≤ (j : Int) := by omega
  by_cases hlt : j < n
  ·have i1 : (j : Int) < (n : Int) := by omega
   obtain ⟨b, o, t, rfl, hb, ht, x0, x1, x2, x3, f1, f2⟩ := (HK.out.below hbr).told_at hlt; have hs1 : t.x.size ≤ 140737488351232 := f1; have hs2 : t.v.s.size ≤ 140737488351232 := f2.2.2; obtain ⟨c1, hc1, hc2'⟩ : ∃ c1 : Nat, ((t.x.size : Int) + (t.v.s.size : Int)).tdiv 50 = (c1 : Int) ∧ c1 = (t.x.size + t.v.s.size) / 50 := ⟨(t.x.size + t.v.s.size) / 50, by rw [Int.tdiv_eq_ediv_of_nonneg (by omega)]; omega, rfl⟩
   have HRk : Hid (R = if l - (1 + (c1 : Int)) < 0 then -1 else szT (x.args.drop (j + 1)) (l - (1 + (c1 : Int)))) := by
    show _ = _; rw [HRj.out]; obtain ⟨g1, g2⟩ := List.getElem?_eq_some_iff.1 ht.out; rw [List.drop_eq_getElem_cons g1, g2, szT, hc2']
   have hc3 : c1 ≤ 5629499534050 := by omega
   have hba : Below w.heap.size w (wr.alloc (.cells (GTold.cells t).toArray 75)) := belowA hbr _; clear HRj ht hc2'; by_cases hneg : l - (1 + (c1 : Int)) < 0
   ·have HR1 : Hid (R = -1) := by show _ = _; rw [HRk.out, if_pos hneg]
    clear HRk; go_wp2_with fail
    go_ret; exact ⟨by rw [HR1.out]; rfl, hba⟩
   ·have HR1 : Hid (R = szT (x.args.drop (j + 1)) (l - (1 + (c1 : Int)))) := by show _ = _; rw [HRk.out, if_neg hneg]
    clear HRk; go_wp2_with fail
    go_roundw
    case rel => exact ⟨j + 1, l - (1 + (c1 : Int)), by omega, by go_num, by go_num, by omega, by omega, HR1, by omega, hba⟩
    case measure => simp [intOf]; omega
  ·have i1 : ¬ (j : Int) < (n : Int) := by omega
   have HR1 : Hid (R = l) := by
    show _ = _; rw [HRj.out, List.drop_eq_nil_of_le (by have := Hlen.out; omega), szT]
   clear HRj; go_wp2_with fail
   go_ret; exact ⟨by rw [HR1.out]; rfl, hbr⟩
def szF (x : GLit) (a p q : Hd) (l : Int) (g : Nat) (i : Nat) (v : Value) (_W : World) : Prop := match i with
 | 0 => v = .pointer (some ⟨g, 10, none⟩)
 | 1 => v = .agg (expC x.r q.A q.n q.c).toArray
 | 2 => v = .pointer (some ⟨g, 4, none⟩)
 | 3 => v = .agg (expC x.l p.A p.n p.c).toArray
 | 4 => v = .pointer (some ⟨g, 1, none⟩)
 | 5 => v = .agg (atomC x.atom a).toArray
 | 6 => v = .int .i64 l
 | 7 => v = .int .i64 (szA x.atom l)
 | 8 => v = .int .i64 (szE x.l (szA x.atom l))
 | 9 => v = .int .i64 (szLit x l)
 | _ => True
theorem op_assign {P : Program} {o : Oper} {a : Act} {w : World} {K : Act → World → Prop} {Q : Exit → Act → World → Prop} (x : Operand) (ho : o.op = .assign x ∨ o.op = .move x) (v : Value) (hx : a.eval x = v) (hk : K (a.put o.dst v) w) : o.wp P a w K Q := by
 refine op_val v ?_ hk; unfold execOp; rcases ho with ho | ho <;> simp [ho, hx]
theorem szRule_any (d : Nat) (x : GRule) (a b : Hd) (left : Int) (w : World) (hk : RuleAt d w w.heap.size x a b) (h0 : -100000000000 ≤ left) (h1 : left ≤ 100000) :
 Calls Tryz.prog 37 #[.agg (ruleC x a b).toArray, .int .i64 left] w (RetInt (szR x left) w) := by
 have mixed : Tryz.prog.follows .mixedOrders = true := by kernel_rfl
 have hn := hk.body.bound; have HK := hZ9 hk; have Hlen := hZ9 hk.body.1; obtain ⟨R, HR⟩ : ∃ R, Hid (R = szR x left) := ⟨_, rfl⟩
 rw [← HR.out]; have hrb : (w.alloc (.cells (ruleC x a b).toArray 56)).heap[w.heap.size]? = some (.cells (ruleC x a b).toArray 56 (0, 0)) := heapNew rfl; obtain ⟨b0, b1, b2, b3, b4, b5⟩ := facts6 hrb; have hb0 : Below w.heap.size w (w.alloc (.cells (ruleC x a b).toArray 56)) := belowA (Below.refl _ _) _; have HA := hZ9 (szAtom_any x.head a left _ (hk.args.mono' hb0.size (Kept.of hb0.block)) hk.rel (by omega) h1); have hR0 : Hid (R = szB (x.body.drop 0) (szA x.head left)) := by show _ = _; rw [HR.out]; rfl
 have hle := szA_le x.head left
 have hge : -1000000000000000 ≤ szA x.head left := by
  have h2 : x.head.rel.size ≤ 140737488351232 := hk.rel; unfold szA; cases hh : x.head.args with
  | nil => rw [szT]; omega
  | cons t ts => have := (show ∀ (ts : List GTold) (l : Int), -1000000000000000 ≤ l → -1000000000000000 ≤ szT ts l from fun ts => by
   induction ts with
   | nil => intro l h; rw [szT]; exact h
   | cons t ts ih => intro l h; rw [szT]; split; omega; exact ih _ (by omega)) (t :: ts) (left - (1 + ((x.head.rel.size / 50 : Nat) : Int))) (by omega); exact this
 generalize szA x.head left = l0 at *; clear hk hrb HR; go_enter Tryz.func37, Tryz.ntmps37
 go_wp2_with fail
 refine HA.out.mono ?_; rintro r w1 ⟨rfl, hb1⟩; have hrb1 := (hb1.block w.heap.size (by simp)).trans (heapNew (w := w) (o := .cells (ruleC x a b).toArray 56) rfl); obtain ⟨c0, c1, c2, c3, c4, c5⟩ := facts6 hrb1; have hbw1 := below_next hb0 hb1; clear hrb1 HA hb1 hb0 b0 b1 b2 b3 b4 b5; go_wp2_with fail
 obtain ⟨A, n, c⟩ := b; simp only [Hd.v] at *; go_loopw [1, 6, 14] (fun lv _ i wr => ∃ (j : Nat) (l : Int), j ≤ n ∧ i = .int .i64 j ∧ lv = .int .i64 l ∧ -1000000000000000 ≤ l ∧ l ≤ 100000 ∧ Hid (R = szB (x.body.drop j) l) ∧ Below w.heap.size w wr) (fun _ _ i _ => n - (intOf i).toNat)
 case atStart => exact ⟨0, l0, by omega, rfl, rfl, hge, by omega, hR0, hbw1⟩
 case round =>
  obtain ⟨j, l, hj, rfl, rfl, hl0, hl, HRj, hbr⟩ := hrel; have i0 : (0 : Int) ≤ (j : Int) := by omega
  by_cases hlt : j < n
  ·have i1 : (j : Int) < (n : Int) := by omega
   obtain ⟨b, o, y, a', p, q, hA, hb, hy, hl1, hr⟩ := (HK.out.keep hbr).body.lit_range hlt; simp only at hA; subst hA
   have HRk : Hid (R = if l < 0 then -1 else szB (x.body.drop (j + 1)) (szLit y l)) := by
    show _ = _; rw [HRj.out]; obtain ⟨g1, g2⟩ := List.getElem?_eq_some_iff.1 hy.out; rw [List.drop_eq_getElem_cons g1, g2, szB]
   have hba : Below wr.heap.size wr (wr.alloc (.cells (litC y a' p q).toArray 80)) := belowA (Below.refl _ _) _; have hgx : (wr.alloc (.cells (litC y a' p q).toArray 80)).heap[wr.heap.size]? = some (.cells (litC y a' p q).toArray 80 (0, 0)) := heapNew rfl; have HGx := hZ9 hgx; have HBa := hZ9 hba; have HL1 := hZ9 (hl1.keep hba); clear HRj hy hba hgx hl1; by_cases hneg : l < 0
   ·have HR1 : Hid (R = -1) := by show _ = _; rw [HRk.out, if_pos hneg]
    clear HRk
    go_wp2_with (first
     | refine wpList_load_mid rfl 80 (.tmp 16) rfl b (o + j * 17) rfl (litC y a' p q) _ hr.out Tryz.underlying80 rfl (lit_size y a' p q) ?_
     | refine wpList_new rfl rfl 80 6 (.tmp 17) rfl rfl rfl rfl _ (litC y a' p q).toArray lit_info rfl (lit_one y a' p q) rfl rfl ?_)
    go_ret; exact ⟨by rw [HR1.out]; rfl, below_next hbr HBa.out⟩
   ·have HR1 : Hid (R = szB (x.body.drop (j + 1)) (szLit y l)) := by show _ = _; rw [HRk.out, if_neg hneg]
    clear HRk
    go_wp2_with (first
     | refine wpList_load_mid rfl 80 (.tmp 16) rfl b (o + j * 17) rfl (litC y a' p q) _ hr.out Tryz.underlying80 rfl (lit_size y a' p q) ?_
     | refine wpList_new rfl rfl 80 6 (.tmp 17) rfl rfl rfl rfl _ (litC y a' p q).toArray lit_info rfl (lit_one y a' p q) rfl rfl ?_)
    have hA0 := szA_ge y.atom l HL1.out.rel; have hA1 := szA_le y.atom l; have hE0 := szE_ge d y.l p.A p.n p.c _ _ HL1.out.lk HL1.out.lx HL1.out.lv.2.2 (szA y.atom l); have hE1 := szE_le2 y.l (szA y.atom l); have hF0 := szE_ge d y.r q.A q.n q.c _ _ HL1.out.rk HL1.out.rx HL1.out.rv.2.2 (szE y.l (szA y.atom l)); have hF1 := szE_le2 y.r (szE y.l (szA y.atom l)); have q1 : y.l.t.x.size ≤ 140737488351232 := HL1.out.lx; have q2 : y.l.t.v.s.size ≤ 140737488351232 := HL1.out.lv.2.2; have q3 : y.r.t.x.size ≤ 140737488351232 := HL1.out.rx; have q4 : y.r.t.v.s.size ≤ 140737488351232 := HL1.out.rv.2.2; have C1 := hZ9 (fun (W : World) (h : Below (wr.alloc (.cells (litC y a' p q).toArray 80)).heap.size (wr.alloc (.cells (litC y a' p q).toArray 80)) W) => szAtom_any y.atom a' l W ((HL1.out.keep h).args) HL1.out.rel (by omega) hl); have C2 := hZ9 (fun (W : World) (h : Below (wr.alloc (.cells (litC y a' p q).toArray 80)).heap.size (wr.alloc (.cells (litC y a' p q).toArray 80)) W) => exp_any d y.l p.A p.n p.c (szA y.atom l) W ((HL1.out.keep h).lk) q1 q2 (by omega) (by omega)); have C3 := hZ9 (fun (W : World) (h : Below (wr.alloc (.cells (litC y a' p q).toArray 80)).heap.size (wr.alloc (.cells (litC y a' p q).toArray 80)) W) => exp_any d y.r q.A q.n q.c (szE y.l (szA y.atom l)) W ((HL1.out.keep h).rk) q3 q4 (by omega) (by omega)); have hS0 : -1000000000000000 ≤ szLit y l := by unfold szLit; omega
    have hS1 : szLit y l ≤ 100000 := by unfold szLit; omega
    have hbS : Below w.heap.size w (wr.alloc (.cells (litC y a' p q).toArray 80)) := below_next hbr HBa.out; clear hA0 hA1 hE0 hE1 hF0 hF1; generalize hwx : wr.alloc (.cells (litC y a' p q).toArray 80) = wx at *; refine drawn2 mixed 10 32 [20, 21, 22, 23, 24, 25, 26, 27, 28, 29] (fun _ W => Below wx.heap.size wx W) (szF y a' p q l wr.heap.size) (fun _ W W' => Below W.heap.size W W') rfl (by kernel_rfl) (by kernel_rfl) rfl (fun j _ => below_drewN _ 1 _) (fun i j v W W' _ _ _ h _ => by unfold szF at h ⊢; exact h) (fun _ _ _ _ _ _ _ _ h h' => below_next h h') ?_ ?_
    ·intro i o2 a2 W hi ho hd hold hG _ hw; have hr6 : a2.tmps[6]? = some (.pointer (some ⟨wr.heap.size, 0, none⟩)) := hold 6 (by kernel_rfl); have hr1 : a2.tmps[1]? = some (.int .i64 l) := hold 1 (by kernel_rfl); have hgW := (hG.block _ (glt HGx.out)).trans HGx.out; clear hold; match i, hi, ho with
     | 0, _, ho =>
       injection ho with ho; subst ho
       exact op_val _ (by simp [execOp, Act.eval, hr6, go_sem]) ⟨_, rfl, Below.refl _ _, rfl⟩
     | 1, _, ho =>
       injection ho with ho; subst ho
       obtain ⟨v0, h0, e0⟩ := hw 0 20 (by kernel_rfl); obtain rfl : v0 = _ := e0; exact wp_load_mid 78 (.tmp 20) rfl _ _ (eval_tmp h0) (expC y.r q.A q.n q.c) _ (range_off hgW rfl) Tryz.underlying78 rfl (exp_size _ _ _ _) ⟨_, rfl, Below.refl _ _, rfl⟩
     | 2, _, ho =>
       injection ho with ho; subst ho
       exact op_val _ (by simp [execOp, Act.eval, hr6, go_sem]) ⟨_, rfl, Below.refl _ _, rfl⟩
     | 3, _, ho =>
       injection ho with ho; subst ho
       obtain ⟨v0, h0, e0⟩ := hw 2 22 (by kernel_rfl); obtain rfl : v0 = _ := e0; exact wp_load_mid 78 (.tmp 22) rfl _ _ (eval_tmp h0) (expC y.l p.A p.n p.c) _ (range_off hgW rfl) Tryz.underlying78 rfl (exp_size _ _ _ _) ⟨_, rfl, Below.refl _ _, rfl⟩
     | 4, _, ho =>
       injection ho with ho; subst ho
       exact op_val _ (by simp [execOp, Act.eval, hr6, go_sem]) ⟨_, rfl, Below.refl _ _, rfl⟩
     | 5, _, ho =>
       injection ho with ho; subst ho
       obtain ⟨v0, h0, e0⟩ := hw 4 24 (by kernel_rfl); obtain rfl : v0 = _ := e0; exact wp_load_mid 53 (.tmp 24) rfl _ _ (eval_tmp h0) (atomC y.atom a') _ (range_off hgW rfl) Tryz.underlying53 rfl (atom_size _ _) ⟨_, rfl, Below.refl _ _, rfl⟩
     | 6, _, ho =>
       injection ho with ho; subst ho
       exact op_assign (.tmp 1) (.inr rfl) _ (eval_tmp hr1) ⟨_, rfl, Below.refl _ _, rfl⟩
     | 7, _, ho =>
       injection ho with ho; subst ho
       obtain ⟨v0, h0, e0⟩ := hw 5 25 (by kernel_rfl); obtain ⟨v1, h1, e1⟩ := hw 6 26 (by kernel_rfl); obtain rfl : v0 = _ := e0; obtain rfl : v1 = _ := e1; refine op_call 67 _ rfl rfl #[.agg (atomC y.atom a').toArray, .int .i64 l] (by simp [Act.eval, h0, h1]) _ Tryz.func67 (by kernel_rfl) (by kernel_rfl) ((C1.out W hG).mono ?_); rintro r w' ⟨rfl, hb⟩; exact ⟨_, rfl, _, rfl, hb, rfl⟩
     | 8, _, ho =>
       injection ho with ho; subst ho
       obtain ⟨v0, h0, e0⟩ := hw 3 23 (by kernel_rfl); obtain ⟨v1, h1, e1⟩ := hw 7 27 (by kernel_rfl); obtain rfl : v0 = _ := e0; obtain rfl : v1 = _ := e1; refine op_call 68 _ rfl rfl #[expV y.l p.A p.n p.c, .int .i64 (szA y.atom l)] (by simp [Act.eval, h0, h1]) _ Tryz.func68 (by kernel_rfl) (by kernel_rfl) ((C2.out W hG).mono ?_); rintro r w' ⟨rfl, hb⟩; exact ⟨_, rfl, _, rfl, hb, rfl⟩
     | 9, _, ho =>
       injection ho with ho; subst ho
       obtain ⟨v0, h0, e0⟩ := hw 1 21 (by kernel_rfl); obtain ⟨v1, h1, e1⟩ := hw 8 28 (by kernel_rfl); obtain rfl : v0 = _ := e0; obtain rfl : v1 = _ := e1; refine op_call 68 _ rfl rfl #[expV y.r q.A q.n q.c, .int .i64 (szE y.l (szA y.atom l))] (by simp [Act.eval, h0, h1]) _ Tryz.func68 (by kernel_rfl) (by kernel_rfl) ((C3.out W hG).mono ?_); rintro r w' ⟨rfl, hb⟩; exact ⟨_, rfl, _, rfl, hb, rfl⟩
     | n + 10, hi, _ => omega
    ·intro o2 u W ho hG hw; have e0 := hw 9 29 (by decide) (by kernel_rfl); have hbn := below_next hbS hG; injection ho with ho; subst ho
     simp only [List.foldl_cons, List.foldl_nil, Act.put, List.setIfInBounds_toArray, List.set_cons_zero, List.set_cons_succ]; rw [show u 29 = Value.int .i64 (szLit y l) from e0]; refine op_assign (.tmp 29) (.inl rfl) _ rfl ?_; clear hw e0 C1 C2 C3 HK HL1 HGx HBa; go_wp2_with fail
     go_roundw
     case rel => exact ⟨j + 1, szLit y l, by omega, by go_num, rfl, hS0, hS1, HR1, hbn⟩
     case measure => simp [intOf]; omega
  ·have i1 : ¬ (j : Int) < (n : Int) := by omega
   have HR1 : Hid (R = l) := by
    show _ = _; rw [HRj.out, List.drop_eq_nil_of_le (by have := Hlen.out; omega), szB]
   clear HRj; go_wp2_with fail
   go_ret; exact ⟨by rw [HR1.out]; rfl, hbr⟩
theorem szB_ge (d : Nat) : ∀ (xs : List GLit) (l : Int), (∀ y ∈ xs, ∀ l : Int, 0 ≤ l → -100000000000000 ≤ szLit y l) → min l (-100000000000000) ≤ szB xs l
 | [], l, _ => by rw [szB]; omega
 | x :: xs, l, h => by
   rw [szB]; split
   ·omega
   ·have h1 := h x (by simp) l (by omega); have h2 := szB_ge d xs (szLit x l) (fun q hq => h q (by simp [hq])); omega
theorem szLit_ge {d : Nat} {w : World} {B : Nat} {y : GLit} {a p q : Hd} (h : LitAt d w B y a p q) (l : Int) (hl : 0 ≤ l) : -100000000000000 ≤ szLit y l := by
 have hA0 := szA_ge y.atom l h.rel; have hE0 := szE_ge d y.l p.A p.n p.c _ _ h.lk h.lx h.lv.2.2 (szA y.atom l); have hF0 := szE_ge d y.r q.A q.n q.c _ _ h.rk h.rx h.rv.2.2 (szE y.l (szA y.atom l)); unfold szLit; omega
theorem szR_ge {d : Nat} {w : World} {B : Nat} {x : GRule} {a b : Hd} (h : RuleAt d w B x a b) (l : Int) (hl : -1 ≤ l) : -100000000000000 ≤ szR x l := by
 have hA0 := szA_ge x.head l h.rel
 have := szB_ge d x.body (szA x.head l) (fun y hy l hl => by
  obtain ⟨i, hi⟩ := List.mem_iff_getElem?.1 hy; have hil : i < b.n := by rw [← h.body.1]; exact (List.getElem?_eq_some_iff.1 hi).1
  obtain ⟨bb, o, y', a', p', q', -, -, hy', hl1, -⟩ := h.body.lit_at hil; have e1 : y' = y := by have := hy'.out; rw [hi] at this; injection this with this; exact this.symm
  subst e1
  exact szLit_ge hl1 l hl)
 unfold szR; omega
theorem size_any (d : Nat) (x : GProg) (a b : Hd) (w : World) (hk : ProgAt d w w.heap.size x a b) : Calls Tryz.prog 16 #[.agg (progC a b).toArray, .int .i64 1500] w (fun r w' => ∃ R : Int, r = .returned (.int .i64 R) ∧ (0 ≤ R ↔ 0 ≤ szP x 1500) ∧ Below w.heap.size w w') := by
 have hn := hk.decls.bound; have hm := hk.rules.bound; have HK := hZ9 hk; have Hlen := hZ9 hk.decls.1; have Hlen2 := hZ9 hk.rules.1; obtain ⟨P, HP⟩ : ∃ P : Ending → World → Prop, Hid (P = (fun r w' => ∃ R : Int, r = .returned (.int .i64 R) ∧ (0 ≤ R ↔ 0 ≤ szP x 1500) ∧ Below w.heap.size w w')) := ⟨_, rfl⟩
 rw [← HP.out]; have hrb : (w.alloc (.cells (progC a b).toArray 26)).heap[w.heap.size]? = some (.cells (progC a b).toArray 26 (0, 0)) := heapNew rfl; obtain ⟨b0, b1⟩ := facts2 hrb; have hb0 : Below w.heap.size w (w.alloc (.cells (progC a b).toArray 26)) := belowA (Below.refl _ _) _; obtain ⟨A, n, c⟩ := a; obtain ⟨A2, m, c2⟩ := b; simp only [Hd.v] at *; have HRb := hZ9 hrb; clear hk hrb; go_enter Tryz.func16, Tryz.ntmps16
 go_wp2_with fail
 go_loopw [1, 6, 12] (fun lv _ i wr => ∃ (j : Nat) (l : Int), j ≤ n ∧ i = .int .i64 j ∧ lv = .int .i64 l ∧ 0 ≤ l ∧ l ≤ 1500 ∧ Hid (szD x.decls 1500 = szD (x.decls.drop j) l) ∧ Hid (wr.heap[w.heap.size]? = some (.cells (progC ⟨A, n, c⟩ ⟨A2, m, c2⟩).toArray 26 (0, 0))) ∧ Below w.heap.size w wr) (fun _ _ i _ => n - (intOf i).toNat)
 case atStart => exact ⟨0, 1500, by omega, rfl, rfl, by omega, by omega, rfl, HRb, hb0⟩
 case round =>
  obtain ⟨j, l, hj, rfl, rfl, hl0, hl, HRj, Hg, hbr⟩ := hrel; have i0 : (0 : Int) ≤ (j : Int) := by omega
  by_cases hlt : j < n
  ·have i1 : (j : Int) < (n : Int) := by omega
   obtain ⟨bb, o, y, aa, hA, hb, hy, hat, y0, y1, y2⟩ := (HK.out.keep hbr).decls.decl_at hlt; simp only at hA; subst hA; have hs1 : y.rel.size ≤ 140737488351232 := hat.rel; have hs2 := hat.kinds.bound; have hs3 := hat.kinds.1; obtain ⟨c1, hc1, hc2'⟩ : ∃ c1 : Nat, (y.rel.size : Int).tdiv 50 = (c1 : Int) ∧ c1 = y.rel.size / 50 := ⟨y.rel.size / 50, by rw [Int.tdiv_eq_ediv_of_nonneg (by omega)]; omega, rfl⟩
   have HRk : Hid (szD x.decls 1500 = if l - (1 + (c1 : Int) + (aa.n : Int)) < 0 then -1 else szD (x.decls.drop (j + 1)) (l - (1 + (c1 : Int) + (aa.n : Int)))) := by
    show _ = _; rw [HRj.out]; obtain ⟨g1, g2⟩ := List.getElem?_eq_some_iff.1 hy.out; rw [List.drop_eq_getElem_cons g1, g2, szD, hc2', hs3]
   have hc3 : c1 ≤ 5629499534050 := by omega
   have hba : Below wr.heap.size wr (wr.alloc (.cells (declC y aa).toArray 94)) := belowA (Below.refl _ _) _; have hbw := below_next hbr hba; have Hg2 : Hid ((wr.alloc (.cells (declC y aa).toArray 94)).heap[w.heap.size]? = some (.cells (progC ⟨some ⟨bb, o, none⟩, n, c⟩ ⟨A2, m, c2⟩).toArray 26 (0, 0))) := heapOld Hg.out; obtain ⟨Aa, na, ca⟩ := aa; simp only [Hd.v] at *; clear HRj hy hc2' hat hs3 hba; by_cases hneg : l - (1 + (c1 : Int) + (na : Int)) < 0
   ·have hpost : P (.returned (.int .i64 (-1))) (wr.alloc (.cells (declC y ⟨Aa, na, ca⟩).toArray 94)) := by
     rw [HP.out]; refine ⟨-1, rfl, ?_, hbw⟩; have h9 := HRk.out; rw [if_pos hneg] at h9; unfold szP; rw [h9]; simp
    have HPo := hZ9 hpost; clear HRk hpost; go_wp2_with fail
    first | exact HPo.out | (go_ret; exact HPo.out)
   ·have HR1 : Hid (szD x.decls 1500 = szD (x.decls.drop (j + 1)) (l - (1 + (c1 : Int) + (na : Int)))) := by show _ = _; rw [HRk.out, if_neg hneg]
    clear HRk; go_wp2_with fail
    go_roundw
    case rel => exact ⟨j + 1, l - (1 + (c1 : Int) + (na : Int)), by omega, by go_num, by go_num, by omega, by omega, HR1, Hg2, hbw⟩
    case measure => simp [intOf]; omega
  ·have i1 : ¬ (j : Int) < (n : Int) := by omega
   have hD : Hid (szD x.decls 1500 = l) := by
    show _ = _; rw [HRj.out, List.drop_eq_nil_of_le (by have := Hlen.out; omega), szD]
   have hP0 : Hid (szP x 1500 = szRs (x.rules.drop 0) l) := by
    show _ = _; unfold szP; rw [hD.out, if_neg (by omega)]; rfl
   obtain ⟨c0, c1⟩ := facts2 Hg.out; dsimp only [Hd.v] at c0 c1; clear HRj; go_wp2_with fail
   go_loopw [1, 8, 33] (fun lv _ i wr => ∃ (j : Nat) (l : Int), j ≤ m ∧ i = .int .i64 j ∧ lv = .int .i64 l ∧ 0 ≤ l ∧ l ≤ 1500 ∧ Hid (szP x 1500 = szRs (x.rules.drop j) l) ∧ Below w.heap.size w wr) (fun _ _ i _ => m - (intOf i).toNat)
   case atStart => exact ⟨0, l, by omega, rfl, rfl, hl0, hl, hP0, hbr⟩
   case round =>
    clear hP0 hD hl0 hl; obtain ⟨j2, l2, hj2, rfl, rfl, hl0, hl, HRj, hbr2⟩ := hrel; have k0 : (0 : Int) ≤ (j2 : Int) := by omega
    by_cases hlt2 : j2 < m
    ·have k1 : (j2 : Int) < (m : Int) := by omega
     obtain ⟨bb, o, y, aa, mm, hA, hb, hy, hat, y0, y1, y2, y3, y4, y5⟩ := (HK.out.keep hbr2).rules.rule_at hlt2; simp only at hA; subst hA
     have HRk : Hid (szP x 1500 = if szR y (l2 - 1) < 0 then -1 else szRs (x.rules.drop (j2 + 1)) (szR y (l2 - 1))) := by
      show _ = _; rw [HRj.out]; obtain ⟨g1, g2⟩ := List.getElem?_eq_some_iff.1 hy.out; rw [List.drop_eq_getElem_cons g1, g2, szRs]
     have hba : Below wr.heap.size wr (wr.alloc (.cells (ruleC y aa mm).toArray 56)) := belowA (Below.refl _ _) _; have HC := hZ9 (szRule_any d y aa mm (l2 - 1) (wr.alloc (.cells (ruleC y aa mm).toArray 56)) (hat.keep hba) (by omega) (by omega)); have hbw := below_next hbr2 hba; have hle := szR_le y (l2 - 1); have hge := szR_ge hat (l2 - 1) (by omega); generalize szR y (l2 - 1) = l3 at *; clear HRj hy hba hat; go_wp2_with fail
     refine HC.out.mono ?_; rintro r w2 ⟨rfl, hb2⟩; have hbn := below_next hbw hb2; clear HC hb2 hbw; by_cases hneg : l3 < 0
     ·have hpost : P (.returned (.int .i64 (-1))) w2 := by
       rw [HP.out]; refine ⟨-1, rfl, ?_, hbn⟩; have h9 := HRk.out; rw [if_pos hneg] at h9; rw [h9]
      have HPo := hZ9 hpost; clear HRk hpost; go_wp2_with fail
      first | exact HPo.out | (go_ret; exact HPo.out)
     ·have HR1 : Hid (szP x 1500 = szRs (x.rules.drop (j2 + 1)) l3) := by show _ = _; rw [HRk.out, if_neg hneg]
      clear HRk; go_wp2_with fail
      go_roundw
      case rel => exact ⟨j2 + 1, l3, by omega, by go_num, rfl, by omega, by omega, HR1, hbn⟩
      case measure => simp [intOf]; omega
    ·have k1 : ¬ (j2 : Int) < (m : Int) := by omega
     have hpost : P (.returned (.int .i64 l2)) wr := by
      rw [HP.out]; refine ⟨l2, rfl, ?_, hbr2⟩; rw [HRj.out, List.drop_eq_nil_of_le (by have := Hlen2.out; omega), szRs]
     have HPo := hZ9 hpost; clear HRj hpost; go_wp2_with fail
     first | exact HPo.out | (go_ret; exact HPo.out)
end Go.Proofs.YtaeedepojpablaaGreatDoor

namespace Go.Proofs.YtaeedepojpablaaGreatDoor
open Go.RowKit
def KMap (w : World) (v : Value) (l : Kinds) : Prop := (v = .map none ∧ l = []) ∨ ∃ km, v = .map (some km) ∧ MapIs w km (kvsOf l)
def KiPost (l : Kinds) (w : World) (e : Ending) (w' : World) : Prop := ∃ v, e = .returned v ∧ KMap w' v l ∧ Below w.heap.size w w'
theorem tyKinds_any (d : Nat) (x : GProg) (aA : Option Addr) (an ac : Nat) (bA : Option Addr) (bn bc : Nat) (y : GRule) (a b : Hd) (w : World) (hx : ProgAt d w w.heap.size x ⟨aA, an, ac⟩ ⟨bA, bn, bc⟩) (hy : RuleAt d w w.heap.size y a b) (hW : LexW w) :
 Calls Tryz.prog 20 #[.agg (progC ⟨aA, an, ac⟩ ⟨bA, bn, bc⟩).toArray, .agg (ruleC y a b).toArray] w (KiPost (if formedB x && rightRule y then kindsR x.decls y else []) w) := by
 obtain ⟨hA, hn, hc⟩ := a; obtain ⟨mA, mn, mc⟩ := b; obtain ⟨V, hV⟩ : ∃ V, V = (w.alloc (.cells #[.slice aA an ac, .slice bA bn bc] 26)).alloc (.cells (ruleC y ⟨hA, hn, hc⟩ ⟨mA, mn, mc⟩).toArray 56) := ⟨_, rfl⟩
 have HVe := hZ9 hV.symm; have hb : Below w.heap.size w V := by rw [hV]; exact belowA (belowA (Below.refl _ _) _) _
 have hr0 : V.heap[w.heap.size]? = some (.cells #[.slice aA an ac, .slice bA bn bc] 26 (0, 0)) := by rw [hV]; exact heapOld (heapNew rfl)
 have hr1 : V.heap[w.heap.size + 1]? = some (.cells (ruleC y ⟨hA, hn, hc⟩ ⟨mA, mn, mc⟩).toArray 56 (0, 0)) := by rw [hV]; exact heapNew (by simp)
 have hgl0 := (glt hr0)
 have hgl1 := (glt hr1)
 obtain ⟨c0, c1⟩ := facts2 hr0; have HB := hZ9 hb; have HX := hZ9 (hx.keep hb); have HY := hZ9 (hy.keep hb); have HWV := hZ9 (hW.on hb); have HC : Hid (∀ W, Below V.heap.size V W → W.cell? ⟨w.heap.size, 0, none⟩ = some (.slice aA an ac) ∧ W.cell? ⟨w.heap.size, 1, none⟩ = some (.slice bA bn bc)) := fun W hW => facts2 ((hW.block _ hgl0).trans hr0)
 have HR : Hid (∀ W, Below V.heap.size V W → W.heap[w.heap.size + 1]? = some (.cells (ruleC y ⟨hA, hn, hc⟩ ⟨mA, mn, mc⟩).toArray 56 (0, 0))) := fun W hW => (hW.block _ hgl1).trans hr1
 have HF := hZ9 (formed_any d x ⟨aA, an, ac⟩ ⟨bA, bn, bc⟩ V HX.out HWV.out); obtain ⟨P, HP⟩ : ∃ P : Ending → World → Prop, Hid (P = KiPost (if formedB x && rightRule y then kindsR x.decls y else []) w) := ⟨_, rfl⟩
 rw [← HP.out]; clear hx hy hW hV hb hr0 hr1; go_enter Tryz.func20, Tryz.ntmps20
 go_wp2_with (rw [HVe.out])
 refine HF.out.mono ?_; rintro e w1 ⟨rfl, hb1⟩; have HB1 := hZ9 hb1; clear hb1 HF c0 c1
 have HNo : Hid (∀ W, (formedB x && rightRule y) = false → Below V.heap.size V W → P (.returned (.map none)) W) := fun W h1 h2 => by
  rw [HP.out, h1]; exact ⟨_, rfl, .inl ⟨rfl, rfl⟩, HB.out.trans (h2.mono HB.out.size)⟩
 have HYes : Hid (∀ W km, (formedB x && rightRule y) = true → MapIs W km (kvsOf (kindsR x.decls y)) → Below V.heap.size V W → P (.returned (.map (some km))) W) := fun W km h1 h3 h2 => by
  rw [HP.out, h1]; exact ⟨_, rfl, .inr ⟨km, rfl, h3⟩, HB.out.trans (h2.mono HB.out.size)⟩
 cases hfo : formedB x with
 | false =>
   have HE := hZ9 (HNo.out w1 (by rw [hfo]; rfl) HB1.out); clear hfo HNo HYes; go_wp2_with fail
   first | exact HE.out | (go_ret2; exact HE.out)
 | true =>
   have HRR := hZ9 (rightRule_any d y ⟨hA, hn, hc⟩ ⟨mA, mn, mc⟩ w1 (HY.out.keep HB1.out) (HWV.out.on HB1.out)); have Hfo := hZ9 hfo; clear hfo; obtain ⟨r0, r1, r2, r3, r4, r5⟩ := facts6 (HR.out w1 HB1.out); dsimp only [Hd.v] at r1 r4; go_wp2_with fail
   refine HRR.out.mono ?_; rintro e w2 ⟨rfl, hb2⟩; have hB2 : Below V.heap.size V w2 := HB1.out.trans (hb2.mono HB1.out.size); have HB2 := hZ9 hB2; clear hb2 HRR r0 r1 r2 r3 r4 r5; cases hrr : rightRule y with
   | false =>
     have HE := hZ9 (HNo.out w2 (by rw [hrr, Bool.and_false]) HB2.out); clear hrr HNo HYes; go_wp2_with fail
     first | exact HE.out | (go_ret2; exact HE.out)
   | true =>
     obtain ⟨c0, c1⟩ := HC.out w2 hB2; have HRw2 := hZ9 (row_cells (HR.out w2 hB2)); have HBg := hZ9 (begin_any d aA an ac bA bn bc x.decls y ⟨hA, hn, hc⟩ ⟨mA, mn, mc⟩ w2 ((HX.out.keep hB2).decls) (formed_kinds Hfo.out) (HY.out.keep hB2)); have HY2 := hZ9 (fun W km => HYes.out W km (by rw [Hfo.out, hrr]; rfl)); clear hrr hB2 HNo HYes; go_wp2_with (refine wpList_load_at (w.heap.size + 1) 0 (ruleC y ⟨hA, hn, hc⟩ ⟨mA, mn, mc⟩) _ HRw2.out Tryz.underlying56 rfl (rule_sizeY _ _ _) rfl rfl ?_)
     refine HBg.out.mono ?_; rintro e w3 ⟨g, km, l0, rfl, hs3⟩; have HE := hZ9 (HY2.out w3 km hs3.map (HB2.out.trans (hs3.b0.mono HB2.out.size))); have c8 := hs3.at_.map; clear hs3 HBg HY2 c0 c1; go_wp2_with fail
     first | exact HE.out | (go_ret2; exact HE.out)
end Go.Proofs.YtaeedepojpablaaGreatDoor
