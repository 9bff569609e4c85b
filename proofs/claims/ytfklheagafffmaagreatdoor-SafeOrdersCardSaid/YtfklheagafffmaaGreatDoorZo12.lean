/- My own texts TSize, ShowSz, PaLaw, as far as this claim needs them. -/
import Derived.Test.YtfklheagafffmaaGreatDoorZo3
import Derived.Test.YtfklheagafffmaaGreatDoorZo9
import Derived.Test.YtfklheagafffmaaGreatDoorZo10
import Derived.Test.YtfklheagafffmaaGreatDoorZo11
set_option linter.unusedVariables false
set_option linter.unusedSimpArgs false
namespace Go.Proofs.YtfklheagafffmaaGreatDoor
open Go.RowKit
def szT : List GTold → Int → Int
  | [], l => l
  | t :: ts, l => if l - (1 + (((t.x.size + t.v.s.size) / 50 : Nat) : Int)) < 0 then -1 else szT ts (l - (1 + (((t.x.size + t.v.s.size) / 50 : Nat) : Int)))
def szA (x : GAtom) (l : Int) : Int := szT x.args (l - (1 + ((x.rel.size / 50 : Nat) : Int)))
def szLit (x : GLit) (l : Int) : Int := szE x.r (szE x.l (szA x.atom l))
def szB : List GLit → Int → Int
  | [], l => l
  | x :: xs, l => if l < 0 then -1 else szB xs (szLit x l)
def szR (x : GRule) (l : Int) : Int := szB x.body (szA x.head l)
theorem szT_le : ∀ (ts : List GTold) (l : Int), szT ts l ≤ max l (-1)
  | [], l => by rw [szT]; omega
  | t :: ts, l => by
    rw [szT]
    split
    · omega
    · have := szT_le ts (l - (1 + (((t.x.size + t.v.s.size) / 50 : Nat) : Int)))
      omega
theorem szA_le (x : GAtom) (l : Int) : szA x l ≤ max l (-1) := by
  have := szT_le x.args (l - (1 + ((x.rel.size / 50 : Nat) : Int)))
  unfold szA; omega
theorem szE_le2 (e : GExp) (l : Int) : szE e l ≤ max l (-1) := by
  rw [szE_def]
  have := szL_le e.kids (l - (1 + (((e.t.x.size + e.t.v.s.size) / 50 : Nat) : Int)))
  omega
theorem szLit_le (x : GLit) (l : Int) : szLit x l ≤ max l (-1) := by
  have h1 := szA_le x.atom l
  have h2 := szE_le2 x.l (szA x.atom l)
  have h3 := szE_le2 x.r (szE x.l (szA x.atom l))
  unfold szLit; omega
theorem szT_ge : ∀ (ts : List GTold) (l : Int), min l (-1) ≤ szT ts l
  | [], l => by rw [szT]; omega
  | t :: ts, l => by
    rw [szT]
    split
    · omega
    · have := szT_ge ts (l - (1 + (((t.x.size + t.v.s.size) / 50 : Nat) : Int)))
      omega
theorem szA_ge (x : GAtom) (l : Int) (h : x.rel.size ≤ reachN) : min (l - 2814749767106) (-1) ≤ szA x l := by
  have := szT_ge x.args (l - (1 + ((x.rel.size / 50 : Nat) : Int)))
  have h2 : x.rel.size ≤ 140737488351232 := h
  unfold szA; omega
theorem szL_ge : ∀ (ks : List GExp) (l : Int), (∀ k ∈ ks, ∀ l : Int, 0 ≤ l → -5629499534051 ≤ szE k l) → min l (-5629499534051) ≤ szL ks l
  | [], l, _ => by rw [szL]; omega
  | k :: ks, l, h => by
    rw [szL]
    split
    · omega
    · have h1 := h k (by simp) l (by omega)
      have h2 := szL_ge ks (szE k l) (fun q hq => h q (by simp [hq]))
      omega
theorem szE_ge : ∀ (d : Nat) (e : GExp) (A : Option Addr) (n c : Nat) (w : World) (B : Nat), SliceIs (Enc.exp d) w B A n c e.kids → e.t.x.size ≤ reachN → e.t.v.s.size ≤ reachN → ∀ l : Int, min (l - 5629499534051) (-5629499534051) ≤ szE e l := by
  intro d
  induction d using Nat.strongRecOn with
  | ind d ih =>
    intro e A n c w B hk hx hv l
    have hx' : e.t.x.size ≤ 140737488351232 := hx
    have hv' : e.t.v.s.size ≤ 140737488351232 := hv
    rw [szE_def]
    have := szL_ge e.kids (l - (1 + (((e.t.x.size + e.t.v.s.size) / 50 : Nat) : Int))) (fun k hk' l hl => by
      obtain ⟨i, hi⟩ := List.mem_iff_getElem?.1 hk'
      have hil : i < n := by rw [← hk.1]; exact (List.getElem?_eq_some_iff.1 hi).1
      obtain ⟨b, o, k', A', n', c', d', -, -, hk2, hd, -, -, -, -, -, -, -, f1, f2, hkk⟩ := hk.exp_at hil
      have e1 : k' = k := by have := hk2.out; rw [hi] at this; injection this with this; exact this.symm
      subst e1
      have := ih d' (by omega) k' A' n' c' w B hkk f1 f2.2.2 l
      omega)
    omega
theorem szT_len : ∀ (ts : List GTold) (l : Int), 0 ≤ szT ts l → (ts.length : Int) ≤ l - szT ts l ∧ 0 ≤ l
  | [], l, h => by rw [szT] at h ⊢; simp; exact h
  | t :: ts, l, h => by
    rw [szT] at h ⊢
    split at h
    · omega
    · rename_i hl
      rw [if_neg hl]
      have := szT_len ts _ h
      simp only [List.length_cons]
      omega
theorem szA_len {x : GAtom} {l : Int} (h : 0 ≤ szA x l) : (x.args.length : Int) + 1 ≤ l - szA x l ∧ 1 ≤ l := by
  unfold szA at h ⊢
  have := szT_len _ _ h
  omega
theorem szLit_len {x : GLit} {l : Int} (h : 0 ≤ szLit x l) : (x.atom.args.length : Int) + (leavesE x.l).length + (leavesE x.r).length + 1 ≤ l - szLit x l ∧ 1 ≤ l ∧ (∃ l', 0 ≤ szE x.l l' ∧ l' ≤ l) ∧ ∃ l', 0 ≤ szE x.r l' ∧ l' ≤ l := by
  unfold szLit at h ⊢
  have h1 := szE_pos _ _ h
  have h2 := szE_pos _ _ (by omega : 0 ≤ szE x.l (szA x.atom l))
  have h3 := szA_len (x := x.atom) (l := l) (by omega)
  have h4 := leavesE_len x.l _ (by omega : 0 ≤ szE x.l (szA x.atom l))
  have h5 := leavesE_len x.r _ h
  exact ⟨by omega, h3.2, ⟨szA x.atom l, by omega, by omega⟩, ⟨szE x.l (szA x.atom l), h, by omega⟩⟩
/-- a literal of at most 1500 things -/
structure SmLit (x : GLit) : Prop where
  args : x.atom.args.length ≤ 1500
  l : Sm x.l
  r : Sm x.r
  all : x.atom.args.length + ((leavesE x.l).length + (leavesE x.r).length) ≤ 1500
theorem szB_all : ∀ (xs : List GLit) (l : Int), 0 ≤ szB xs l → l ≤ 1500 → (xs.length : Int) + ((xs.flatMap (fun x => x.atom.args ++ (leavesE x.l ++ leavesE x.r))).length : Int) ≤ l - szB xs l ∧ 0 ≤ l ∧ ∀ x ∈ xs, SmLit x
  | [], l, h, hl => by rw [szB] at h ⊢; exact ⟨by simp, h, fun _ h => by cases h⟩
  | x :: xs, l, h, hl => by
    rw [szB] at h ⊢
    split at h
    · omega
    · rename_i hn
      rw [if_neg hn]
      have h1 := szLit_le x l
      obtain ⟨h2, h3, h4⟩ := szB_all xs _ h (by omega)
      obtain ⟨h5, h6, ⟨l1, h7, h8⟩, ⟨l2, h9, h10⟩⟩ := szLit_len h3
      refine ⟨?_, by omega, fun y hy => ?_⟩
      · simp only [List.length_cons, List.flatMap_cons, List.length_append]
        omega
      · rcases List.mem_cons.1 hy with rfl | hy
        · exact ⟨by omega, Sm.of h7 (by omega), Sm.of h9 (by omega), by omega⟩
        · exact h4 y hy
/-- a rule of at most 1500 things -/
structure SmRule (x : GRule) : Prop where
  args : x.head.args.length ≤ 1500
  body : x.body.length ≤ 1500
  lits : ∀ y ∈ x.body, SmLit y
  all : x.head.args.length + (x.body.flatMap (fun x => x.atom.args ++ (leavesE x.l ++ leavesE x.r))).length ≤ 1500
theorem szR_all {x : GRule} {l : Int} (h : 0 ≤ szR x l) (hl : l ≤ 1500) : SmRule x ∧ 1 ≤ l ∧ szR x l + 1 ≤ l := by
  unfold szR at h ⊢
  have h0 := szA_le x.head l
  obtain ⟨h1, h2, h3⟩ := szB_all _ _ h (by omega)
  have h4 := szA_len h2
  exact ⟨⟨by omega, by omega, h3, by omega⟩, h4.2, by omega⟩
abbrev atomC (x : GAtom) (a : Hd) : List Value := [.string x.rel, a.v]
set_option maxRecDepth 100000 in
set_option maxHeartbeats 2000000 in
theorem szAtom_any (x : GAtom) (a : Hd) (left : Int) (w : World) (hk : SliceIs Enc.told w w.heap.size a.A a.n a.c x.args) (hx : x.rel.size ≤ reachN) (h0 : -100000000000000 ≤ left) (h1 : left ≤ 100000) :
    Calls Tryz.prog 26 #[.agg (atomC x a).toArray, .int .i64 left] w (RetInt (szA x left) w) := by
  have hn := hk.bound
  have HK := Lib.hid hk
  have Hlen := Lib.hid hk.1
  obtain ⟨R, HR⟩ : ∃ R, Hid (R = szA x left) := ⟨_, rfl⟩
  rw [← HR.out]
  have hx' : x.rel.size ≤ 140737488351232 := hx
  obtain ⟨c0, hc0, hc1⟩ : ∃ c0 : Nat, (x.rel.size : Int).tdiv 50 = (c0 : Int) ∧ c0 = x.rel.size / 50 := ⟨x.rel.size / 50, by rw [Int.tdiv_eq_ediv_of_nonneg (by omega)]; omega, rfl⟩
  have HR2 : Hid (R = szT (x.args.drop 0) (left - (1 + (c0 : Int)))) := by show _ = _; rw [HR.out, hc1]; rfl
  have hc2 : c0 ≤ 2814749767025 := by omega
  have hrb : (w.alloc (.cells (atomC x a).toArray 24)).heap[w.heap.size]? = some (.cells (atomC x a).toArray 24 (0, 0)) := heapNew rfl
  obtain ⟨b0, b1⟩ := facts2 hrb
  have hb0 : Below w.heap.size w (w.alloc (.cells (atomC x a).toArray 24)) := belowA (Below.refl _ _) _
  obtain ⟨A, n, c⟩ := a
  simp only [Hd.v] at *
  clear hk hrb hc1 HR
  go_enter Tryz.func26, Tryz.ntmps26
  go_wp2_with fail
  go_loopw [1, 6, 17] (fun lv _ i wr => ∃ (j : Nat) (l : Int), j ≤ n ∧ i = .int .i64 j ∧ lv = .int .i64 l ∧ -1000000000000000 ≤ l ∧ l ≤ 100000 ∧ Hid (R = szT (x.args.drop j) l) ∧ (0 < j → 0 ≤ l) ∧ Below w.heap.size w wr) (fun _ _ i _ => n - (intOf i).toNat)
  case atStart => exact ⟨0, left - (1 + (c0 : Int)), by omega, rfl, by go_num, by omega, by omega, HR2, by omega, hb0⟩
  case round =>
    obtain ⟨j, l, hj, rfl, rfl, hl0, hl, HRj, hjl, hbr⟩ := hrel
    have i0 : (0 : Int) ≤ (j : Int) := by omega
    by_cases hlt : j < n
    · have i1 : (j : Int) < (n : Int) := by omega
      obtain ⟨b, o, t, rfl, hb, ht, x0, x1, x2, x3, f1, f2⟩ := (HK.out.below hbr).told_at hlt
      have hs1 : t.x.size ≤ 140737488351232 := f1
      have hs2 : t.v.s.size ≤ 140737488351232 := f2.2.2
      obtain ⟨c1, hc1, hc2'⟩ : ∃ c1 : Nat, ((t.x.size : Int) + (t.v.s.size : Int)).tdiv 50 = (c1 : Int) ∧ c1 = (t.x.size + t.v.s.size) / 50 := ⟨(t.x.size + t.v.s.size) / 50, by rw [Int.tdiv_eq_ediv_of_nonneg (by omega)]; omega, rfl⟩
      have HRk : Hid (R = if l - (1 + (c1 : Int)) < 0 then -1 else szT (x.args.drop (j + 1)) (l - (1 + (c1 : Int)))) := by
        show _ = _
        rw [HRj.out]
        obtain ⟨g1, g2⟩ := List.getElem?_eq_some_iff.1 ht.out
        rw [List.drop_eq_getElem_cons g1, g2, szT, hc2']
      have hc3 : c1 ≤ 5629499534050 := by omega
      have hba : Below w.heap.size w (wr.alloc (.cells (GTold.cells t).toArray 65)) := belowA hbr _
      clear HRj ht hc2'
      by_cases hneg : l - (1 + (c1 : Int)) < 0
      · have HR1 : Hid (R = -1) := by show _ = _; rw [HRk.out, if_pos hneg]
        clear HRk
        go_wp2_with fail
        go_ret
        exact ⟨by rw [HR1.out]; rfl, hba⟩
      · have HR1 : Hid (R = szT (x.args.drop (j + 1)) (l - (1 + (c1 : Int)))) := by show _ = _; rw [HRk.out, if_neg hneg]
        clear HRk
        go_wp2_with fail
        go_roundw
        case rel => exact ⟨j + 1, l - (1 + (c1 : Int)), by omega, by go_num, by go_num, by omega, by omega, HR1, by omega, hba⟩
        case measure => simp [intOf]; omega
    · have i1 : ¬ (j : Int) < (n : Int) := by omega
      have HR1 : Hid (R = l) := by
        show _ = _
        rw [HRj.out, List.drop_eq_nil_of_le (by have := Hlen.out; omega), szT]
      clear HRj
      go_wp2_with fail
      go_ret
      exact ⟨by rw [HR1.out]; rfl, hbr⟩
theorem range_off {w : World} {g o : Nat} {T : TypeId} {cs cs' : List Value} (h : w.heap[g]? = some (.cells cs.toArray T (0, 0))) (hc : (cs.drop o).take cs'.length = cs') : w.rangeAt g o cs' := fun j v hj => by
  rw [cell_of_row _ _ _ _ _ _ h]
  rw [← hc, List.getElem?_take] at hj
  split at hj
  · rw [List.getElem?_drop] at hj; simpa using hj
  · cases hj
theorem exp_size (e : GExp) (A : Option Addr) (n c : Nat) : (Tryz.prog.info? 68).map (·.size) = some (expC e A n c).length := by
  show _ = some 6
  kernel_rfl
theorem atom_size (x : GAtom) (a : Hd) : (Tryz.prog.info? 24).map (·.size) = some (atomC x a).length := by
  show _ = some 2
  kernel_rfl
def szF (x : GLit) (a p q : Hd) (l : Int) (g : Nat) (i : Nat) (v : Value) (_W : World) : Prop := match i with
  | 0 => v = .pointer (some ⟨g, 10, none⟩)
  | 1 => v = .agg (expC x.r q.A q.n q.c).toArray
  | 2 => v = .pointer (some ⟨g, 4, none⟩)
  | 3 => v = .agg (expC x.l p.A p.n p.c).toArray
  | 4 => v = .pointer (some ⟨g, 1, none⟩)
  | 5 => v = .agg (atomC x.atom a).toArray
  | 6 => v = .int .i64 l
  | 7 => v = .int .i64 (szA x.atom l)
  | 8 => v = .int .i64 (szE x.l (szA x.atom l))
  | 9 => v = .int .i64 (szLit x l)
  | _ => True
/-- 'x = x' as an operation -/
theorem op_assign {P : Program} {o : Oper} {a : Act} {w : World} {K : Act → World → Prop} {Q : Exit → Act → World → Prop} (x : Operand) (ho : o.op = .assign x ∨ o.op = .move x) (v : Value) (hx : a.eval x = v) (hk : K (a.put o.dst v) w) : o.wp P a w K Q := by
  refine op_val v ?_ hk
  unfold execOp
  rcases ho with ho | ho <;> simp [ho, hx]
set_option maxRecDepth 100000 in
set_option maxHeartbeats 4000000 in
theorem szRule_any (d : Nat) (x : GRule) (a b : Hd) (left : Int) (w : World) (hk : RuleAt d w w.heap.size x a b) (h0 : -100000000000 ≤ left) (h1 : left ≤ 100000) :
    Calls Tryz.prog 7 #[.agg (ruleC x a b).toArray, .int .i64 left] w (RetInt (szR x left) w) := by
  have mixed : Tryz.prog.follows .mixedOrders = true := by kernel_rfl
  have hn := hk.body.bound
  have HK := Lib.hid hk
  have Hlen := Lib.hid hk.body.1
  obtain ⟨R, HR⟩ : ∃ R, Hid (R = szR x left) := ⟨_, rfl⟩
  rw [← HR.out]
  have hrb : (w.alloc (.cells (ruleC x a b).toArray 27)).heap[w.heap.size]? = some (.cells (ruleC x a b).toArray 27 (0, 0)) := heapNew rfl
  obtain ⟨b0, b1, b2, b3, b4, b5⟩ := facts6 hrb
  have hb0 : Below w.heap.size w (w.alloc (.cells (ruleC x a b).toArray 27)) := belowA (Below.refl _ _) _
  have HA := Lib.hid (szAtom_any x.head a left _ (hk.args.mono' hb0.size (Kept.of hb0.block)) hk.rel (by omega) h1)
  have hR0 : Hid (R = szB (x.body.drop 0) (szA x.head left)) := by show _ = _; rw [HR.out]; rfl
  have hle := szA_le x.head left
  have hge : -1000000000000000 ≤ szA x.head left := by
    have h2 : x.head.rel.size ≤ 140737488351232 := hk.rel
    unfold szA
    cases hh : x.head.args with
    | nil => rw [szT]; omega
    | cons t ts => have := (show ∀ (ts : List GTold) (l : Int), -1000000000000000 ≤ l → -1000000000000000 ≤ szT ts l from fun ts => by
        induction ts with
        | nil => intro l h; rw [szT]; exact h
        | cons t ts ih => intro l h; rw [szT]; split; omega; exact ih _ (by omega)) (t :: ts) (left - (1 + ((x.head.rel.size / 50 : Nat) : Int))) (by omega)
                   exact this
  generalize szA x.head left = l0 at *
  clear hk hrb HR
  go_enter Tryz.func7, Tryz.ntmps7
  go_wp2_with fail
  refine HA.out.mono ?_
  rintro r w1 ⟨rfl, hb1⟩
  have hrb1 := (hb1.block w.heap.size (by simp)).trans (heapNew (w := w) (o := .cells (ruleC x a b).toArray 27) rfl)
  obtain ⟨c0, c1, c2, c3, c4, c5⟩ := facts6 hrb1
  have hbw1 := below_next hb0 hb1
  clear hrb1 HA hb1 hb0 b0 b1 b2 b3 b4 b5
  go_wp2_with fail
  obtain ⟨A, n, c⟩ := b
  simp only [Hd.v] at *
  go_loopw [1, 6, 14] (fun lv _ i wr => ∃ (j : Nat) (l : Int), j ≤ n ∧ i = .int .i64 j ∧ lv = .int .i64 l ∧ -1000000000000000 ≤ l ∧ l ≤ 100000 ∧ Hid (R = szB (x.body.drop j) l) ∧ Below w.heap.size w wr) (fun _ _ i _ => n - (intOf i).toNat)
  case atStart => exact ⟨0, l0, by omega, rfl, rfl, hge, by omega, hR0, hbw1⟩
  case round =>
    obtain ⟨j, l, hj, rfl, rfl, hl0, hl, HRj, hbr⟩ := hrel
    have i0 : (0 : Int) ≤ (j : Int) := by omega
    by_cases hlt : j < n
    · have i1 : (j : Int) < (n : Int) := by omega
      obtain ⟨b, o, y, a', p, q, hA, hb, hy, hl1, hr⟩ := (HK.out.keep hbr).body.lit_range hlt
      simp only at hA
      subst hA
      have HRk : Hid (R = if l < 0 then -1 else szB (x.body.drop (j + 1)) (szLit y l)) := by
        show _ = _
        rw [HRj.out]
        obtain ⟨g1, g2⟩ := List.getElem?_eq_some_iff.1 hy.out
        rw [List.drop_eq_getElem_cons g1, g2, szB]
      have hba : Below wr.heap.size wr (wr.alloc (.cells (litC y a' p q).toArray 70)) := belowA (Below.refl _ _) _
      have hgx : (wr.alloc (.cells (litC y a' p q).toArray 70)).heap[wr.heap.size]? = some (.cells (litC y a' p q).toArray 70 (0, 0)) := heapNew rfl
      have HGx := Lib.hid hgx
      have HBa := Lib.hid hba
      have HL1 := Lib.hid (hl1.keep hba)
      clear HRj hy hba hgx hl1
      by_cases hneg : l < 0
      · have HR1 : Hid (R = -1) := by show _ = _; rw [HRk.out, if_pos hneg]
        clear HRk
        go_wp2_with (first
          | refine wpList_load_mid rfl 70 (.tmp 16) rfl b (o + j * 17) rfl (litC y a' p q) _ hr.out Tryz.underlying70 rfl (lit_size y a' p q) ?_
          | refine wpList_new rfl rfl 70 6 (.tmp 17) rfl rfl rfl rfl _ (litC y a' p q).toArray lit_info rfl (lit_one y a' p q) rfl rfl ?_)
        go_ret
        exact ⟨by rw [HR1.out]; rfl, below_next hbr HBa.out⟩
      · have HR1 : Hid (R = szB (x.body.drop (j + 1)) (szLit y l)) := by show _ = _; rw [HRk.out, if_neg hneg]
        clear HRk
        go_wp2_with (first
          | refine wpList_load_mid rfl 70 (.tmp 16) rfl b (o + j * 17) rfl (litC y a' p q) _ hr.out Tryz.underlying70 rfl (lit_size y a' p q) ?_
          | refine wpList_new rfl rfl 70 6 (.tmp 17) rfl rfl rfl rfl _ (litC y a' p q).toArray lit_info rfl (lit_one y a' p q) rfl rfl ?_)
        have hA0 := szA_ge y.atom l HL1.out.rel
        have hA1 := szA_le y.atom l
        have hE0 := szE_ge d y.l p.A p.n p.c _ _ HL1.out.lk HL1.out.lx HL1.out.lv.2.2 (szA y.atom l)
        have hE1 := szE_le2 y.l (szA y.atom l)
        have hF0 := szE_ge d y.r q.A q.n q.c _ _ HL1.out.rk HL1.out.rx HL1.out.rv.2.2 (szE y.l (szA y.atom l))
        have hF1 := szE_le2 y.r (szE y.l (szA y.atom l))
        have q1 : y.l.t.x.size ≤ 140737488351232 := HL1.out.lx
        have q2 : y.l.t.v.s.size ≤ 140737488351232 := HL1.out.lv.2.2
        have q3 : y.r.t.x.size ≤ 140737488351232 := HL1.out.rx
        have q4 : y.r.t.v.s.size ≤ 140737488351232 := HL1.out.rv.2.2
        have C1 := Lib.hid (fun (W : World) (h : Below (wr.alloc (.cells (litC y a' p q).toArray 70)).heap.size (wr.alloc (.cells (litC y a' p q).toArray 70)) W) => szAtom_any y.atom a' l W ((HL1.out.keep h).args) HL1.out.rel (by omega) hl)
        have C2 := Lib.hid (fun (W : World) (h : Below (wr.alloc (.cells (litC y a' p q).toArray 70)).heap.size (wr.alloc (.cells (litC y a' p q).toArray 70)) W) => exp_any d y.l p.A p.n p.c (szA y.atom l) W ((HL1.out.keep h).lk) q1 q2 (by omega) (by omega))
        have C3 := Lib.hid (fun (W : World) (h : Below (wr.alloc (.cells (litC y a' p q).toArray 70)).heap.size (wr.alloc (.cells (litC y a' p q).toArray 70)) W) => exp_any d y.r q.A q.n q.c (szE y.l (szA y.atom l)) W ((HL1.out.keep h).rk) q3 q4 (by omega) (by omega))
        have hS0 : -1000000000000000 ≤ szLit y l := by unfold szLit; omega
        have hS1 : szLit y l ≤ 100000 := by unfold szLit; omega
        have hbS : Below w.heap.size w (wr.alloc (.cells (litC y a' p q).toArray 70)) := below_next hbr HBa.out
        clear hA0 hA1 hE0 hE1 hF0 hF1
        generalize hwx : wr.alloc (.cells (litC y a' p q).toArray 70) = wx at *
        refine drawn2 mixed 10 32 [20, 21, 22, 23, 24, 25, 26, 27, 28, 29] (fun _ W => Below wx.heap.size wx W) (szF y a' p q l wr.heap.size) (fun _ W W' => Below W.heap.size W W') rfl (by kernel_rfl) (by kernel_rfl) rfl (fun j _ => below_drewN _ 1 _) (fun i j v W W' _ _ _ h _ => by unfold szF at h ⊢; exact h) (fun _ _ _ _ _ _ _ _ h h' => below_next h h') ?_ ?_
        · intro i o2 a2 W hi ho hd hold hG _ hw
          have hr6 : a2.tmps[6]? = some (.pointer (some ⟨wr.heap.size, 0, none⟩)) := hold 6 (by kernel_rfl)
          have hr1 : a2.tmps[1]? = some (.int .i64 l) := hold 1 (by kernel_rfl)
          have hgW := (hG.block _ (Array.getElem?_eq_some_iff.1 HGx.out).1).trans HGx.out
          clear hold
          match i, hi, ho with
          | 0, _, ho =>
            injection ho with ho; subst ho
            exact op_val _ (by simp [execOp, Act.eval, hr6, go_sem]) ⟨_, rfl, Below.refl _ _, rfl⟩
          | 1, _, ho =>
            injection ho with ho; subst ho
            obtain ⟨v0, h0, e0⟩ := hw 0 20 (by kernel_rfl)
            obtain rfl : v0 = _ := e0
            exact wp_load_mid 68 (.tmp 20) rfl _ _ (eval_tmp h0) (expC y.r q.A q.n q.c) _ (range_off hgW rfl) Tryz.underlying68 rfl (exp_size _ _ _ _) ⟨_, rfl, Below.refl _ _, rfl⟩
          | 2, _, ho =>
            injection ho with ho; subst ho
            exact op_val _ (by simp [execOp, Act.eval, hr6, go_sem]) ⟨_, rfl, Below.refl _ _, rfl⟩
          | 3, _, ho =>
            injection ho with ho; subst ho
            obtain ⟨v0, h0, e0⟩ := hw 2 22 (by kernel_rfl)
            obtain rfl : v0 = _ := e0
            exact wp_load_mid 68 (.tmp 22) rfl _ _ (eval_tmp h0) (expC y.l p.A p.n p.c) _ (range_off hgW rfl) Tryz.underlying68 rfl (exp_size _ _ _ _) ⟨_, rfl, Below.refl _ _, rfl⟩
          | 4, _, ho =>
            injection ho with ho; subst ho
            exact op_val _ (by simp [execOp, Act.eval, hr6, go_sem]) ⟨_, rfl, Below.refl _ _, rfl⟩
          | 5, _, ho =>
            injection ho with ho; subst ho
            obtain ⟨v0, h0, e0⟩ := hw 4 24 (by kernel_rfl)
            obtain rfl : v0 = _ := e0
            exact wp_load_mid 24 (.tmp 24) rfl _ _ (eval_tmp h0) (atomC y.atom a') _ (range_off hgW rfl) Tryz.underlying24 rfl (atom_size _ _) ⟨_, rfl, Below.refl _ _, rfl⟩
          | 6, _, ho =>
            injection ho with ho; subst ho
            exact op_assign (.tmp 1) (.inr rfl) _ (eval_tmp hr1) ⟨_, rfl, Below.refl _ _, rfl⟩
          | 7, _, ho =>
            injection ho with ho; subst ho
            obtain ⟨v0, h0, e0⟩ := hw 5 25 (by kernel_rfl)
            obtain ⟨v1, h1, e1⟩ := hw 6 26 (by kernel_rfl)
            obtain rfl : v0 = _ := e0
            obtain rfl : v1 = _ := e1
            refine op_call 26 _ rfl rfl #[.agg (atomC y.atom a').toArray, .int .i64 l] (by simp [Act.eval, h0, h1]) _ Tryz.func26 (by kernel_rfl) (by kernel_rfl) ((C1.out W hG).mono ?_)
            rintro r w' ⟨rfl, hb⟩
            exact ⟨_, rfl, _, rfl, hb, rfl⟩
          | 8, _, ho =>
            injection ho with ho; subst ho
            obtain ⟨v0, h0, e0⟩ := hw 3 23 (by kernel_rfl)
            obtain ⟨v1, h1, e1⟩ := hw 7 27 (by kernel_rfl)
            obtain rfl : v0 = _ := e0
            obtain rfl : v1 = _ := e1
            refine op_call 27 _ rfl rfl #[expV y.l p.A p.n p.c, .int .i64 (szA y.atom l)] (by simp [Act.eval, h0, h1]) _ Tryz.func27 (by kernel_rfl) (by kernel_rfl) ((C2.out W hG).mono ?_)
            rintro r w' ⟨rfl, hb⟩
            exact ⟨_, rfl, _, rfl, hb, rfl⟩
          | 9, _, ho =>
            injection ho with ho; subst ho
            obtain ⟨v0, h0, e0⟩ := hw 1 21 (by kernel_rfl)
            obtain ⟨v1, h1, e1⟩ := hw 8 28 (by kernel_rfl)
            obtain rfl : v0 = _ := e0
            obtain rfl : v1 = _ := e1
            refine op_call 27 _ rfl rfl #[expV y.r q.A q.n q.c, .int .i64 (szE y.l (szA y.atom l))] (by simp [Act.eval, h0, h1]) _ Tryz.func27 (by kernel_rfl) (by kernel_rfl) ((C3.out W hG).mono ?_)
            rintro r w' ⟨rfl, hb⟩
            exact ⟨_, rfl, _, rfl, hb, rfl⟩
          | n + 10, hi, _ => omega
        · intro o2 u W ho hG hw
          have e0 := hw 9 29 (by decide) (by kernel_rfl)
          have hbn := below_next hbS hG
          injection ho with ho; subst ho
          simp only [List.foldl_cons, List.foldl_nil, Act.put, List.setIfInBounds_toArray, List.set_cons_zero, List.set_cons_succ]
          rw [show u 29 = Value.int .i64 (szLit y l) from e0]
          refine op_assign (.tmp 29) (.inl rfl) _ rfl ?_
          clear hw e0 C1 C2 C3 HK HL1 HGx HBa
          go_wp2_with fail
          go_roundw
          case rel => exact ⟨j + 1, szLit y l, by omega, by go_num, rfl, hS0, hS1, HR1, hbn⟩
          case measure => simp [intOf]; omega
    · have i1 : ¬ (j : Int) < (n : Int) := by omega
      have HR1 : Hid (R = l) := by
        show _ = _
        rw [HRj.out, List.drop_eq_nil_of_le (by have := Hlen.out; omega), szB]
      clear HRj
      go_wp2_with fail
      go_ret
      exact ⟨by rw [HR1.out]; rfl, hbr⟩
end Go.Proofs.YtfklheagafffmaaGreatDoor

namespace Go.Proofs.YtfklheagafffmaaGreatDoor
open Go.RowKit
theorem SliceIs.up {α : Type} {E E' : Enc α} {w : World} {B : Nat} {A : Option Addr} {n c : Nat} {l : List α} (hs : E'.sz = E.sz) (h : ∀ cs x, E.ok w B cs x → E'.ok w B cs x) (hl : SliceIs E w B A n c l) : SliceIs E' w B A n c l := by
  obtain ⟨h1, h2, h3, hr, h4⟩ := hl
  refine ⟨h1, h2, h3, hr, ?_⟩
  rcases h4 with h4 | ⟨b, o, hA, hb, hc⟩
  · exact .inl h4
  · refine .inr ⟨b, o, hA, hb, fun i x hx => ?_⟩
    obtain ⟨cs, hok, hcs⟩ := hc i x hx
    exact ⟨cs, h cs x hok, by rw [hs]; exact hcs⟩
theorem exp_up1 : ∀ (d : Nat) (w : World) (B : Nat) (cs : List Value) (x : GExp), (Enc.exp d).ok w B cs x → (Enc.exp (d + 1)).ok w B cs x
  | 0, _, _, _, _, h => h.elim
  | d + 1, w, B, cs, x, h => by
    obtain ⟨A, n, c, rfl, h1, h2, h3, h4⟩ := h
    exact ⟨A, n, c, rfl, h1, h2, h3, h4.up (by rw [Enc.exp_sz, Enc.exp_sz]) (fun cs x => exp_up1 d w B cs x)⟩
theorem exp_up {w : World} {B : Nat} {cs : List Value} {x : GExp} : ∀ (k d : Nat), (Enc.exp d).ok w B cs x → (Enc.exp (d + k)).ok w B cs x
  | 0, _, h => h
  | k + 1, d, h => exp_up1 (d + k) w B cs x (exp_up k d h)
theorem kids_up {d d' : Nat} {w : World} {B : Nat} {A : Option Addr} {n c : Nat} {l : List GExp} (hd : d ≤ d') (h : SliceIs (Enc.exp d) w B A n c l) : SliceIs (Enc.exp d') w B A n c l :=
  h.up (by rw [Enc.exp_sz, Enc.exp_sz]) (fun cs x hx => by
    have := exp_up (d' - d) d hx
    rwa [show d + (d' - d) = d' by omega] at this)
theorem LitAt.up {d d' : Nat} {w : World} {B : Nat} {x : GLit} {a p q : Hd} (hd : d ≤ d') (h : LitAt d w B x a p q) : LitAt d' w B x a p q :=
  ⟨h.k, h.op, h.pos, h.rel, h.args, h.lop, h.lx, h.lv, kids_up hd h.lk, h.rop, h.rx, h.rv, kids_up hd h.rk⟩
def zE : GExp := .mk 0 zT []
end Go.Proofs.YtfklheagafffmaaGreatDoor

namespace Go.Proofs.YtfklheagafffmaaGreatDoor
open Go.RowKit
/-- where the reader is: the next token, brackets, the first failure's place and number -/
structure PS where
  next : Nat
  deep : Nat
  pl : Nat
  err : Int
def PS.up (s : PS) : PS := ⟨s.next + 1, s.deep, s.pl, s.err⟩
/-- what a token of digits is -/
def numT (l : List UInt8) : Int := match Lib.atoiAll l with
  | .ok n => n
  | _ => 0
section
variable (T : List GTok) (E : Nat)
def peekP (s : PS) (k : Nat) : GTok := (T[s.next + k]?).getD ⟨0, [], E⟩
def failP (s : PS) (a : Nat) (e : Int) : PS := if s.err = 0 then ⟨T.length, s.deep, a, e⟩ else s
def isP (s : PS) (t : List UInt8) : Bool := (decide ((peekP T E s 0).k = 1) || decide ((peekP T E s 0).k = 5)) && decide ((peekP T E s 0).t = t)
def wantP (s : PS) (t : List UInt8) : PS := if isP T E s t = true then s.up else failP T s (peekP T E s 0).a 2
def mayP (s : PS) (t : List UInt8) : PS := if isP T E s t = true then s.up else s
def takeP (s : PS) (k : Int) : PS := if (peekP T E s 0).k = k then s.up else failP T s (peekP T E s 0).a 2
def takeT (s : PS) (k : Int) : List UInt8 := if (peekP T E s 0).k = k then (peekP T E s 0).t else []
/-- things with commas between -/
def loopP {σ : Type} (most : Nat) (rd : Nat → PS × σ → PS × σ) : Nat → Nat → PS × σ → PS × σ
  | 0, _, x => x
  | f + 1, i, x => if x.1.err ≠ 0 then x else if most ≤ i then (failP T x.1 (peekP T E x.1 0).a 3, x.2) else
      if isP T E (rd i x).1 [44] = true then loopP most rd f (i + 1) ((rd i x).1.up, (rd i x).2) else rd i x
def commasP {σ : Type} (most : Nat) (rd : Nat → PS × σ → PS × σ) (x : PS × σ) : PS × σ :=
  if isP T E (wantP T E x.1 [40]) [41] = true then ((wantP T E x.1 [40]).up, x.2)
  else (wantP T E (loopP T E most rd (most + 1) 0 (wantP T E x.1 [40], x.2)).1 [41], (loopP T E most rd (most + 1) 0 (wantP T E x.1 [40], x.2)).2)
def termP (s : PS) : PS × GTold :=
  let s1 := mayP T E s [45]
  let q := peekP T E s1 0
  if q.k = 4 then (s1.up, ⟨⟨#[]⟩, ⟨1, (if isP T E s [45] = true then -1 else 1) * numT q.t, ⟨#[]⟩⟩⟩)
  else if isP T E s [45] = true then (failP T s1 q.a 2, zT)
  else if q.k = 3 then (s1.up, ⟨bytes q.t, gv0⟩)
  else if q.k = 2 then (s1.up, ⟨⟨#[]⟩, ⟨2, 0, bytes q.t⟩⟩)
  else (failP T s1 q.a 2, zT)
def argsR (_ : Nat) (x : PS × List GTold) : PS × List GTold := ((termP T E x.1).1, x.2 ++ [(termP T E x.1).2])
def atomP (s : PS) : PS × GAtom :=
  let y := commasP T E 6 (argsR T E) (takeP T E s 2, [])
  (y.1, ⟨bytes (takeT T E s 2), y.2⟩)
/-- which aggregate a word is; 0: none -/
def aggN (t : List UInt8) : Nat := if t = [99, 111, 117, 110, 116] then 1 else if t = [115, 117, 109] then 2 else if t = [109, 105, 110] then 3 else if t = [109, 97, 120] then 4 else 0
/-- a head under way: arguments, aggregate, column -/
structure PH where
  args : List GTold
  agg : Int
  col : Int
def headR (i : Nat) (x : PS × PH) : PS × PH :=
  let q := peekP T E x.1 0
  if q.k = 1 ∧ aggN q.t ≠ 0 then
    let s1 := if 0 < x.2.agg then failP T x.1 q.a 2 else x.1
    let s2 := wantP T E (wantP T E s1 q.t) [40]
    (wantP T E (takeP T E s2 3) [41], ⟨x.2.args ++ [⟨bytes (takeT T E s2 3), gv0⟩], aggN q.t, i⟩)
  else ((termP T E x.1).1, ⟨x.2.args ++ [(termP T E x.1).2], x.2.agg, x.2.col⟩)
def headP (s : PS) : PS × PH := commasP T E 6 (headR T E) (takeP T E s 2, ⟨[], 0, 0⟩)
/-- an operand, where inner reads what stands in brackets (none: too deep) -/
def operandP (inner : Option (PS → PS × GExp)) (s : PS) : PS × GExp :=
  if isP T E s [40] = true then match inner with
    | none => (failP T s (peekP T E s 0).a 4, zE)
    | some sum =>
      let y := sum (wantP T E ⟨s.next, s.deep + 1, s.pl, s.err⟩ [40])
      let s2 := wantP T E y.1 [41]
      (⟨s2.next, s2.deep - 1, s2.pl, s2.err⟩, y.2)
  else ((termP T E s).1, .mk 0 (termP T E s).2 [])
def prodL (op : PS → PS × GExp) : Nat → PS × GExp → PS × GExp
  | 0, x => x
  | f + 1, x => if isP T E x.1 [42] = true then prodL op f ((op x.1.up).1, .mk 3 zT [x.2, (op x.1.up).2]) else x
def productP (op : PS → PS × GExp) (s : PS) : PS × GExp := prodL T E op T.length (op s)
def sumL (pr : PS → PS × GExp) : Nat → PS × GExp → PS × GExp
  | 0, x => x
  | f + 1, x => if isP T E x.1 [43] = true then sumL pr f ((pr x.1.up).1, .mk 1 zT [x.2, (pr x.1.up).2])
    else if isP T E x.1 [45] = true then sumL pr f ((pr x.1.up).1, .mk 2 zT [x.2, (pr x.1.up).2]) else x
def sumOf (op : PS → PS × GExp) (s : PS) : PS × GExp := sumL T E (productP T E op) T.length (productP T E op s)
/-- an expression, with so many brackets left -/
def sumP : Nat → PS → PS × GExp
  | 0 => sumOf T E (operandP T E none)
  | n + 1 => sumOf T E (operandP T E (some (sumP n)))
/-- which comparison a sign is; 0: none -/
def sgnN (t : List UInt8) : Nat := if t = [61] then 1 else if t = [33, 61] then 2 else if t = [60] then 3 else if t = [60, 61] then 4 else if t = [62] then 5 else if t = [62, 61] then 6 else 0
def comparedP (p : Nat) (s : PS) : PS × GLit :=
  let x := sumP T E 20 s
  let q := peekP T E x.1 0
  if q.k = 5 ∧ sgnN q.t ≠ 0 then
    let y := sumP T E 20 (wantP T E x.1 q.t)
    (if y.1.err = 0 ∧ ¬ (rightE 20 x.2 = true ∧ rightE 20 y.2 = true) then failP T y.1 p 4 else y.1, ⟨3, ⟨⟨#[]⟩, []⟩, sgnN q.t, x.2, y.2, p⟩)
  else (failP T x.1 q.a 2, ⟨3, ⟨⟨#[]⟩, []⟩, sgnN q.t, x.2, zE, p⟩)
def literalP (s : PS) : PS × GLit :=
  let p := (peekP T E s 0).a
  if isP T E s [110, 111, 116] = true then ((atomP T E s.up).1, ⟨2, (atomP T E s.up).2, 0, zE, zE, p⟩)
  else if (peekP T E s 0).k = 2 ∧ (peekP T E s 1).k = 5 ∧ (peekP T E s 1).t = [40] then ((atomP T E s).1, ⟨1, (atomP T E s).2, 0, zE, zE, p⟩)
  else comparedP T E p s
def bodyR (_ : Nat) (x : PS × List GLit) : PS × List GLit := ((literalP T E x.1).1, x.2 ++ [(literalP T E x.1).2])
def bodyP (s : PS) : PS × List GLit := if isP T E s [58, 45] = true then loopP T E 8 (bodyR T E) 9 0 (s.up, []) else (s, [])
def ruleP (s : PS) : PS × GRule :=
  let p := (peekP T E s 0).a
  let h := headP T E s
  let b := bodyP T E h.1
  (wantP T E b.1 [46], ⟨⟨bytes (takeT T E s 2), h.2.args⟩, h.2.agg, h.2.col, b.2, p⟩)
/-- behind all: what is left is a fault -/
def lastP (s : PS) : PS := if s.next < T.length then failP T s (peekP T E s 0).a 2 else s
end
def ps0 : PS := ⟨0, 0, 0, 0⟩
/-- a whole text: what is read, where it fails, and how -/
def wholeP {α : Type} (zero : α) (rd : List GTok → Nat → PS → PS × α) (l : List UInt8) : α × Nat × Int :=
  if 4000 < l.length then (zero, 4000, 3) else match (lexS l).2 with
    | some p => (zero, p, 2)
    | none =>
      let y := rd (lexS l).1 l.length ps0
      let s := lastP (lexS l).1 l.length y.1
      if s.err = 0 then (y.2, 0, 0) else (zero, s.pl, s.err)
end Go.Proofs.YtfklheagafffmaaGreatDoor
