/- The document's SameAtom, SameExp. -/
import Derived.Test.YtiffmiabhapfnaaGreatDoorTSame2
namespace Go.Proofs.YtiffmiabhapfnaaGreatDoor
open Go.RowKit

theorem run_told5_ne (x y : GTold) (w : World) : (binOp .neq 34 (.agg #[.string x.x, .int .i64 x.v.k, .int .i64 x.v.n, .string x.v.s]) (.agg #[.string y.x, .int .i64 y.v.k, .int .i64 y.v.n, .string y.v.s])).run Tryz.prog w = .ok (.bool (!decide (x = y))) w := by
  rw [run_neq_struct, run_equalIn_agg (ht := by kernel_rfl) (hp := by kernel_rfl)]
  simp [go_sem]
  cases x with
  | mk x v => cases y with
    | mk x' v' => cases v with
      | mk k n s => cases v' with
        | mk k' n' s' =>
          simp only [GTold.mk.injEq, GV.mk.injEq, ← toList_inj]
          by_cases h1 : x.toList = x'.toList <;> by_cases h2 : k = k' <;> by_cases h3 : n = n' <;> by_cases h4 : s.toList = s'.toList <;> simp [h1, h2, h3, h4]
set_option maxRecDepth 100000 in
set_option maxHeartbeats 2000000 in
theorem refSameA_any (x y : GAtom) (A : Option Addr) (n c : Nat) (B : Option Addr) (m d : Nat) (w : World) (hx : SliceIs Enc.told w w.heap.size A n c x.args) (hy : SliceIs Enc.told w w.heap.size B m d y.args) :
    Calls Tryz.prog 74 #[.agg #[.string x.rel, .slice A n c], .agg #[.string y.rel, .slice B m d]] w (RetBool (sameA x y) w) := by
  obtain ⟨R, HR⟩ : ∃ R, Hid (R = (decide (x.rel = y.rel) && eqL (fun a b => decide (a = b)) x.args y.args)) := ⟨_, rfl⟩
  have HS : Hid (sameA x y = R) := by show _ = _; rw [HR.out, eqL_dec]; rfl
  rw [HS.out]
  have hn := hx.bound
  have hm := hy.bound
  have hba : Below w.heap.size w ((w.alloc (.cells #[.string x.rel, .slice A n c] 100)).alloc (.cells #[.string y.rel, .slice B m d] 100)) := belowA (belowA (Below.refl _ _) _) _
  have Hx := Lib.hid (hx.keep hba)
  have Hy := Lib.hid (hy.keep hba)
  have Hl1 := Lib.hid hx.1
  have Hl2 := Lib.hid hy.1
  have hrX : ((w.alloc (.cells #[.string x.rel, .slice A n c] 100)).alloc (.cells #[.string y.rel, .slice B m d] 100)).heap[w.heap.size]? = some (.cells #[.string x.rel, .slice A n c] 100 (0, 0)) := heapOld (heapNew rfl)
  have hrY : ((w.alloc (.cells #[.string x.rel, .slice A n c] 100)).alloc (.cells #[.string y.rel, .slice B m d] 100)).heap[w.heap.size + 1]? = some (.cells #[.string y.rel, .slice B m d] 100 (0, 0)) := heapNew (by simp)
  obtain ⟨f0, f1⟩ := facts2 hrX
  obtain ⟨e0, e1⟩ := facts2 hrY
  clear hx hy HS
  by_cases hr : x.rel = y.rel
  rotate_left
  · have hs : (x.rel.toList == y.rel.toList) = false := by rw [beq_str]; simp [hr]
    have HF : Hid (R = false) := by show _ = _; rw [HR.out]; simp [hr]
    clear HR hr Hx Hy
    go_enter Tryz.func74, Tryz.ntmps74
    go_wp2_with fail
    go_ret
    exact ⟨by rw [HF.out]; rfl, hba⟩
  have hs : (x.rel.toList == y.rel.toList) = true := by rw [beq_str]; simp [hr]
  have HR1 : Hid (R = eqL (fun a b => decide (a = b)) x.args y.args) := by show _ = _; rw [HR.out]; simp [hr]
  clear HR hr
  by_cases hnm : n = m
  rotate_left
  · have hq : ((n : Int) != (m : Int)) = true := by simp; omega
    have HF : Hid (R = false) := by show _ = _; rw [HR1.out]; exact eqL_len (by have := Hl1.out; have := Hl2.out; omega)
    clear HR1 hnm Hx Hy
    go_enter Tryz.func74, Tryz.ntmps74
    go_wp2_with fail
    go_ret
    exact ⟨by rw [HF.out]; rfl, hba⟩
  subst hnm
  have hq : ((n : Int) != (n : Int)) = false := by simp
  have HR0 : Hid (R = eqL (fun a b => decide (a = b)) (x.args.drop 0) (y.args.drop 0)) := HR1.out
  clear HR1
  go_enter Tryz.func74, Tryz.ntmps74
  go_wp2_with fail
  generalize hwb : (w.alloc _).alloc _ = wb
  rw [hwb] at hrX hrY hba
  rw [hwb] at Hx Hy
  clear f0 f1 e0 e1 hwb
  go_loopw [5] (fun i wr => ∃ k : Nat, k ≤ n ∧ i = .int .i64 k ∧ Hid (R = eqL (fun a b => decide (a = b)) (x.args.drop k) (y.args.drop k)) ∧ (∃ q, wr = wb.drewN q)) (fun i _ => n - (intOf i).toNat)
  case atStart => exact ⟨0, by omega, rfl, HR0, ⟨0, rfl⟩⟩
  case round =>
    clear HR0
    obtain ⟨k, hk, rfl, HRk, ⟨q, rfl⟩⟩ := hrel
    have i0 : (0 : Int) ≤ (k : Int) := by omega
    obtain ⟨f0, f1⟩ := facts2 hrX
    obtain ⟨e0, e1⟩ := facts2 hrY
    by_cases hlt : k < n
    · have i1 : (k : Int) < (n : Int) := by omega
      obtain ⟨b1, o1, v1, rfl, _, h1, x0, x1, x2, x3, _, _⟩ := Hx.out.told_at hlt
      obtain ⟨b2, o2, v2, rfl, _, h2, y0, y1, y2, y3, _, _⟩ := Hy.out.told_at hlt
      have HRn : Hid (R = (decide (v1 = v2) && eqL (fun a b => decide (a = b)) (x.args.drop (k + 1)) (y.args.drop (k + 1)))) := by show _ = _; rw [HRk.out, eqL_drop h1.out h2.out]
      clear h1 h2 HRk
      by_cases hv : v1 = v2
      · have HR1 : Hid (R = eqL (fun a b => decide (a = b)) (x.args.drop (k + 1)) (y.args.drop (k + 1))) := by show _ = _; rw [HRn.out]; simp [hv]
        have rn : ∀ W, (binOp .neq 34 (.agg #[.string v1.x, .int .i64 v1.v.k, .int .i64 v1.v.n, .string v1.v.s]) (.agg #[.string v2.x, .int .i64 v2.v.k, .int .i64 v2.v.n, .string v2.v.s])).run Tryz.prog W = .ok (.bool false) W := fun W => by rw [run_told5_ne]; simp [hv]
        clear HRn hv
        go_wp2_with fail
        go_quiet (fail)
        go_wp2_with fail
        go_roundw
        case rel => exact ⟨k + 1, by omega, by go_num, HR1, ⟨q + nq, rfl⟩⟩
        case measure => simp [intOf]; omega
      · have HR1 : Hid (R = false) := by show _ = _; rw [HRn.out]; simp [hv]
        have rn : ∀ W, (binOp .neq 34 (.agg #[.string v1.x, .int .i64 v1.v.k, .int .i64 v1.v.n, .string v1.v.s]) (.agg #[.string v2.x, .int .i64 v2.v.k, .int .i64 v2.v.n, .string v2.v.s])).run Tryz.prog W = .ok (.bool true) W := fun W => by rw [run_told5_ne]; simp [hv]
        clear HRn hv
        go_wp2_with fail
        go_quiet (fail)
        go_wp2_with fail
        go_ret
        exact ⟨by rw [HR1.out]; rfl, (hba.trans (below_drewN _ _ _)).trans (below_drewN _ _ _)⟩
    · have i1 : ¬ (k : Int) < (n : Int) := by omega
      have HR1 : Hid (R = true) := by show _ = _; rw [HRk.out, List.drop_eq_nil_of_le (by have := Hl1.out; omega), List.drop_eq_nil_of_le (by have := Hl2.out; omega), eqL]
      clear HRk
      go_wp2_with fail
      go_ret
      exact ⟨by rw [HR1.out]; rfl, hba.trans (below_drewN _ _ _)⟩

def r5F (A : Option Addr) (n c : Nat) (B : Option Addr) (d : Nat) (b1 o1 b2 o2 : Nat) (k : Nat) (x1 : List Value) (y1 : List Value) (g : Nat) (r : Bool) (i : Nat) (v : Value) (_W : World) : Prop := match i with
  | 0 => v = .pointer (some ⟨g, 5, none⟩)
  | 1 => v = .slice A n c
  | 2 => v = .int .i64 k
  | 3 => v = .pointer (some ⟨b1, o1 + k * 6, none⟩)
  | 4 => v = .agg x1.toArray
  | 5 => v = .pointer (some ⟨g + 1, 5, none⟩)
  | 6 => v = .slice B n d
  | 7 => v = .int .i64 k
  | 8 => v = .pointer (some ⟨b2, o2 + k * 6, none⟩)
  | 9 => v = .agg y1.toArray
  | 10 => v = .bool r
  | _ => True
theorem exp5_size (e : GExp) (A : Option Addr) (n c : Nat) : (Tryz.prog.info? 37).map (·.size) = some (expC e A n c).length := by
  show _ = some 6
  kernel_rfl

theorem range_below {w w' : World} {b o : Nat} {cs : List Value} (h : w.rangeAt b o cs) (hb : Below w.heap.size w w') : w'.rangeAt b o cs := fun j v hj => below_cell hb (h j v hj)
set_option maxRecDepth 100000 in
set_option maxHeartbeats 4000000 in
theorem refSameE_any : ∀ (d1 d2 : Nat) (x y : GExp) (A : Option Addr) (n c : Nat) (B : Option Addr) (m d : Nat) (w : World), SliceIs (Enc.exp d1) w w.heap.size A n c x.kids → SliceIs (Enc.exp d2) w w.heap.size B m d y.kids →
    Calls Tryz.prog 75 #[expV x A n c, expV y B m d] w (RetBool (sameE x y) w) := by
  intro d1
  induction d1 using Nat.strongRecOn with
  | ind d1 ih =>
    intro d2 x y A n c B m d w hx hy
    have mixed : Tryz.prog.follows .mixedOrders = true := by kernel_rfl
    have IH := Lib.hid ih
    obtain ⟨R, HR⟩ : ∃ R, Hid (R = sameE x y) := ⟨_, rfl⟩
    rw [← HR.out]
    have HR' : Hid (R = (decide (x.op = y.op) && (decide (x.t = y.t) && eqL sameE x.kids y.kids))) := by show _ = _; rw [HR.out, sameE_def]
    have hn := hx.bound
    have hm := hy.bound
    have hba : Below w.heap.size w ((w.alloc (.cells (expC x A n c).toArray 37)).alloc (.cells (expC y B m d).toArray 37)) := belowA (belowA (Below.refl _ _) _) _
    have Hx := Lib.hid (hx.keep hba)
    have Hy := Lib.hid (hy.keep hba)
    have Hl1 := Lib.hid hx.1
    have Hl2 := Lib.hid hy.1
    have hrX : ((w.alloc (.cells (expC x A n c).toArray 37)).alloc (.cells (expC y B m d).toArray 37)).heap[w.heap.size]? = some (.cells (expC x A n c).toArray 37 (0, 0)) := heapOld (heapNew rfl)
    have hrY : ((w.alloc (.cells (expC x A n c).toArray 37)).alloc (.cells (expC y B m d).toArray 37)).heap[w.heap.size + 1]? = some (.cells (expC y B m d).toArray 37 (0, 0)) := heapNew (by simp)
    obtain ⟨f0, f1, f2, f3, f4, f5⟩ := facts6 hrX
    obtain ⟨e0, e1, e2, e3, e4, e5⟩ := facts6 hrY
    clear hx hy HR ih
    by_cases ho : x.op = y.op
    rotate_left
    · have hs : (x.op != y.op) = true := by simp [ho]
      have HF : Hid (R = false) := by show _ = _; rw [HR'.out]; simp [ho]
      clear HR' ho Hx Hy
      go_enter Tryz.func75, Tryz.ntmps75
      go_wp2_with fail
      go_ret
      exact ⟨by rw [HF.out]; rfl, hba⟩
    have hs : (x.op != y.op) = false := by simp [ho]
    by_cases ht : x.t = y.t
    rotate_left
    · have rn : ∀ W, (binOp .neq 34 (.agg #[.string x.t.x, .int .i64 x.t.v.k, .int .i64 x.t.v.n, .string x.t.v.s]) (.agg #[.string y.t.x, .int .i64 y.t.v.k, .int .i64 y.t.v.n, .string y.t.v.s])).run Tryz.prog W = .ok (.bool true) W := fun W => by rw [run_told5_ne]; simp [ht]
      have HF : Hid (R = false) := by show _ = _; rw [HR'.out]; simp [ht]
      clear HR' ho ht Hx Hy
      go_enter Tryz.func75, Tryz.ntmps75
      go_wp2_with fail
      go_ret
      exact ⟨by rw [HF.out]; rfl, hba⟩
    have rn : ∀ W, (binOp .neq 34 (.agg #[.string x.t.x, .int .i64 x.t.v.k, .int .i64 x.t.v.n, .string x.t.v.s]) (.agg #[.string y.t.x, .int .i64 y.t.v.k, .int .i64 y.t.v.n, .string y.t.v.s])).run Tryz.prog W = .ok (.bool false) W := fun W => by rw [run_told5_ne]; simp [ht]
    have HR1 : Hid (R = eqL sameE x.kids y.kids) := by show _ = _; rw [HR'.out]; simp [ho, ht]
    clear HR' ho ht
    by_cases hnm : n = m
    rotate_left
    · have hq : ((n : Int) != (m : Int)) = true := by simp; omega
      have HF : Hid (R = false) := by show _ = _; rw [HR1.out]; exact eqL_len (by have := Hl1.out; have := Hl2.out; omega)
      clear HR1 hnm Hx Hy
      go_enter Tryz.func75, Tryz.ntmps75
      go_wp2_with fail
      go_ret
      exact ⟨by rw [HF.out]; rfl, hba⟩
    subst hnm
    have hq : ((n : Int) != (n : Int)) = false := by simp
    have HR0 : Hid (R = eqL sameE (x.kids.drop 0) (y.kids.drop 0)) := HR1.out
    clear HR1
    go_enter Tryz.func75, Tryz.ntmps75
    go_wp2_with fail
    generalize hwb : (w.alloc _).alloc _ = wb
    rw [hwb] at hrX hrY hba
    rw [hwb] at Hx Hy
    have HX0 := Lib.hid hrX
    have HY0 := Lib.hid hrY
    have HB0 := Lib.hid hba
    clear f0 f1 f2 f3 f4 f5 e0 e1 e2 e3 e4 e5 hwb hrX hrY hba rn
    go_loopw [5] (fun i wr => ∃ k : Nat, k ≤ n ∧ i = .int .i64 k ∧ Hid (R = eqL sameE (x.kids.drop k) (y.kids.drop k)) ∧ Hid (Below wb.heap.size wb wr)) (fun i _ => n - (intOf i).toNat)
    case atStart => exact ⟨0, by omega, rfl, HR0, Below.refl _ _⟩
    case round =>
      clear HR0
      obtain ⟨k, hk, rfl, HRk, HBr⟩ := hrel
      have i0 : (0 : Int) ≤ (k : Int) := by omega
      have hgX := (HBr.out.block _ (Array.getElem?_eq_some_iff.1 HX0.out).1).trans HX0.out
      have hgY := (HBr.out.block _ (Array.getElem?_eq_some_iff.1 HY0.out).1).trans HY0.out
      have f5 : wr.cell? ⟨w.heap.size, 5, none⟩ = some (.slice A n c) := (cell_of_row _ _ 5 _ _ _ hgX).trans rfl
      by_cases hlt : k < n
      · have i1 : (k : Int) < (n : Int) := by omega
        obtain ⟨b1, o1, kx, cs1, hA1, _, h1, ok1, hc1⟩ := (Hx.out.keep HBr.out).at_ hlt
        obtain ⟨b2, o2, ky, cs2, hA2, _, h2, ok2, hc2⟩ := (Hy.out.keep HBr.out).at_ hlt
        rw [Enc.exp_sz] at hc1 hc2
        obtain ⟨g1, rfl⟩ : ∃ g1, d1 = g1 + 1 := by cases d1 with
          | zero => exact ok1.elim
          | succ g => exact ⟨g, rfl⟩
        obtain ⟨g2, rfl⟩ : ∃ g2, d2 = g2 + 1 := by cases d2 with
          | zero => exact ok2.elim
          | succ g => exact ⟨g, rfl⟩
        obtain ⟨A1, n1, c1, rfl, -, -, -, k1⟩ := ok1
        obtain ⟨A2, n2, c2, rfl, -, -, -, k2⟩ := ok2
        subst hA1
        subst hA2
        have HRn : Hid (R = (sameE kx ky && eqL sameE (x.kids.drop (k + 1)) (y.kids.drop (k + 1)))) := by show _ = _; rw [HRk.out, eqL_drop h1.out h2.out]
        have HC := Lib.hid (fun (W : World) (h : Below wr.heap.size wr W) => IH.out g1 (by omega) g2 kx ky A1 n1 c1 A2 n2 c2 W (k1.keep h) (k2.keep h))
        have Hc1 : Hid (wr.rangeAt b1 (o1 + k * 6) (expC kx A1 n1 c1)) := fun j v hj => hc1 j v hj
        have Hc2 : Hid (wr.rangeAt b2 (o2 + k * 6) (expC ky A2 n2 c2)) := fun j v hj => hc2 j v hj
        have HgX := Lib.hid hgX
        have HgY := Lib.hid hgY
        clear h1 h2 HRk hc1 hc2 k1 k2 hgX hgY
        generalize sameE kx ky = rr at *
        go_wp2_with fail
        refine drawn2 mixed 11 46 [34, 35, 36, 37, 38, 39, 40, 41, 42, 43, 44] (fun _ W => Below wr.heap.size wr W) (r5F (some ⟨b1, o1, none⟩) n c (some ⟨b2, o2, none⟩) d b1 o1 b2 o2 k (expC kx A1 n1 c1) (expC ky A2 n2 c2) w.heap.size rr) (fun _ W W' => Below W.heap.size W W') rfl (by kernel_rfl) (by kernel_rfl) rfl (fun j _ => below_drewN _ 1 _) (fun i j v W W' _ _ _ h _ => by unfold r5F at h ⊢; exact h) (fun _ _ _ _ _ _ _ _ h h' => below_next h h') ?_ ?_
        · intro i o2' a2 W hi ho hd hold hG _ hw
          have hr2 : a2.tmps[2]? = some (.pointer (some ⟨w.heap.size, 0, none⟩)) := hold 2 (by kernel_rfl)
          have hr3 : a2.tmps[3]? = some (.pointer (some ⟨w.heap.size + 1, 0, none⟩)) := hold 3 (by kernel_rfl)
          have hr5 : a2.tmps[5]? = some (.int .i64 k) := hold 5 (by kernel_rfl)
          have hgX := (hG.block _ (Array.getElem?_eq_some_iff.1 HgX.out).1).trans HgX.out
          have hgY := (hG.block _ (Array.getElem?_eq_some_iff.1 HgY.out).1).trans HgY.out
          have f5 : W.cell? ⟨w.heap.size, 5, none⟩ = some (.slice (some ⟨b1, o1, none⟩) n c) := (cell_of_row _ _ 5 _ _ _ hgX).trans rfl
          have e5 : W.cell? ⟨w.heap.size + 1, 5, none⟩ = some (.slice (some ⟨b2, o2, none⟩) n d) := (cell_of_row _ _ 5 _ _ _ hgY).trans rfl
          clear hold
          match i, hi, ho with
          | 0, _, ho =>
            injection ho with ho; subst ho
            exact op_val _ (by simp [execOp, Act.eval, hr2, go_sem]) ⟨_, rfl, Below.refl _ _, rfl⟩
          | 1, _, ho =>
            injection ho with ho; subst ho
            obtain ⟨v0, h0, e0'⟩ := hw 0 34 (by kernel_rfl)
            obtain rfl : v0 = _ := e0'
            exact op_val _ (by simp [execOp, Act.eval, h0, run_load1 Tryz.underlying35 f5]) ⟨_, rfl, Below.refl _ _, rfl⟩
          | 2, _, ho =>
            injection ho with ho; subst ho
            exact op_assign (.tmp 5) (.inr rfl) _ (eval_tmp hr5) ⟨_, rfl, Below.refl _ _, rfl⟩
          | 3, _, ho =>
            injection ho with ho; subst ho
            obtain ⟨v0, h0, e0'⟩ := hw 1 35 (by kernel_rfl)
            obtain rfl : v0 = _ := e0'
            obtain ⟨v1, h1, e1'⟩ := hw 2 36 (by kernel_rfl)
            obtain rfl : v1 = _ := e1'
            exact op_val _ (by simp [execOp, Act.eval, h0, h1, go_sem, i0, i1]) ⟨_, rfl, Below.refl _ _, rfl⟩
          | 4, _, ho =>
            injection ho with ho; subst ho
            obtain ⟨v0, h0, e0'⟩ := hw 3 37 (by kernel_rfl)
            obtain rfl : v0 = _ := e0'
            exact wp_load_mid 37 (.tmp 37) rfl _ _ (eval_tmp h0) (expC kx A1 n1 c1) _ (range_below Hc1.out hG) Tryz.underlying37 rfl (exp5_size _ _ _ _) ⟨_, rfl, Below.refl _ _, rfl⟩
          | 5, _, ho =>
            injection ho with ho; subst ho
            exact op_val _ (by simp [execOp, Act.eval, hr3, go_sem]) ⟨_, rfl, Below.refl _ _, rfl⟩
          | 6, _, ho =>
            injection ho with ho; subst ho
            obtain ⟨v0, h0, e0'⟩ := hw 5 39 (by kernel_rfl)
            obtain rfl : v0 = _ := e0'
            exact op_val _ (by simp [execOp, Act.eval, h0, run_load1 Tryz.underlying35 e5]) ⟨_, rfl, Below.refl _ _, rfl⟩
          | 7, _, ho =>
            injection ho with ho; subst ho
            exact op_assign (.tmp 5) (.inr rfl) _ (eval_tmp hr5) ⟨_, rfl, Below.refl _ _, rfl⟩
          | 8, _, ho =>
            injection ho with ho; subst ho
            obtain ⟨v0, h0, e0'⟩ := hw 6 40 (by kernel_rfl)
            obtain rfl : v0 = _ := e0'
            obtain ⟨v1, h1, e1'⟩ := hw 7 41 (by kernel_rfl)
            obtain rfl : v1 = _ := e1'
            exact op_val _ (by simp [execOp, Act.eval, h0, h1, go_sem, i0, i1]) ⟨_, rfl, Below.refl _ _, rfl⟩
          | 9, _, ho =>
            injection ho with ho; subst ho
            obtain ⟨v0, h0, e0'⟩ := hw 8 42 (by kernel_rfl)
            obtain rfl : v0 = _ := e0'
            exact wp_load_mid 37 (.tmp 42) rfl _ _ (eval_tmp h0) (expC ky A2 n2 c2) _ (range_below Hc2.out hG) Tryz.underlying37 rfl (exp5_size _ _ _ _) ⟨_, rfl, Below.refl _ _, rfl⟩
          | 10, _, ho =>
            injection ho with ho; subst ho
            obtain ⟨v0, h0, e0'⟩ := hw 4 38 (by kernel_rfl)
            obtain rfl : v0 = _ := e0'
            obtain ⟨v1, h1, e1'⟩ := hw 9 43 (by kernel_rfl)
            obtain rfl : v1 = _ := e1'
            refine op_call 75 _ rfl rfl #[expV kx A1 n1 c1, expV ky A2 n2 c2] (by simp [Act.eval, h0, h1]) _ Tryz.func75 (by kernel_rfl) (by kernel_rfl) ((HC.out W hG).mono ?_)
            rintro r w' ⟨rfl, hb⟩
            exact ⟨_, rfl, _, rfl, hb, rfl⟩
          | n + 11, hi, _ => omega
        · intro o2' u W ho hG hw
          have e0 := hw 10 44 (by decide) (by kernel_rfl)
          injection ho with ho; subst ho
          simp only [List.foldl_cons, List.foldl_nil, Act.put, List.setIfInBounds_toArray, List.set_cons_zero, List.set_cons_succ]
          rw [show u 44 = Value.bool rr from e0]
          refine op_val (.bool (!rr)) (by simp [execOp, Act.eval, go_sem]) ?_
          have HBn := Lib.hid (below_next HBr.out hG)
          have hgX := (hG.block _ (Array.getElem?_eq_some_iff.1 HgX.out).1).trans HgX.out
          clear hw e0 HC Hc1 Hc2 f5 hG
          simp only [Act.put, List.setIfInBounds_toArray, List.set_cons_zero, List.set_cons_succ]
          cases rr with
          | false =>
            have HF : Hid (R = false) := by show _ = _; rw [HRn.out]; rfl
            clear HRn
            go_wp2_with fail
            go_ret
            exact ⟨by rw [HF.out]; rfl, below_next HB0.out HBn.out⟩
          | true =>
            have HR2 : Hid (R = eqL sameE (x.kids.drop (k + 1)) (y.kids.drop (k + 1))) := by show _ = _; rw [HRn.out]; rfl
            clear HRn
            go_wp2_with fail
            go_roundw
            case rel => exact ⟨k + 1, by omega, by go_num, HR2, HBn⟩
            case measure => simp [intOf]; omega
      · have i1 : ¬ (k : Int) < (n : Int) := by omega
        have HR1 : Hid (R = true) := by show _ = _; rw [HRk.out, List.drop_eq_nil_of_le (by have := Hl1.out; omega), List.drop_eq_nil_of_le (by have := Hl2.out; omega), eqL]
        have HBn := Lib.hid (below_next HB0.out HBr.out)
        clear HRk
        go_wp2_with fail
        go_ret
        exact ⟨by rw [HR1.out]; rfl, HBn.out⟩
end Go.Proofs.YtiffmiabhapfnaaGreatDoor
