/- My own texts CpLit, as far as this claim needs them. -/
import Derived.Test.YtaeedepojpablaaGreatDoorZqb3
set_option linter.unusedVariables false
set_option linter.unusedSimpArgs false
set_option maxRecDepth 1000000
set_option maxHeartbeats 16000000
namespace Go.Proofs.YtaeedepojpablaaGreatDoor
open Go.RowKit
theorem told_okA {w : World} {B : Nat} {A : Option Addr} {n c : Nat} {l : List GTold} (h : SliceIs Enc.told w B A n c l) : ∀ t ∈ l, t.x.size ≤ reachN ∧ t.v.ok := by
 intro t ht; rcases h.2.2.2.2 with h4 | ⟨b, o, _, _, hc⟩
 ·subst h4; cases ht
 ·obtain ⟨i, hi⟩ := List.mem_iff_getElem?.1 ht; obtain ⟨cs, hok, _⟩ := hc i t hi; exact hok.2
def CopyAtom (x : GAtom) (w : World) (r : Ending) (w' : World) : Prop :=
 ∃ (A : Option Addr) (c : Nat), r = .returned (.agg (atomC x ⟨A, x.args.length, c⟩).toArray) ∧ w'.ownsRow w.heap.size 102 4 (.slice A x.args.length c) x.args.length (x.args.flatMap GTold.cells) ∧ Below w.heap.size w w'
theorem own_far {w : World} {base : Nat} {A : Option Addr} {n c : Nat} {l : List GTold} (h : w.ownsRow base 102 4 (.slice A n c) n (l.flatMap GTold.cells)) (hl : l.length = n) (hn : n ≤ 1000000) (hok : ∀ t ∈ l, t.x.size ≤ reachN ∧ t.v.ok) : SliceFar Enc.told w (List.range base) A n c l := by
 have h2 := own_sans (S := List.range base) h (fun b hb' => by have := List.mem_range.1 hb'; omega); have h3 := SliceIs.of_flat (E := Enc.told) GTold.cells (fun _ => rfl) h2 hl (by simp [reachN]; omega) (fun q hq => ⟨rfl, hok q hq⟩); rw [sans_size] at h3; exact h3
theorem copyAtom_any (x : GAtom) (a : Hd) (w : World) (hk : SliceIs Enc.told w w.heap.size a.A a.n a.c x.args) (hx : x.rel.size ≤ reachN) (hs : x.args.length ≤ 1500) :
 Calls Tryz.prog 55 #[.agg (atomC x a).toArray] w (CopyAtom x w) := by
 have hn := hk.bound; have HK := hZ9 hk; have Hlen := hZ9 hk.1; have Hok := hZ9 (told_okA hk); obtain ⟨P, HP⟩ : ∃ P : Ending → World → Prop, Hid (P = CopyAtom x w) := ⟨_, rfl⟩
 rw [← HP.out]; obtain ⟨A, n, c⟩ := a; dsimp only [Hd.v] at *; have hrb : (w.alloc (.cells (atomC x ⟨A, n, c⟩).toArray 53)).heap[w.heap.size]? = some (.cells (atomC x ⟨A, n, c⟩).toArray 53 (0, 0)) := heapNew rfl; obtain ⟨b0, b1⟩ := facts2 hrb; dsimp only [Hd.v] at b0 b1; have hr2 : (((w.alloc (.cells (atomC x ⟨A, n, c⟩).toArray 53)).alloc (.cells #[.string ⟨#[]⟩, .slice none 0 0] 62)).alloc (.cells (atomC x ⟨none, 0, 0⟩).toArray 62)).heap[w.heap.size + 2]? = some (.cells (atomC x ⟨none, 0, 0⟩).toArray 62 (0, 0)) := heapNew (by simp); have hr1 : (((w.alloc (.cells (atomC x ⟨A, n, c⟩).toArray 53)).alloc (.cells #[.string ⟨#[]⟩, .slice none 0 0] 62)).alloc (.cells (atomC x ⟨none, 0, 0⟩).toArray 62)).heap[w.heap.size + 1]? = some (.cells #[.string ⟨#[]⟩, .slice none 0 0] 62 (0, 0)) := heapOld (heapNew (by simp)); have hbw : Below w.heap.size w (((w.alloc (.cells (atomC x ⟨A, n, c⟩).toArray 53)).alloc (.cells #[.string ⟨#[]⟩, .slice none 0 0] 62)).alloc (.cells (atomC x ⟨none, 0, 0⟩).toArray 62)) := belowA (belowA (belowA (Below.refl _ _) _) _) _; have hzw : (((w.alloc (.cells (atomC x ⟨A, n, c⟩).toArray 53)).alloc (.cells #[.string ⟨#[]⟩, .slice none 0 0] 62)).alloc (.cells (atomC x ⟨none, 0, 0⟩).toArray 62)).heap.size = w.heap.size + 3 := by simp
 have Hx := hZ9 hx; clear hk hrb hx; show Calls Tryz.prog 55 #[.agg #[.string x.rel, .slice A n c]] w P; go_enter Tryz.func55, Tryz.ntmps55
 go_wp2_with fail
 try simp only [Nat.add_assoc, Nat.reduceAdd]
 generalize hw3 : ((w.alloc _).alloc _).alloc _ = w3; rw [hw3] at hr2 hr1 hbw hzw; have HZ := hZ9 hzw; clear hzw b0 b1 hw3; go_loopw [12] (fun i wr => ∃ (j c' : Nat) (A' : Option Addr), j ≤ n ∧ i = .int .i64 j ∧ Hid (wr.ownsRow (w.heap.size + 3) 102 4 (.slice A' j c') j ((x.args.take j).flatMap GTold.cells)) ∧ wr.heap[w.heap.size + 2]? = some (.cells (atomC x ⟨A', j, c'⟩).toArray 62 (0, 0)) ∧ wr.heap[w.heap.size + 1]? = some (.cells #[.string ⟨#[]⟩, .slice none 0 0] 62 (0, 0)) ∧ Below w.heap.size w wr ∧ w.heap.size + 3 ≤ wr.heap.size) (fun i _ => n - (intOf i).toNat)
 case atStart => exact ⟨0, 0, none, by omega, rfl, World.ownsRow_nil _ _ _ _, hr2, hr1, hbw, by have := HZ.out; omega⟩
 case round =>
  obtain ⟨j, c', A', hj, rfl, HO, hg, hg1, hbr, hzr⟩ := hrel; have i0 : (0 : Int) ≤ (j : Int) := by omega
  obtain ⟨q0, q1⟩ := facts2 hg; dsimp only [Hd.v] at q0 q1; by_cases hlt : j < n
  ·have i1 : (j : Int) < (n : Int) := by omega
   obtain ⟨b, o, t, rfl, hb, ht, x0, x1, x2, x3, f1, f2⟩ := (HK.out.below hbr).told_at hlt; have HT : Hid (x.args.take (j + 1) = x.args.take j ++ [t]) := by show _ = _; rw [List.take_add_one, ht.out]; rfl
   have hba : Below wr.heap.size wr (wr.alloc (.cells #[.string t.x, .int .i64 t.v.k, .int .i64 t.v.n, .string t.v.s] 75)) := belowA (Below.refl _ _) _; have hn1 : j + 1 ≤ 1500 := by have := Hlen.out; omega
   have hgA := heapOld (o := .cells #[.string t.x, .int .i64 t.v.k, .int .i64 t.v.n, .string t.v.s] 75) hg; have hg1A := heapOld (o := .cells #[.string t.x, .int .i64 t.v.k, .int .i64 t.v.n, .string t.v.s] 75) hg1; obtain ⟨r0, r1⟩ := facts2 hgA; dsimp only [Hd.v] at r0 r1; have HOA := own_below HO.out hba; obtain ⟨A2, c2, w4, hrun, hown2, hb4, hk4⟩ := term5_push HOA t (by omega) (by simp; omega); simp only [World.size_alloc] at hrun; have HRun := hZ9 hrun; have hbA := below_next hbr hba; have hgB := hk4 _ _ _ _ hgA (by decide); have hg1B := hk4 _ _ _ _ hg1A (by decide); have hz4 : wr.heap.size + 1 ≤ w4.heap.size := by have := hb4.size; simp at this; exact this
   have hB2 : Below w.heap.size w (w4.setCell ⟨w.heap.size + 2, 1, none⟩ (.slice A2 (j + 1) c2)) := (hbA.trans (hb4.mono (by omega))).setCell (by show w.heap.size ≤ w.heap.size + 2; omega) _
   have HO2 : Hid ((w4.setCell ⟨w.heap.size + 2, 1, none⟩ (.slice A2 (j + 1) c2)).ownsRow (w.heap.size + 3) 102 4 (.slice A2 (j + 1) c2) (j + 1) ((x.args.take (j + 1)).flatMap GTold.cells)) := by
    show World.ownsRow _ _ _ _ _ _ _; rw [HT.out]; exact own_out' hown2 (set_out w4 _ 1 _) (fun b hb hb' => by have := (own_blk hown2 hb).1; simp at hb'; omega)
   have hG2 : (w4.setCell ⟨w.heap.size + 2, 1, none⟩ (.slice A2 (j + 1) c2)).heap[w.heap.size + 2]? = some (.cells (atomC x ⟨A2, j + 1, c2⟩).toArray 62 (0, 0)) := set_one hgB; have hG1 : (w4.setCell ⟨w.heap.size + 2, 1, none⟩ (.slice A2 (j + 1) c2)).heap[w.heap.size + 1]? = some (.cells #[.string ⟨#[]⟩, .slice none 0 0] 62 (0, 0)) := (World.heap_setCells_other' (by omega)).trans hg1B; have hzs : (w4.setCell ⟨w.heap.size + 2, 1, none⟩ (.slice A2 (j + 1) c2)).heap.size = w4.heap.size := World.size_setCell'; have HZ2 : Hid (w.heap.size + 3 ≤ (w4.setCell ⟨w.heap.size + 2, 1, none⟩ (.slice A2 (j + 1) c2)).heap.size) := by show _ ≤ _; rw [hzs]; omega
   have k1 : w4.cell? ⟨w.heap.size + 2, 1, none⟩ = some (.slice A' j c') := (cell_of_row _ _ 1 _ _ _ hgB).trans rfl; have k2 : w4.frozen? ⟨w.heap.size + 2, 1, none⟩ = false := frozen_of_row _ _ _ _ _ hgB; have HG2 := hZ9 hG2; have HG1 := hZ9 hG1; have HB2 := hZ9 hB2; clear hrun hown2 hk4 hgA hg1A hgB hg1B hb4 hba hbA HOA HO ht hzs hG2 hG1 hB2 hg hg1; go_wp2_with (at_builtin; refine wpList_append_run (o := ⟨some 20, _, _, _, _, _⟩) rfl _ _ _ rfl _ _ rfl rfl (HRun.out _) ?_)
   go_roundw
   case rel => exact ⟨j + 1, c2, A2, by omega, by go_num, HO2, HG2.out, HG1.out, HB2.out, HZ2.out⟩
   case measure => simp [intOf]; omega
  ·have i1 : ¬ (j : Int) < (n : Int) := by omega
   have hjn : j = n := by omega
   subst hjn; have hll := Hlen.out; have hS := setRow_at (cs' := (atomC x ⟨A', j, c'⟩).toArray) hg1; obtain ⟨s0, s1⟩ := facts2 hS; dsimp only [Hd.v] at s0 s1; have hbS : Below w.heap.size w (wr.setRow (w.heap.size + 1) (atomC x ⟨A', j, c'⟩).toArray) := ⟨hbr.os, hbr.tape, hbr.output, by rw [setRow_size]; exact hbr.size, fun x hx => (setRow_ne (by omega)).trans (hbr.block x hx)⟩
   have hoS : Out [w.heap.size + 1] wr (wr.setRow (w.heap.size + 1) (atomC x ⟨A', j, c'⟩).toArray) := ⟨rfl, rfl, rfl, by rw [setRow_size]; exact Nat.le_refl _, fun x _ hx => setRow_ne (by simpa using hx)⟩
   have hO3 := own_out' HO.out hoS (fun b hb hb' => by have := (own_blk HO.out hb).1; simp at hb'; omega); rw [List.take_of_length_le (by omega)] at hO3
   have hpost : P (.returned (.agg (atomC x ⟨A', j, c'⟩).toArray)) (wr.setRow (w.heap.size + 1) (atomC x ⟨A', j, c'⟩).toArray) := by
    rw [HP.out]; refine ⟨A', c', by rw [hll], ?_, hbS⟩; rw [hll]; refine ⟨hO3.1, ?_⟩; rcases hO3.2 with hn | ⟨g, cap, cur, hv, hbg, rest⟩
    ·exact .inl hn
    ·exact .inr ⟨g, cap, cur, hv, by omega, rest⟩
   have HPo := hZ9 hpost; clear HO hO3 hll hpost hoS hbS hS HP; go_wp2_with (refine wpList_store_rowTo rfl 62 (.tmp 2) (.tmp 23) rfl rfl (w.heap.size + 1) (atomC x ⟨A', j, c'⟩).toArray rfl rfl 62 #[.string ⟨#[]⟩, .slice none 0 0] hg1 (by kernel_rfl) rfl (by simp [Value.oneCell']) ?_)
   refine bodyPost_ret (v := .agg (atomC x ⟨A', j, c'⟩).toArray) ?_ rfl HPo.out; simp [results, Tryz.results55, go_sem, s0, s1]
def CopyLit (d : Nat) (x : GLit) (w : World) (r : Ending) (w' : World) : Prop :=
 ∃ a p q : Hd, r = .returned (.agg (litC x a p q).toArray) ∧ LitAt d (sans w' (List.range w.heap.size)) w'.heap.size x a p q ∧ Below w.heap.size w w'
def litF (d : Nat) (x : GLit) (a p q : Hd) (g n0 : Nat) (i : Nat) (v : Value) (W : World) : Prop := match i with
 | 0 => v = .pointer (some ⟨g, 0, none⟩)
 | 1 => v = .int .i64 x.k
 | 2 => v = .pointer (some ⟨g, 1, none⟩)
 | 3 => v = .agg (atomC x.atom a).toArray
 | 4 => ∃ (A : Option Addr) (c : Nat), v = .agg (atomC x.atom ⟨A, x.atom.args.length, c⟩).toArray ∧ SliceFar Enc.told W (List.range n0) A x.atom.args.length c x.atom.args
 | 5 => v = .pointer (some ⟨g, 3, none⟩)
 | 6 => v = .int .i64 x.op
 | 7 => v = .pointer (some ⟨g, 4, none⟩)
 | 8 => v = .agg (expC x.l p.A p.n p.c).toArray
 | 9 => ∃ (A : Option Addr) (c : Nat), v = expV x.l A x.l.kids.length c ∧ SliceFar (Enc.exp d) W (List.range n0) A x.l.kids.length c x.l.kids
 | 10 => v = .pointer (some ⟨g, 10, none⟩)
 | 11 => v = .agg (expC x.r q.A q.n q.c).toArray
 | 12 => ∃ (A : Option Addr) (c : Nat), v = expV x.r A x.r.kids.length c ∧ SliceFar (Enc.exp d) W (List.range n0) A x.r.kids.length c x.r.kids
 | 13 => v = .pointer (some ⟨g, 16, none⟩)
 | 14 => v = .int .i64 x.pos
 | 15 => ∃ a p q : Hd, v = .agg (litC x a p q).toArray ∧ SliceFar Enc.told W (List.range n0) a.A a.n a.c x.atom.args ∧ SliceFar (Enc.exp d) W (List.range n0) p.A p.n p.c x.l.kids ∧ SliceFar (Enc.exp d) W (List.range n0) q.A q.n q.c x.r.kids
 | _ => True
theorem litF_keep {d : Nat} {x : GLit} {a p q : Hd} {g n0 i : Nat} {v : Value} {W W' : World} (h : litF d x a p q g n0 i v W) (hb : Below W.heap.size W W') : litF d x a p q g n0 i v W' := by
 match i, h with
 | 0, h => exact h
 | 1, h => exact h
 | 2, h => exact h
 | 3, h => exact h
 | 4, ⟨A, c, h1, h2⟩ => exact ⟨A, c, h1, h2.on hb⟩
 | 5, h => exact h
 | 6, h => exact h
 | 7, h => exact h
 | 8, h => exact h
 | 9, ⟨A, c, h1, h2⟩ => exact ⟨A, c, h1, h2.on hb⟩
 | 10, h => exact h
 | 11, h => exact h
 | 12, ⟨A, c, h1, h2⟩ => exact ⟨A, c, h1, h2.on hb⟩
 | 13, h => exact h
 | 14, h => exact h
 | 15, ⟨a, p, q, h1, h2, h3, h4⟩ => exact ⟨a, p, q, h1, h2.on hb, h3.on hb, h4.on hb⟩
 | _ + 16, _ => exact trivial
abbrev zlC : List Value := [.int .i64 0, .string ⟨#[]⟩, .slice none 0 0, .int .i64 0, .int .i64 0, .string ⟨#[]⟩, .int .i64 0, .int .i64 0, .string ⟨#[]⟩, .slice none 0 0, .int .i64 0, .string ⟨#[]⟩, .int .i64 0, .int .i64 0, .string ⟨#[]⟩, .slice none 0 0, .int .i64 0]
theorem copyLit_any (d : Nat) (x : GLit) (a p q : Hd) (w : World) (hk : LitAt d w w.heap.size x a p q) (hs : NarLit x) :
 Calls Tryz.prog 56 #[.agg (litC x a p q).toArray] w (CopyLit d x w) := by
 have mixed : Tryz.prog.follows .mixedOrders = true := by kernel_rfl
 have hg0 : ((w.alloc (.cells (litC x a p q).toArray 80)).alloc (.cells zlC.toArray 107)).heap[w.heap.size]? = some (.cells (litC x a p q).toArray 80 (0, 0)) := heapOld (heapNew rfl); have hg1 : ((w.alloc (.cells (litC x a p q).toArray 80)).alloc (.cells zlC.toArray 107)).heap[w.heap.size + 1]? = some (.cells zlC.toArray 107 (0, 0)) := heapNew (by simp); have hbw : Below w.heap.size w ((w.alloc (.cells (litC x a p q).toArray 80)).alloc (.cells zlC.toArray 107)) := belowA (belowA (Below.refl _ _) _) _; have hzw : ((w.alloc (.cells (litC x a p q).toArray 80)).alloc (.cells zlC.toArray 107)).heap.size = w.heap.size + 2 := by simp
 go_enter Tryz.func56, Tryz.ntmps56
 go_wp2_with fail
 generalize hwb : (w.alloc _).alloc _ = wb; rw [hwb] at hg0 hg1 hbw hzw; clear hwb; have HK := hZ9 (hk.keep hbw); have C1 := hZ9 (fun (W : World) (h : Below wb.heap.size wb W) => copyAtom_any x.atom a W ((HK.out.keep h).args) hk.rel hs.args); have C2 := hZ9 (fun (W : World) (h : Below wb.heap.size wb W) => copyExp_any d x.l p.A p.n p.c W ((HK.out.keep h).lk) hs.l hk.lop hk.lx hk.lv); have C3 := hZ9 (fun (W : World) (h : Below wb.heap.size wb W) => copyExp_any d x.r q.A q.n q.c W ((HK.out.keep h).rk) hs.r hk.rop hk.rx hk.rv); refine drawn2 mixed 16 19 [3, 4, 5, 6, 7, 8, 9, 10, 11, 12, 13, 14, 15, 16, 17, 18] (fun _ W => Below wb.heap.size wb W) (litF d x a p q w.heap.size wb.heap.size) (fun _ W W' => Below W.heap.size W W') rfl (by kernel_rfl) (by kernel_rfl) rfl (fun j _ => below_drewN _ 1 _) (fun i j v W W' _ _ _ h h' => litF_keep h h') (fun _ _ _ _ _ _ _ _ h h' => below_next h h') ?_ ?_
 ·intro i o2 a2 W hi ho hd hold hG _ hw; have hr1 : a2.tmps[1]? = some (.pointer (some ⟨w.heap.size, 0, none⟩)) := hold 1 (by kernel_rfl); have hgW := (hG.block _ (glt hg0)).trans hg0; have k0 : W.cell? ⟨w.heap.size, 0, none⟩ = some (.int .i64 x.k) := (cell_of_row _ _ 0 _ _ _ hgW).trans rfl; have k3 : W.cell? ⟨w.heap.size, 3, none⟩ = some (.int .i64 x.op) := (cell_of_row _ _ 3 _ _ _ hgW).trans rfl; have k16 : W.cell? ⟨w.heap.size, 16, none⟩ = some (.int .i64 x.pos) := (cell_of_row _ _ 16 _ _ _ hgW).trans rfl; have hWz := hG.size; clear hold; match i, hi, ho with
  | 0, _, ho =>
    injection ho with ho; subst ho
    exact op_val _ (by simp [execOp, Act.eval, hr1, go_sem]) ⟨_, rfl, Below.refl _ _, rfl⟩
  | 1, _, ho =>
    injection ho with ho; subst ho
    obtain ⟨v0, h0, e0⟩ := hw 0 3 (by kernel_rfl); obtain rfl : v0 = _ := e0; exact op_val _ (by simp [execOp, Act.eval, h0, go_sem, k0]) ⟨_, rfl, Below.refl _ _, rfl⟩
  | 2, _, ho =>
    injection ho with ho; subst ho
    exact op_val _ (by simp [execOp, Act.eval, hr1, go_sem]) ⟨_, rfl, Below.refl _ _, rfl⟩
  | 3, _, ho =>
    injection ho with ho; subst ho
    obtain ⟨v0, h0, e0⟩ := hw 2 5 (by kernel_rfl); obtain rfl : v0 = _ := e0; exact wp_load_mid 53 (.tmp 5) rfl _ _ (eval_tmp h0) (atomC x.atom a) _ (range_off hgW rfl) Tryz.underlying53 rfl (atom_size _ _) ⟨_, rfl, Below.refl _ _, rfl⟩
  | 4, _, ho =>
    injection ho with ho; subst ho
    obtain ⟨v0, h0, e0⟩ := hw 3 6 (by kernel_rfl); obtain rfl : v0 = _ := e0; refine op_call 55 _ rfl rfl #[.agg (atomC x.atom a).toArray] (by simp [Act.eval, h0]) _ Tryz.func55 (by kernel_rfl) (by kernel_rfl) ((C1.out W hG).mono ?_); rintro r w' ⟨A', c', rfl, hs', hb⟩; exact ⟨_, rfl, _, rfl, hb, A', c', rfl, (own_far hs' rfl (by have := hs.args; omega) (told_okA hk.args)).low hWz⟩
  | 5, _, ho =>
    injection ho with ho; subst ho
    exact op_val _ (by simp [execOp, Act.eval, hr1, go_sem]) ⟨_, rfl, Below.refl _ _, rfl⟩
  | 6, _, ho =>
    injection ho with ho; subst ho
    obtain ⟨v0, h0, e0⟩ := hw 5 8 (by kernel_rfl); obtain rfl : v0 = _ := e0; exact op_val _ (by simp [execOp, Act.eval, h0, go_sem, k3]) ⟨_, rfl, Below.refl _ _, rfl⟩
  | 7, _, ho =>
    injection ho with ho; subst ho
    exact op_val _ (by simp [execOp, Act.eval, hr1, go_sem]) ⟨_, rfl, Below.refl _ _, rfl⟩
  | 8, _, ho =>
    injection ho with ho; subst ho
    obtain ⟨v0, h0, e0⟩ := hw 7 10 (by kernel_rfl); obtain rfl : v0 = _ := e0; exact wp_load_mid 78 (.tmp 10) rfl _ _ (eval_tmp h0) (expC x.l p.A p.n p.c) _ (range_off hgW rfl) Tryz.underlying78 rfl (exp_size _ _ _ _) ⟨_, rfl, Below.refl _ _, rfl⟩
  | 9, _, ho =>
    injection ho with ho; subst ho
    obtain ⟨v0, h0, e0⟩ := hw 8 11 (by kernel_rfl); obtain rfl : v0 = _ := e0; refine op_call 91 _ rfl rfl #[expV x.l p.A p.n p.c] (by simp [Act.eval, h0]) _ Tryz.func91 (by kernel_rfl) (by kernel_rfl) ((C2.out W hG).mono ?_); rintro r w' ⟨A', c', rfl, hs', hb⟩; exact ⟨_, rfl, _, rfl, hb, A', c', rfl, hs'.low hWz⟩
  | 10, _, ho =>
    injection ho with ho; subst ho
    exact op_val _ (by simp [execOp, Act.eval, hr1, go_sem]) ⟨_, rfl, Below.refl _ _, rfl⟩
  | 11, _, ho =>
    injection ho with ho; subst ho
    obtain ⟨v0, h0, e0⟩ := hw 10 13 (by kernel_rfl); obtain rfl : v0 = _ := e0; exact wp_load_mid 78 (.tmp 13) rfl _ _ (eval_tmp h0) (expC x.r q.A q.n q.c) _ (range_off hgW rfl) Tryz.underlying78 rfl (exp_size _ _ _ _) ⟨_, rfl, Below.refl _ _, rfl⟩
  | 12, _, ho =>
    injection ho with ho; subst ho
    obtain ⟨v0, h0, e0⟩ := hw 11 14 (by kernel_rfl); obtain rfl : v0 = _ := e0; refine op_call 91 _ rfl rfl #[expV x.r q.A q.n q.c] (by simp [Act.eval, h0]) _ Tryz.func91 (by kernel_rfl) (by kernel_rfl) ((C3.out W hG).mono ?_); rintro r w' ⟨A', c', rfl, hs', hb⟩; exact ⟨_, rfl, _, rfl, hb, A', c', rfl, hs'.low hWz⟩
  | 13, _, ho =>
    injection ho with ho; subst ho
    exact op_val _ (by simp [execOp, Act.eval, hr1, go_sem]) ⟨_, rfl, Below.refl _ _, rfl⟩
  | 14, _, ho =>
    injection ho with ho; subst ho
    obtain ⟨v0, h0, e0⟩ := hw 13 16 (by kernel_rfl); obtain rfl : v0 = _ := e0; exact op_val _ (by simp [execOp, Act.eval, h0, go_sem, k16]) ⟨_, rfl, Below.refl _ _, rfl⟩
  | 15, _, ho =>
    injection ho with ho; subst ho
    obtain ⟨v1, h1, e1⟩ := hw 1 4 (by kernel_rfl); obtain ⟨v4, h4, A4, c4, e4, f4⟩ := hw 4 7 (by kernel_rfl); obtain ⟨v6, h6, e6⟩ := hw 6 9 (by kernel_rfl); obtain ⟨v9, h9, A9, c9, e9, f9⟩ := hw 9 12 (by kernel_rfl); obtain ⟨v12, h12, A12, c12, e12, f12⟩ := hw 12 15 (by kernel_rfl); obtain ⟨v14, h14, e14⟩ := hw 14 17 (by kernel_rfl); obtain rfl : v1 = _ := e1; obtain rfl : v4 = _ := e4; obtain rfl : v6 = _ := e6; obtain rfl : v9 = _ := e9; obtain rfl : v12 = _ := e12; obtain rfl : v14 = _ := e14; exact op_build 107 _ rfl [(0, .int .i64 x.k), (1, .agg (atomC x.atom ⟨A4, x.atom.args.length, c4⟩).toArray), (2, .int .i64 x.op), (3, expV x.l A9 x.l.kids.length c9), (4, expV x.r A12 x.r.kids.length c12), (5, .int .i64 x.pos)] (litC x ⟨A4, x.atom.args.length, c4⟩ ⟨A9, x.l.kids.length, c9⟩ ⟨A12, x.r.kids.length, c12⟩).toArray (by simp [Act.eval, h1, h4, h6, h9, h12, h14]) (by kernel_rfl) ⟨_, rfl, Below.refl _ _, ⟨A4, x.atom.args.length, c4⟩, ⟨A9, x.l.kids.length, c9⟩, ⟨A12, x.r.kids.length, c12⟩, rfl, f4, f9, f12⟩
  | n + 16, hi, _ => omega
 ·intro o2 u W ho hG hw; obtain ⟨a', p', q', e0, h1, h2, h3⟩ := hw 15 18 (by decide) (by kernel_rfl); have hgW := (hG.block _ (glt hg1)).trans hg1; injection ho with ho; subst ho
  simp only [List.foldl_cons, List.foldl_nil, Act.put, List.setIfInBounds_toArray, List.set_cons_zero, List.set_cons_succ]; rw [e0]; refine wp_store_row 107 (.tmp 2) (.tmp 18) rfl (w.heap.size + 1) (litC x a' p' q').toArray rfl rfl 107 zlC.toArray hgW (by kernel_rfl) rfl (by simp [Value.oneCell']) ?_; have hS := setRow_at (cs' := (litC x a' p' q').toArray) hgW; have hoS : Out [w.heap.size + 1] W (W.setRow (w.heap.size + 1) (litC x a' p' q').toArray) := ⟨rfl, rfl, rfl, by rw [setRow_size]; exact Nat.le_refl _, fun x _ hx => setRow_ne (by simpa using hx)⟩
  have hfin : CopyLit d x w (.returned (.agg (litC x a' p' q').toArray)) (W.setRow (w.heap.size + 1) (litC x a' p' q').toArray) := by
   have t1 := h1.out hoS (U := List.range w.heap.size) (fun b hb _ => List.mem_range.2 (by simp at hb; omega)) (fun b hb _ => List.mem_range.2 (by have := List.mem_range.1 hb; omega)); have t2 := h2.out hoS (U := List.range w.heap.size) (fun b hb _ => List.mem_range.2 (by simp at hb; omega)) (fun b hb _ => List.mem_range.2 (by have := List.mem_range.1 hb; omega)); have t3 := h3.out hoS (U := List.range w.heap.size) (fun b hb _ => List.mem_range.2 (by simp at hb; omega)) (fun b hb _ => List.mem_range.2 (by have := List.mem_range.1 hb; omega)); exact ⟨a', p', q', rfl, ⟨hk.k, hk.op, hk.pos, hk.rel, t1, hk.lop, hk.lx, hk.lv, t2, hk.rop, hk.rx, hk.rv, t3⟩, (hbw.trans (hG.mono (by omega))).trans (hoS.below (fun b hb => by simp at hb; omega) (by have := hG.size; omega))⟩
  have HF := hZ9 hfin; obtain ⟨s0, s1, s2, s3, s4, s5, s6, s7, s8, s9, s10, s11, s12, s13, s14, s15, s16⟩ := facts17 hS; clear hfin hS hoS h1 h2 h3 hw C1 C2 C3 HK hk hs hG hgW hg0 hg1; generalize W.setRow _ _ = W2 at *; simp only [Act.put]; go_wp2_with fail
  refine bodyPost_ret (v := .agg (litC x a' p' q').toArray) ?_ rfl HF.out; simp [results, Tryz.results56, go_sem, s0, s1, s2, s3, s4, s5, s6, s7, s8, s9, s10, s11, s12, s13, s14, s15, s16]
end Go.Proofs.YtaeedepojpablaaGreatDoor
