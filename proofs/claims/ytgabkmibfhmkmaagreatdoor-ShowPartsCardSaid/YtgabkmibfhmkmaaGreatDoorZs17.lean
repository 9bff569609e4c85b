/- My own texts CpLit, CpRule, as far as this claim needs them. -/
import Derived.Test.YtgabkmibfhmkmaaGreatDoorZs4
import Derived.Test.YtgabkmibfhmkmaaGreatDoorZs6
set_option linter.unusedVariables false
set_option linter.unusedSimpArgs false
namespace Go.Proofs.YtgabkmibfhmkmaaGreatDoor
open Go.RowKit
theorem told_okA {w : World} {B : Nat} {A : Option Addr} {n c : Nat} {l : List GTold} (h : SliceIs Enc.told w B A n c l) : ∀ t ∈ l, t.x.size ≤ reachN ∧ t.v.ok := by
  intro t ht
  rcases h.2.2.2.2 with h4 | ⟨b, o, _, _, hc⟩
  · subst h4; cases ht
  · obtain ⟨i, hi⟩ := List.mem_iff_getElem?.1 ht
    obtain ⟨cs, hok, _⟩ := hc i t hi
    exact hok.2
def CopyAtom (x : GAtom) (w : World) (r : Ending) (w' : World) : Prop :=
  ∃ (A : Option Addr) (c : Nat), r = .returned (.agg (atomC x ⟨A, x.args.length, c⟩).toArray) ∧ w'.ownsRow w.heap.size 46 4 (.slice A x.args.length c) x.args.length (x.args.flatMap GTold.cells) ∧ Below w.heap.size w w'
theorem own_far {w : World} {base : Nat} {A : Option Addr} {n c : Nat} {l : List GTold} (h : w.ownsRow base 46 4 (.slice A n c) n (l.flatMap GTold.cells)) (hl : l.length = n) (hn : n ≤ 1000000) (hok : ∀ t ∈ l, t.x.size ≤ reachN ∧ t.v.ok) : SliceFar Enc.told w (List.range base) A n c l := by
  have h2 := own_sans (S := List.range base) h (fun b hb' => by have := List.mem_range.1 hb'; omega)
  have h3 := SliceIs.of_flat (E := Enc.told) GTold.cells (fun _ => rfl) h2 hl (by simp [reachN]; omega) (fun q hq => ⟨rfl, hok q hq⟩)
  rw [sans_size] at h3
  exact h3
set_option maxRecDepth 100000 in
set_option maxHeartbeats 4000000 in
theorem copyAtom_any (x : GAtom) (a : Hd) (w : World) (hk : SliceIs Enc.told w w.heap.size a.A a.n a.c x.args) (hx : x.rel.size ≤ reachN) (hs : x.args.length ≤ 1500) :
    Calls Tryz.prog 95 #[.agg (atomC x a).toArray] w (CopyAtom x w) := by
  have hn := hk.bound
  have HK := Lib.hid hk
  have Hlen := Lib.hid hk.1
  have Hok := Lib.hid (told_okA hk)
  obtain ⟨P, HP⟩ : ∃ P : Ending → World → Prop, Hid (P = CopyAtom x w) := ⟨_, rfl⟩
  rw [← HP.out]
  obtain ⟨A, n, c⟩ := a
  dsimp only [Hd.v] at *
  have hrb : (w.alloc (.cells (atomC x ⟨A, n, c⟩).toArray 25)).heap[w.heap.size]? = some (.cells (atomC x ⟨A, n, c⟩).toArray 25 (0, 0)) := heapNew rfl
  obtain ⟨b0, b1⟩ := facts2 hrb
  dsimp only [Hd.v] at b0 b1
  have hr2 : (((w.alloc (.cells (atomC x ⟨A, n, c⟩).toArray 25)).alloc (.cells #[.string ⟨#[]⟩, .slice none 0 0] 45)).alloc (.cells (atomC x ⟨none, 0, 0⟩).toArray 45)).heap[w.heap.size + 2]? = some (.cells (atomC x ⟨none, 0, 0⟩).toArray 45 (0, 0)) := heapNew (by simp)
  have hr1 : (((w.alloc (.cells (atomC x ⟨A, n, c⟩).toArray 25)).alloc (.cells #[.string ⟨#[]⟩, .slice none 0 0] 45)).alloc (.cells (atomC x ⟨none, 0, 0⟩).toArray 45)).heap[w.heap.size + 1]? = some (.cells #[.string ⟨#[]⟩, .slice none 0 0] 45 (0, 0)) := heapOld (heapNew (by simp))
  have hbw : Below w.heap.size w (((w.alloc (.cells (atomC x ⟨A, n, c⟩).toArray 25)).alloc (.cells #[.string ⟨#[]⟩, .slice none 0 0] 45)).alloc (.cells (atomC x ⟨none, 0, 0⟩).toArray 45)) := belowA (belowA (belowA (Below.refl _ _) _) _) _
  have hzw : (((w.alloc (.cells (atomC x ⟨A, n, c⟩).toArray 25)).alloc (.cells #[.string ⟨#[]⟩, .slice none 0 0] 45)).alloc (.cells (atomC x ⟨none, 0, 0⟩).toArray 45)).heap.size = w.heap.size + 3 := by simp
  have Hx := Lib.hid hx
  clear hk hrb hx
  show Calls Tryz.prog 95 #[.agg #[.string x.rel, .slice A n c]] w P
  go_enter Tryz.func95, Tryz.ntmps95
  go_wp2_with fail
  try simp only [Nat.add_assoc, Nat.reduceAdd]
  generalize hw3 : ((w.alloc _).alloc _).alloc _ = w3
  rw [hw3] at hr2 hr1 hbw hzw
  have HZ := Lib.hid hzw
  clear hzw b0 b1 hw3
  go_loopw [12] (fun i wr => ∃ (j c' : Nat) (A' : Option Addr), j ≤ n ∧ i = .int .i64 j ∧ Hid (wr.ownsRow (w.heap.size + 3) 46 4 (.slice A' j c') j ((x.args.take j).flatMap GTold.cells)) ∧ wr.heap[w.heap.size + 2]? = some (.cells (atomC x ⟨A', j, c'⟩).toArray 45 (0, 0)) ∧ wr.heap[w.heap.size + 1]? = some (.cells #[.string ⟨#[]⟩, .slice none 0 0] 45 (0, 0)) ∧ Below w.heap.size w wr ∧ w.heap.size + 3 ≤ wr.heap.size) (fun i _ => n - (intOf i).toNat)
  case atStart => exact ⟨0, 0, none, by omega, rfl, World.ownsRow_nil _ _ _ _, hr2, hr1, hbw, by have := HZ.out; omega⟩
  case round =>
    obtain ⟨j, c', A', hj, rfl, HO, hg, hg1, hbr, hzr⟩ := hrel
    have i0 : (0 : Int) ≤ (j : Int) := by omega
    obtain ⟨q0, q1⟩ := facts2 hg
    dsimp only [Hd.v] at q0 q1
    by_cases hlt : j < n
    · have i1 : (j : Int) < (n : Int) := by omega
      obtain ⟨b, o, t, rfl, hb, ht, x0, x1, x2, x3, f1, f2⟩ := (HK.out.below hbr).told_at hlt
      have HT : Hid (x.args.take (j + 1) = x.args.take j ++ [t]) := by show _ = _; rw [List.take_add_one, ht.out]; rfl
      have hba : Below wr.heap.size wr (wr.alloc (.cells #[.string t.x, .int .i64 t.v.k, .int .i64 t.v.n, .string t.v.s] 30)) := belowA (Below.refl _ _) _
      have hn1 : j + 1 ≤ 1500 := by have := Hlen.out; omega
      have hgA := heapOld (o := .cells #[.string t.x, .int .i64 t.v.k, .int .i64 t.v.n, .string t.v.s] 30) hg
      have hg1A := heapOld (o := .cells #[.string t.x, .int .i64 t.v.k, .int .i64 t.v.n, .string t.v.s] 30) hg1
      obtain ⟨r0, r1⟩ := facts2 hgA
      dsimp only [Hd.v] at r0 r1
      have HOA := own_below HO.out hba
      obtain ⟨A2, c2, w4, hrun, hown2, hb4, hk4⟩ := term5_push HOA t (by omega) (by simp; omega)
      simp only [World.size_alloc] at hrun
      have HRun := Lib.hid hrun
      have hbA := below_next hbr hba
      have hgB := hk4 _ _ _ _ hgA (by decide)
      have hg1B := hk4 _ _ _ _ hg1A (by decide)
      have hz4 : wr.heap.size + 1 ≤ w4.heap.size := by have := hb4.size; simp at this; exact this
      have hB2 : Below w.heap.size w (w4.setCell ⟨w.heap.size + 2, 1, none⟩ (.slice A2 (j + 1) c2)) := (hbA.trans (hb4.mono (by omega))).setCell (by show w.heap.size ≤ w.heap.size + 2; omega) _
      have HO2 : Hid ((w4.setCell ⟨w.heap.size + 2, 1, none⟩ (.slice A2 (j + 1) c2)).ownsRow (w.heap.size + 3) 46 4 (.slice A2 (j + 1) c2) (j + 1) ((x.args.take (j + 1)).flatMap GTold.cells)) := by
        show World.ownsRow _ _ _ _ _ _ _
        rw [HT.out]
        exact own_out' hown2 (set_out w4 _ 1 _) (fun b hb hb' => by have := (own_blk hown2 hb).1; simp at hb'; omega)
      have hG2 : (w4.setCell ⟨w.heap.size + 2, 1, none⟩ (.slice A2 (j + 1) c2)).heap[w.heap.size + 2]? = some (.cells (atomC x ⟨A2, j + 1, c2⟩).toArray 45 (0, 0)) := set_one hgB
      have hG1 : (w4.setCell ⟨w.heap.size + 2, 1, none⟩ (.slice A2 (j + 1) c2)).heap[w.heap.size + 1]? = some (.cells #[.string ⟨#[]⟩, .slice none 0 0] 45 (0, 0)) := (World.heap_setCells_other' (by omega)).trans hg1B
      have hzs : (w4.setCell ⟨w.heap.size + 2, 1, none⟩ (.slice A2 (j + 1) c2)).heap.size = w4.heap.size := World.size_setCell'
      have HZ2 : Hid (w.heap.size + 3 ≤ (w4.setCell ⟨w.heap.size + 2, 1, none⟩ (.slice A2 (j + 1) c2)).heap.size) := by show _ ≤ _; rw [hzs]; omega
      have k1 : w4.cell? ⟨w.heap.size + 2, 1, none⟩ = some (.slice A' j c') := (cell_of_row _ _ 1 _ _ _ hgB).trans rfl
      have k2 : w4.frozen? ⟨w.heap.size + 2, 1, none⟩ = false := frozen_of_row _ _ _ _ _ hgB
      have HG2 := Lib.hid hG2
      have HG1 := Lib.hid hG1
      have HB2 := Lib.hid hB2
      clear hrun hown2 hk4 hgA hg1A hgB hg1B hb4 hba hbA HOA HO ht hzs hG2 hG1 hB2 hg hg1
      go_wp2_with (at_builtin; refine wpList_append_run (o := ⟨some 20, _, _, _, _, _⟩) rfl _ _ _ rfl _ _ rfl rfl (HRun.out _) ?_)
      go_roundw
      case rel => exact ⟨j + 1, c2, A2, by omega, by go_num, HO2, HG2.out, HG1.out, HB2.out, HZ2.out⟩
      case measure => simp [intOf]; omega
    · have i1 : ¬ (j : Int) < (n : Int) := by omega
      have hjn : j = n := by omega
      subst hjn
      have hll := Hlen.out
      have hS := setRow_at (cs' := (atomC x ⟨A', j, c'⟩).toArray) hg1
      obtain ⟨s0, s1⟩ := facts2 hS
      dsimp only [Hd.v] at s0 s1
      have hbS : Below w.heap.size w (wr.setRow (w.heap.size + 1) (atomC x ⟨A', j, c'⟩).toArray) := ⟨hbr.os, hbr.tape, hbr.output, by rw [setRow_size]; exact hbr.size, fun x hx => (setRow_ne (by omega)).trans (hbr.block x hx)⟩
      have hoS : Out [w.heap.size + 1] wr (wr.setRow (w.heap.size + 1) (atomC x ⟨A', j, c'⟩).toArray) := ⟨rfl, rfl, rfl, by rw [setRow_size]; exact Nat.le_refl _, fun x _ hx => setRow_ne (by simpa using hx)⟩
      have hO3 := own_out' HO.out hoS (fun b hb hb' => by have := (own_blk HO.out hb).1; simp at hb'; omega)
      rw [List.take_of_length_le (by omega)] at hO3
      have hpost : P (.returned (.agg (atomC x ⟨A', j, c'⟩).toArray)) (wr.setRow (w.heap.size + 1) (atomC x ⟨A', j, c'⟩).toArray) := by
        rw [HP.out]
        refine ⟨A', c', by rw [hll], ?_, hbS⟩
        rw [hll]
        refine ⟨hO3.1, ?_⟩
        rcases hO3.2 with hn | ⟨g, cap, cur, hv, hbg, rest⟩
        · exact .inl hn
        · exact .inr ⟨g, cap, cur, hv, by omega, rest⟩
      have HPo := Lib.hid hpost
      clear HO hO3 hll hpost hoS hbS hS HP
      go_wp2_with (refine wpList_store_rowTo rfl 45 (.tmp 2) (.tmp 23) rfl rfl (w.heap.size + 1) (atomC x ⟨A', j, c'⟩).toArray rfl rfl 45 #[.string ⟨#[]⟩, .slice none 0 0] hg1 (by kernel_rfl) rfl (by simp [Value.oneCell']) ?_)
      refine bodyPost_ret (v := .agg (atomC x ⟨A', j, c'⟩).toArray) ?_ rfl HPo.out
      simp [results, Tryz.results95, go_sem, s0, s1]
/-- a literal whose rows are new -/
def CopyLit (d : Nat) (x : GLit) (w : World) (r : Ending) (w' : World) : Prop :=
  ∃ a p q : Hd, r = .returned (.agg (litC x a p q).toArray) ∧ LitAt d (sans w' (List.range w.heap.size)) w'.heap.size x a p q ∧ Below w.heap.size w w'
def litF (d : Nat) (x : GLit) (a p q : Hd) (g n0 : Nat) (i : Nat) (v : Value) (W : World) : Prop := match i with
  | 0 => v = .pointer (some ⟨g, 0, none⟩)
  | 1 => v = .int .i64 x.k
  | 2 => v = .pointer (some ⟨g, 1, none⟩)
  | 3 => v = .agg (atomC x.atom a).toArray
  | 4 => ∃ (A : Option Addr) (c : Nat), v = .agg (atomC x.atom ⟨A, x.atom.args.length, c⟩).toArray ∧ SliceFar Enc.told W (List.range n0) A x.atom.args.length c x.atom.args
  | 5 => v = .pointer (some ⟨g, 3, none⟩)
  | 6 => v = .int .i64 x.op
  | 7 => v = .pointer (some ⟨g, 4, none⟩)
  | 8 => v = .agg (expC x.l p.A p.n p.c).toArray
  | 9 => ∃ (A : Option Addr) (c : Nat), v = expV x.l A x.l.kids.length c ∧ SliceFar (Enc.exp d) W (List.range n0) A x.l.kids.length c x.l.kids
  | 10 => v = .pointer (some ⟨g, 10, none⟩)
  | 11 => v = .agg (expC x.r q.A q.n q.c).toArray
  | 12 => ∃ (A : Option Addr) (c : Nat), v = expV x.r A x.r.kids.length c ∧ SliceFar (Enc.exp d) W (List.range n0) A x.r.kids.length c x.r.kids
  | 13 => v = .pointer (some ⟨g, 16, none⟩)
  | 14 => v = .int .i64 x.pos
  | 15 => ∃ a p q : Hd, v = .agg (litC x a p q).toArray ∧ SliceFar Enc.told W (List.range n0) a.A a.n a.c x.atom.args ∧ SliceFar (Enc.exp d) W (List.range n0) p.A p.n p.c x.l.kids ∧ SliceFar (Enc.exp d) W (List.range n0) q.A q.n q.c x.r.kids
  | _ => True
theorem litF_keep {d : Nat} {x : GLit} {a p q : Hd} {g n0 i : Nat} {v : Value} {W W' : World} (h : litF d x a p q g n0 i v W) (hb : Below W.heap.size W W') : litF d x a p q g n0 i v W' := by
  match i, h with
  | 0, h => exact h
  | 1, h => exact h
  | 2, h => exact h
  | 3, h => exact h
  | 4, ⟨A, c, h1, h2⟩ => exact ⟨A, c, h1, h2.on hb⟩
  | 5, h => exact h
  | 6, h => exact h
  | 7, h => exact h
  | 8, h => exact h
  | 9, ⟨A, c, h1, h2⟩ => exact ⟨A, c, h1, h2.on hb⟩
  | 10, h => exact h
  | 11, h => exact h
  | 12, ⟨A, c, h1, h2⟩ => exact ⟨A, c, h1, h2.on hb⟩
  | 13, h => exact h
  | 14, h => exact h
  | 15, ⟨a, p, q, h1, h2, h3, h4⟩ => exact ⟨a, p, q, h1, h2.on hb, h3.on hb, h4.on hb⟩
  | _ + 16, _ => exact trivial
/-- what is new in a later call is new in the caller's eyes -/
theorem SliceFar.low {α : Type} {E : Enc α} {w : World} {n n0 : Nat} {A : Option Addr} {k c : Nat} {l : List α} (h : SliceFar E w (List.range n) A k c l) (hn : n0 ≤ n) : SliceFar E w (List.range n0) A k c l :=
  SliceFar.out (S := []) h (Out.refl _ _) (fun _ h _ => by cases h) (fun b hb _ => List.mem_range.2 (by have := List.mem_range.1 hb; omega))
abbrev zlC : List Value := [.int .i64 0, .string ⟨#[]⟩, .slice none 0 0, .int .i64 0, .int .i64 0, .string ⟨#[]⟩, .int .i64 0, .int .i64 0, .string ⟨#[]⟩, .slice none 0 0, .int .i64 0, .string ⟨#[]⟩, .int .i64 0, .int .i64 0, .string ⟨#[]⟩, .slice none 0 0, .int .i64 0]
set_option maxRecDepth 100000 in
set_option maxHeartbeats 4000000 in
theorem copyLit_any (d : Nat) (x : GLit) (a p q : Hd) (w : World) (hk : LitAt d w w.heap.size x a p q) (hs : SmLit x) :
    Calls Tryz.prog 18 #[.agg (litC x a p q).toArray] w (CopyLit d x w) := by
  have mixed : Tryz.prog.follows .mixedOrders = true := by kernel_rfl
  have hg0 : ((w.alloc (.cells (litC x a p q).toArray 35)).alloc (.cells zlC.toArray 51)).heap[w.heap.size]? = some (.cells (litC x a p q).toArray 35 (0, 0)) := heapOld (heapNew rfl)
  have hg1 : ((w.alloc (.cells (litC x a p q).toArray 35)).alloc (.cells zlC.toArray 51)).heap[w.heap.size + 1]? = some (.cells zlC.toArray 51 (0, 0)) := heapNew (by simp)
  have hbw : Below w.heap.size w ((w.alloc (.cells (litC x a p q).toArray 35)).alloc (.cells zlC.toArray 51)) := belowA (belowA (Below.refl _ _) _) _
  have hzw : ((w.alloc (.cells (litC x a p q).toArray 35)).alloc (.cells zlC.toArray 51)).heap.size = w.heap.size + 2 := by simp
  go_enter Tryz.func18, Tryz.ntmps18
  go_wp2_with fail
  generalize hwb : (w.alloc _).alloc _ = wb
  rw [hwb] at hg0 hg1 hbw hzw
  clear hwb
  have HK := Lib.hid (hk.keep hbw)
  have C1 := Lib.hid (fun (W : World) (h : Below wb.heap.size wb W) => copyAtom_any x.atom a W ((HK.out.keep h).args) hk.rel hs.args)
  have C2 := Lib.hid (fun (W : World) (h : Below wb.heap.size wb W) => copyExp_any d x.l p.A p.n p.c W ((HK.out.keep h).lk) hs.l hk.lop hk.lx hk.lv)
  have C3 := Lib.hid (fun (W : World) (h : Below wb.heap.size wb W) => copyExp_any d x.r q.A q.n q.c W ((HK.out.keep h).rk) hs.r hk.rop hk.rx hk.rv)
  refine drawn2 mixed 16 19 [3, 4, 5, 6, 7, 8, 9, 10, 11, 12, 13, 14, 15, 16, 17, 18] (fun _ W => Below wb.heap.size wb W) (litF d x a p q w.heap.size wb.heap.size) (fun _ W W' => Below W.heap.size W W') rfl (by kernel_rfl) (by kernel_rfl) rfl (fun j _ => below_drewN _ 1 _) (fun i j v W W' _ _ _ h h' => litF_keep h h') (fun _ _ _ _ _ _ _ _ h h' => below_next h h') ?_ ?_
  · intro i o2 a2 W hi ho hd hold hG _ hw
    have hr1 : a2.tmps[1]? = some (.pointer (some ⟨w.heap.size, 0, none⟩)) := hold 1 (by kernel_rfl)
    have hgW := (hG.block _ (Array.getElem?_eq_some_iff.1 hg0).1).trans hg0
    have k0 : W.cell? ⟨w.heap.size, 0, none⟩ = some (.int .i64 x.k) := (cell_of_row _ _ 0 _ _ _ hgW).trans rfl
    have k3 : W.cell? ⟨w.heap.size, 3, none⟩ = some (.int .i64 x.op) := (cell_of_row _ _ 3 _ _ _ hgW).trans rfl
    have k16 : W.cell? ⟨w.heap.size, 16, none⟩ = some (.int .i64 x.pos) := (cell_of_row _ _ 16 _ _ _ hgW).trans rfl
    have hWz := hG.size
    clear hold
    match i, hi, ho with
    | 0, _, ho =>
      injection ho with ho; subst ho
      exact op_val _ (by simp [execOp, Act.eval, hr1, go_sem]) ⟨_, rfl, Below.refl _ _, rfl⟩
    | 1, _, ho =>
      injection ho with ho; subst ho
      obtain ⟨v0, h0, e0⟩ := hw 0 3 (by kernel_rfl)
      obtain rfl : v0 = _ := e0
      exact op_val _ (by simp [execOp, Act.eval, h0, go_sem, k0]) ⟨_, rfl, Below.refl _ _, rfl⟩
    | 2, _, ho =>
      injection ho with ho; subst ho
      exact op_val _ (by simp [execOp, Act.eval, hr1, go_sem]) ⟨_, rfl, Below.refl _ _, rfl⟩
    | 3, _, ho =>
      injection ho with ho; subst ho
      obtain ⟨v0, h0, e0⟩ := hw 2 5 (by kernel_rfl)
      obtain rfl : v0 = _ := e0
      exact wp_load_mid 25 (.tmp 5) rfl _ _ (eval_tmp h0) (atomC x.atom a) _ (range_off hgW rfl) Tryz.underlying25 rfl (atom_size _ _) ⟨_, rfl, Below.refl _ _, rfl⟩
    | 4, _, ho =>
      injection ho with ho; subst ho
      obtain ⟨v0, h0, e0⟩ := hw 3 6 (by kernel_rfl)
      obtain rfl : v0 = _ := e0
      refine op_call 95 _ rfl rfl #[.agg (atomC x.atom a).toArray] (by simp [Act.eval, h0]) _ Tryz.func95 (by kernel_rfl) (by kernel_rfl) ((C1.out W hG).mono ?_)
      rintro r w' ⟨A', c', rfl, hs', hb⟩
      exact ⟨_, rfl, _, rfl, hb, A', c', rfl, (own_far hs' rfl (by have := hs.args; omega) (told_okA hk.args)).low hWz⟩
    | 5, _, ho =>
      injection ho with ho; subst ho
      exact op_val _ (by simp [execOp, Act.eval, hr1, go_sem]) ⟨_, rfl, Below.refl _ _, rfl⟩
    | 6, _, ho =>
      injection ho with ho; subst ho
      obtain ⟨v0, h0, e0⟩ := hw 5 8 (by kernel_rfl)
      obtain rfl : v0 = _ := e0
      exact op_val _ (by simp [execOp, Act.eval, h0, go_sem, k3]) ⟨_, rfl, Below.refl _ _, rfl⟩
    | 7, _, ho =>
      injection ho with ho; subst ho
      exact op_val _ (by simp [execOp, Act.eval, hr1, go_sem]) ⟨_, rfl, Below.refl _ _, rfl⟩
    | 8, _, ho =>
      injection ho with ho; subst ho
      obtain ⟨v0, h0, e0⟩ := hw 7 10 (by kernel_rfl)
      obtain rfl : v0 = _ := e0
      exact wp_load_mid 33 (.tmp 10) rfl _ _ (eval_tmp h0) (expC x.l p.A p.n p.c) _ (range_off hgW rfl) Tryz.underlying33 rfl (exp_size _ _ _ _) ⟨_, rfl, Below.refl _ _, rfl⟩
    | 9, _, ho =>
      injection ho with ho; subst ho
      obtain ⟨v0, h0, e0⟩ := hw 8 11 (by kernel_rfl)
      obtain rfl : v0 = _ := e0
      refine op_call 31 _ rfl rfl #[expV x.l p.A p.n p.c] (by simp [Act.eval, h0]) _ Tryz.func31 (by kernel_rfl) (by kernel_rfl) ((C2.out W hG).mono ?_)
      rintro r w' ⟨A', c', rfl, hs', hb⟩
      exact ⟨_, rfl, _, rfl, hb, A', c', rfl, hs'.low hWz⟩
    | 10, _, ho =>
      injection ho with ho; subst ho
      exact op_val _ (by simp [execOp, Act.eval, hr1, go_sem]) ⟨_, rfl, Below.refl _ _, rfl⟩
    | 11, _, ho =>
      injection ho with ho; subst ho
      obtain ⟨v0, h0, e0⟩ := hw 10 13 (by kernel_rfl)
      obtain rfl : v0 = _ := e0
      exact wp_load_mid 33 (.tmp 13) rfl _ _ (eval_tmp h0) (expC x.r q.A q.n q.c) _ (range_off hgW rfl) Tryz.underlying33 rfl (exp_size _ _ _ _) ⟨_, rfl, Below.refl _ _, rfl⟩
    | 12, _, ho =>
      injection ho with ho; subst ho
      obtain ⟨v0, h0, e0⟩ := hw 11 14 (by kernel_rfl)
      obtain rfl : v0 = _ := e0
      refine op_call 31 _ rfl rfl #[expV x.r q.A q.n q.c] (by simp [Act.eval, h0]) _ Tryz.func31 (by kernel_rfl) (by kernel_rfl) ((C3.out W hG).mono ?_)
      rintro r w' ⟨A', c', rfl, hs', hb⟩
      exact ⟨_, rfl, _, rfl, hb, A', c', rfl, hs'.low hWz⟩
    | 13, _, ho =>
      injection ho with ho; subst ho
      exact op_val _ (by simp [execOp, Act.eval, hr1, go_sem]) ⟨_, rfl, Below.refl _ _, rfl⟩
    | 14, _, ho =>
      injection ho with ho; subst ho
      obtain ⟨v0, h0, e0⟩ := hw 13 16 (by kernel_rfl)
      obtain rfl : v0 = _ := e0
      exact op_val _ (by simp [execOp, Act.eval, h0, go_sem, k16]) ⟨_, rfl, Below.refl _ _, rfl⟩
    | 15, _, ho =>
      injection ho with ho; subst ho
      obtain ⟨v1, h1, e1⟩ := hw 1 4 (by kernel_rfl)
      obtain ⟨v4, h4, A4, c4, e4, f4⟩ := hw 4 7 (by kernel_rfl)
      obtain ⟨v6, h6, e6⟩ := hw 6 9 (by kernel_rfl)
      obtain ⟨v9, h9, A9, c9, e9, f9⟩ := hw 9 12 (by kernel_rfl)
      obtain ⟨v12, h12, A12, c12, e12, f12⟩ := hw 12 15 (by kernel_rfl)
      obtain ⟨v14, h14, e14⟩ := hw 14 17 (by kernel_rfl)
      obtain rfl : v1 = _ := e1
      obtain rfl : v4 = _ := e4
      obtain rfl : v6 = _ := e6
      obtain rfl : v9 = _ := e9
      obtain rfl : v12 = _ := e12
      obtain rfl : v14 = _ := e14
      exact op_build 51 _ rfl [(0, .int .i64 x.k), (1, .agg (atomC x.atom ⟨A4, x.atom.args.length, c4⟩).toArray), (2, .int .i64 x.op), (3, expV x.l A9 x.l.kids.length c9), (4, expV x.r A12 x.r.kids.length c12), (5, .int .i64 x.pos)] (litC x ⟨A4, x.atom.args.length, c4⟩ ⟨A9, x.l.kids.length, c9⟩ ⟨A12, x.r.kids.length, c12⟩).toArray (by simp [Act.eval, h1, h4, h6, h9, h12, h14]) (by kernel_rfl) ⟨_, rfl, Below.refl _ _, ⟨A4, x.atom.args.length, c4⟩, ⟨A9, x.l.kids.length, c9⟩, ⟨A12, x.r.kids.length, c12⟩, rfl, f4, f9, f12⟩
    | n + 16, hi, _ => omega
  · intro o2 u W ho hG hw
    obtain ⟨a', p', q', e0, h1, h2, h3⟩ := hw 15 18 (by decide) (by kernel_rfl)
    have hgW := (hG.block _ (Array.getElem?_eq_some_iff.1 hg1).1).trans hg1
    injection ho with ho; subst ho
    simp only [List.foldl_cons, List.foldl_nil, Act.put, List.setIfInBounds_toArray, List.set_cons_zero, List.set_cons_succ]
    rw [e0]
    refine wp_store_row 51 (.tmp 2) (.tmp 18) rfl (w.heap.size + 1) (litC x a' p' q').toArray rfl rfl 51 zlC.toArray hgW (by kernel_rfl) rfl (by simp [Value.oneCell']) ?_
    have hS := setRow_at (cs' := (litC x a' p' q').toArray) hgW
    have hoS : Out [w.heap.size + 1] W (W.setRow (w.heap.size + 1) (litC x a' p' q').toArray) := ⟨rfl, rfl, rfl, by rw [setRow_size]; exact Nat.le_refl _, fun x _ hx => setRow_ne (by simpa using hx)⟩
    have hfin : CopyLit d x w (.returned (.agg (litC x a' p' q').toArray)) (W.setRow (w.heap.size + 1) (litC x a' p' q').toArray) := by
      have t1 := h1.out hoS (U := List.range w.heap.size) (fun b hb _ => List.mem_range.2 (by simp at hb; omega)) (fun b hb _ => List.mem_range.2 (by have := List.mem_range.1 hb; omega))
      have t2 := h2.out hoS (U := List.range w.heap.size) (fun b hb _ => List.mem_range.2 (by simp at hb; omega)) (fun b hb _ => List.mem_range.2 (by have := List.mem_range.1 hb; omega))
      have t3 := h3.out hoS (U := List.range w.heap.size) (fun b hb _ => List.mem_range.2 (by simp at hb; omega)) (fun b hb _ => List.mem_range.2 (by have := List.mem_range.1 hb; omega))
      exact ⟨a', p', q', rfl, ⟨hk.k, hk.op, hk.pos, hk.rel, t1, hk.lop, hk.lx, hk.lv, t2, hk.rop, hk.rx, hk.rv, t3⟩, (hbw.trans (hG.mono (by omega))).trans (hoS.below (fun b hb => by simp at hb; omega) (by have := hG.size; omega))⟩
    have HF := Lib.hid hfin
    obtain ⟨s0, s1, s2, s3, s4, s5, s6, s7, s8, s9, s10, s11, s12, s13, s14, s15, s16⟩ := facts17 hS
    clear hfin hS hoS h1 h2 h3 hw C1 C2 C3 HK hk hs hG hgW hg0 hg1
    generalize W.setRow _ _ = W2 at *
    simp only [Act.put]
    go_wp2_with fail
    refine bodyPost_ret (v := .agg (litC x a' p' q').toArray) ?_ rfl HF.out
    simp [results, Tryz.results18, go_sem, s0, s1, s2, s3, s4, s5, s6, s7, s8, s9, s10, s11, s12, s13, s14, s15, s16]
end Go.Proofs.YtgabkmibfhmkmaaGreatDoor

namespace Go.Proofs.YtgabkmibfhmkmaaGreatDoor
open Go.RowKit
def CopyRule (d : Nat) (x : GRule) (w : World) (r : Ending) (w' : World) : Prop :=
  ∃ a b : Hd, r = .returned (.agg (ruleC x a b).toArray) ∧ RuleAt d (sans w' (List.range w.heap.size)) w'.heap.size x a b ∧ Below w.heap.size w w'
def rulF (x : GRule) (a : Hd) (_b : Hd) (g n0 : Nat) (i : Nat) (v : Value) (W : World) : Prop := match i with
  | 0 => v = .pointer (some ⟨g, 0, none⟩)
  | 1 => v = .agg (atomC x.head a).toArray
  | 2 => ∃ (A : Option Addr) (c : Nat), v = .agg (atomC x.head ⟨A, x.head.args.length, c⟩).toArray ∧ W.ownsRow n0 46 4 (.slice A x.head.args.length c) x.head.args.length (x.head.args.flatMap GTold.cells)
  | 3 => v = .pointer (some ⟨g, 2, none⟩)
  | 4 => v = .int .i64 x.agg
  | 5 => v = .pointer (some ⟨g, 3, none⟩)
  | 6 => v = .int .i64 x.col
  | 7 => v = .pointer (some ⟨g, 5, none⟩)
  | 8 => v = .int .i64 x.pos
  | 9 => ∃ (A : Option Addr) (c : Nat), v = .agg (ruleC x ⟨A, x.head.args.length, c⟩ ⟨none, 0, 0⟩).toArray ∧ W.ownsRow n0 46 4 (.slice A x.head.args.length c) x.head.args.length (x.head.args.flatMap GTold.cells)
  | 10 => ∃ (b : Nat) (cs : List Value), v = .pointer (some ⟨b, 0, none⟩) ∧ n0 ≤ b ∧ cs.length = 6 ∧ W.heap[b]? = some (.cells cs.toArray 75 (0, 0))
  | _ => True
theorem rulF_keep {x : GRule} {a b : Hd} {g n0 i : Nat} {v : Value} {W W' : World} (h : rulF x a b g n0 i v W) (hb : Below W.heap.size W W') : rulF x a b g n0 i v W' := by
  match i, h with
  | 0, h => exact h
  | 1, h => exact h
  | 2, ⟨A, c, h1, h2⟩ => exact ⟨A, c, h1, own_below h2 hb⟩
  | 3, h => exact h
  | 4, h => exact h
  | 5, h => exact h
  | 6, h => exact h
  | 7, h => exact h
  | 8, h => exact h
  | 9, ⟨A, c, h1, h2⟩ => exact ⟨A, c, h1, own_below h2 hb⟩
  | 10, ⟨b, cs, h1, h2, h3, h4⟩ => exact ⟨b, cs, h1, h2, h3, (hb.block _ (Array.getElem?_eq_some_iff.1 h4).1).trans h4⟩
  | _ + 11, _ => exact trivial
theorem own_lowR {W : World} {base base' : Nat} {e : TypeId} {size : Nat} {v : Value} {k : Nat} {xs : List Value} (h : W.ownsRow base e size v k xs) (hb : base' ≤ base) : W.ownsRow base' e size v k xs := by
  refine ⟨h.1, ?_⟩
  rcases h.2 with hn | ⟨g, cap, cur, hv, hbg, rest⟩
  · exact .inl hn
  · exact .inr ⟨g, cap, cur, hv, by omega, rest⟩
abbrev zrC : List Value := [.string ⟨#[]⟩, .slice none 0 0, .int .i64 0, .int .i64 0, .slice none 0 0, .int .i64 0]
set_option maxRecDepth 100000 in
set_option maxHeartbeats 8000000 in
theorem copyRule_any (d : Nat) (x : GRule) (a b : Hd) (w : World) (hk : RuleAt d w w.heap.size x a b) (hs : SmRule x) :
    Calls Tryz.prog 30 #[.agg (ruleC x a b).toArray] w (CopyRule d x w) := by
  have mixed : Tryz.prog.follows .mixedOrders = true := by kernel_rfl
  have hn := hk.body.bound
  have Hlen := Lib.hid hk.body.1
  have HS := Lib.hid hs
  obtain ⟨P, HP⟩ : ∃ P : Ending → World → Prop, Hid (P = CopyRule d x w) := ⟨_, rfl⟩
  rw [← HP.out]
  have HKw := Lib.hid hk
  obtain ⟨aA, an, ac⟩ := a
  obtain ⟨A, n, c⟩ := b
  have hg0 : ((w.alloc (.cells (ruleC x ⟨aA, an, ac⟩ ⟨A, n, c⟩).toArray 41)).alloc (.cells zrC.toArray 75)).heap[w.heap.size]? = some (.cells (ruleC x ⟨aA, an, ac⟩ ⟨A, n, c⟩).toArray 41 (0, 0)) := heapOld (heapNew rfl)
  have hg1 : ((w.alloc (.cells (ruleC x ⟨aA, an, ac⟩ ⟨A, n, c⟩).toArray 41)).alloc (.cells zrC.toArray 75)).heap[w.heap.size + 1]? = some (.cells zrC.toArray 75 (0, 0)) := heapNew (by simp)
  have hbw : Below w.heap.size w ((w.alloc (.cells (ruleC x ⟨aA, an, ac⟩ ⟨A, n, c⟩).toArray 41)).alloc (.cells zrC.toArray 75)) := belowA (belowA (Below.refl _ _) _) _
  have hzw : ((w.alloc (.cells (ruleC x ⟨aA, an, ac⟩ ⟨A, n, c⟩).toArray 41)).alloc (.cells zrC.toArray 75)).heap.size = w.heap.size + 2 := by simp
  clear hk hs
  show Calls Tryz.prog 30 #[.agg #[.string x.head.rel, .slice aA an ac, .int .i64 x.agg, .int .i64 x.col, .slice A n c, .int .i64 x.pos]] w P
  go_enter Tryz.func30, Tryz.ntmps30
  go_wp2_with fail
  generalize hwb : (w.alloc _).alloc _ = wb
  rw [hwb] at hg0 hg1 hbw hzw
  clear hwb
  have HK := Lib.hid (HKw.out.keep hbw)
  have C1 := Lib.hid (fun (W : World) (h : Below wb.heap.size wb W) => copyAtom_any x.head ⟨aA, an, ac⟩ W ((HK.out.keep h).args) HKw.out.rel HS.out.args)
  refine drawn2 mixed 11 32 [6, 7, 8, 9, 10, 11, 12, 13, 14, 15, 3] (fun _ W => Below wb.heap.size wb W) (rulF x ⟨aA, an, ac⟩ ⟨A, n, c⟩ w.heap.size wb.heap.size) (fun _ W W' => Below W.heap.size W W') rfl (by kernel_rfl) (by kernel_rfl) rfl (fun j _ => below_drewN _ 1 _) (fun i j v W W' _ _ _ h h' => rulF_keep h h') (fun _ _ _ _ _ _ _ _ h h' => below_next h h') ?_ ?_
  · intro i o2 a2 W hi ho hd hold hG _ hw
    have hr1 : a2.tmps[1]? = some (.pointer (some ⟨w.heap.size, 0, none⟩)) := hold 1 (by kernel_rfl)
    have hgW := (hG.block _ (Array.getElem?_eq_some_iff.1 hg0).1).trans hg0
    have k2 : W.cell? ⟨w.heap.size, 2, none⟩ = some (.int .i64 x.agg) := (cell_of_row _ _ 2 _ _ _ hgW).trans rfl
    have k3 : W.cell? ⟨w.heap.size, 3, none⟩ = some (.int .i64 x.col) := (cell_of_row _ _ 3 _ _ _ hgW).trans rfl
    have k5 : W.cell? ⟨w.heap.size, 5, none⟩ = some (.int .i64 x.pos) := (cell_of_row _ _ 5 _ _ _ hgW).trans rfl
    have hWz := hG.size
    clear hold
    match i, hi, ho with
    | 0, _, ho =>
      injection ho with ho; subst ho
      exact op_val _ (by simp [execOp, Act.eval, hr1, go_sem]) ⟨_, rfl, Below.refl _ _, rfl⟩
    | 1, _, ho =>
      injection ho with ho; subst ho
      obtain ⟨v0, h0, e0⟩ := hw 0 6 (by kernel_rfl)
      obtain rfl : v0 = _ := e0
      exact wp_load_mid 25 (.tmp 6) rfl _ _ (eval_tmp h0) (atomC x.head ⟨aA, an, ac⟩) _ (range_off hgW rfl) Tryz.underlying25 rfl (atom_size _ _) ⟨_, rfl, Below.refl _ _, rfl⟩
    | 2, _, ho =>
      injection ho with ho; subst ho
      obtain ⟨v0, h0, e0⟩ := hw 1 7 (by kernel_rfl)
      obtain rfl : v0 = _ := e0
      refine op_call 95 _ rfl rfl #[.agg (atomC x.head ⟨aA, an, ac⟩).toArray] (by simp [Act.eval, h0]) _ Tryz.func95 (by kernel_rfl) (by kernel_rfl) ((C1.out W hG).mono ?_)
      rintro r w' ⟨A', c', rfl, hs', hb⟩
      exact ⟨_, rfl, _, rfl, hb, A', c', rfl, own_lowR hs' hWz⟩
    | 3, _, ho =>
      injection ho with ho; subst ho
      exact op_val _ (by simp [execOp, Act.eval, hr1, go_sem]) ⟨_, rfl, Below.refl _ _, rfl⟩
    | 4, _, ho =>
      injection ho with ho; subst ho
      obtain ⟨v0, h0, e0⟩ := hw 3 9 (by kernel_rfl)
      obtain rfl : v0 = _ := e0
      exact op_val _ (by simp [execOp, Act.eval, h0, go_sem, k2]) ⟨_, rfl, Below.refl _ _, rfl⟩
    | 5, _, ho =>
      injection ho with ho; subst ho
      exact op_val _ (by simp [execOp, Act.eval, hr1, go_sem]) ⟨_, rfl, Below.refl _ _, rfl⟩
    | 6, _, ho =>
      injection ho with ho; subst ho
      obtain ⟨v0, h0, e0⟩ := hw 5 11 (by kernel_rfl)
      obtain rfl : v0 = _ := e0
      exact op_val _ (by simp [execOp, Act.eval, h0, go_sem, k3]) ⟨_, rfl, Below.refl _ _, rfl⟩
    | 7, _, ho =>
      injection ho with ho; subst ho
      exact op_val _ (by simp [execOp, Act.eval, hr1, go_sem]) ⟨_, rfl, Below.refl _ _, rfl⟩
    | 8, _, ho =>
      injection ho with ho; subst ho
      obtain ⟨v0, h0, e0⟩ := hw 7 13 (by kernel_rfl)
      obtain rfl : v0 = _ := e0
      exact op_val _ (by simp [execOp, Act.eval, h0, go_sem, k5]) ⟨_, rfl, Below.refl _ _, rfl⟩
    | 9, _, ho =>
      injection ho with ho; subst ho
      obtain ⟨v2, h2, A2, c2, e2, f2⟩ := hw 2 8 (by kernel_rfl)
      obtain ⟨v4, h4, e4⟩ := hw 4 10 (by kernel_rfl)
      obtain ⟨v6, h6, e6⟩ := hw 6 12 (by kernel_rfl)
      obtain ⟨v8, h8, e8⟩ := hw 8 14 (by kernel_rfl)
      obtain rfl : v2 = _ := e2
      obtain rfl : v4 = _ := e4
      obtain rfl : v6 = _ := e6
      obtain rfl : v8 = _ := e8
      exact op_build 75 _ rfl [(0, .agg (atomC x.head ⟨A2, x.head.args.length, c2⟩).toArray), (1, .int .i64 x.agg), (2, .int .i64 x.col), (4, .int .i64 x.pos)] (ruleC x ⟨A2, x.head.args.length, c2⟩ ⟨none, 0, 0⟩).toArray (by simp [Act.eval, h2, h4, h6, h8]) (by kernel_rfl) ⟨_, rfl, Below.refl _ _, A2, c2, rfl, f2⟩
    | 10, _, ho =>
      injection ho with ho; subst ho
      exact op_alloc 75 rfl zrC.toArray 6 (by kernel_rfl) ⟨_, rfl, belowA (Below.refl _ _) _, _, zrC, rfl, hWz, rfl, heapNew rfl⟩
    | n + 11, hi, _ => omega
  · intro o2 u W ho hG hw
    obtain ⟨hA, hc, e0, h1⟩ := hw 9 15 (by decide) (by kernel_rfl)
    obtain ⟨g, cs, e1, hgn, hcs, hgg⟩ := hw 10 3 (by decide) (by kernel_rfl)
    have hgW := (hG.block _ (Array.getElem?_eq_some_iff.1 hg1).1).trans hg1
    injection ho with ho; subst ho
    simp only [List.foldl_cons, List.foldl_nil, Act.put, List.setIfInBounds_toArray, List.set_cons_zero, List.set_cons_succ]
    rw [e0, e1]
    refine wp_store_row 75 (.tmp 3) (.tmp 15) rfl g (ruleC x ⟨hA, x.head.args.length, hc⟩ ⟨none, 0, 0⟩).toArray rfl rfl 75 cs.toArray hgg (by kernel_rfl) (by simp [hcs]) (by simp [Value.oneCell']) ?_
    have hS := setRow_at (cs' := (ruleC x ⟨hA, x.head.args.length, hc⟩ ⟨none, 0, 0⟩).toArray) hgg
    have hoS : Out [g] W (W.setRow g (ruleC x ⟨hA, x.head.args.length, hc⟩ ⟨none, 0, 0⟩).toArray) := ⟨rfl, rfl, rfl, by rw [setRow_size]; exact Nat.le_refl _, fun x _ hx => setRow_ne (by simpa using hx)⟩
    have hgl := (Array.getElem?_eq_some_iff.1 hgg).1
    have hzz := hG.size
    have hO2 := own_out' h1 hoS (fun b hb hb' => by
      obtain ⟨cur, hcur⟩ := own_typeR h1 hb
      simp at hb'
      subst hb'
      rw [hgg] at hcur
      injection hcur with hcur
      injection hcur with _ h3 _
      exact absurd h3 (by decide))
    have hr1 := (hoS.block _ (Array.getElem?_eq_some_iff.1 hgW).1 (by simp; omega)).trans hgW
    have hr0 := (hoS.block _ (Array.getElem?_eq_some_iff.1 ((hG.block _ (Array.getElem?_eq_some_iff.1 hg0).1).trans hg0)).1 (by simp; omega)).trans ((hG.block _ (Array.getElem?_eq_some_iff.1 hg0).1).trans hg0)
    have hbW : Below w.heap.size w (W.setRow g (ruleC x ⟨hA, x.head.args.length, hc⟩ ⟨none, 0, 0⟩).toArray) := (hbw.trans (hG.mono (by omega))).trans (hoS.below (fun b hb => by simp at hb; omega) (by omega))
    have hsz : (W.setRow g (ruleC x ⟨hA, x.head.args.length, hc⟩ ⟨none, 0, 0⟩).toArray).heap.size = W.heap.size := setRow_size
    clear hw C1 hoS hgg hcs h1 hgW hg0 hg1 hG HK hbw e0 e1
    generalize W.setRow g _ = W2 at *
    obtain ⟨b0, b1, b2, b3, b4, b5⟩ := facts6 hr0
    dsimp only [Hd.v] at b0 b1 b2 b3 b4 b5
    obtain ⟨b1z, Hb1⟩ : ∃ b1z, Hid (W2.heap.size = b1z) := ⟨_, rfl⟩
    have HKe := Lib.hid (fun (W : World) (h : Below w.heap.size w W) => (HKw.out.keep h).body)
    simp only [Act.put]
    go_wp2_with fail
    have HO0 := Lib.hid (own_lowR hO2 (base' := w.heap.size) (by omega))
    have hzb : w.heap.size + 2 ≤ b1z := by have := Hb1.out; omega
    have hgb : g < b1z := by have := Hb1.out; omega
    have hgw : w.heap.size + 2 ≤ g := by omega
    have hHO : Hid (∀ bb, (Value.slice hA x.head.args.length hc).ownBlock = some bb → bb < b1z ∧ bb ≠ g) := fun bb hbb => by
      have h9 := (own_blk hO2 hbb).2
      refine ⟨by have := Hb1.out; omega, fun e => ?_⟩
      obtain ⟨cur, hcur⟩ := own_typeR hO2 hbb
      rw [e, hS] at hcur
      injection hcur with hcur
      injection hcur with _ h3 _
      exact absurd h3 (by decide)
    have HzW : Hid (b1z ≤ W2.heap.size) := by show _ ≤ _; rw [Hb1.out]; exact Nat.le_refl _
    clear hO2 hr0 b0 b1 b2 b3 b4 b5 Hb1 hsz hzw hgl hgn hzz
    go_loopw [19] (fun i wr => ∃ (j c' : Nat) (A' : Option Addr) (L : List (GLit × List Value)), j ≤ n ∧ i = .int .i64 j ∧ Hid (L.map (·.1) = x.body.take j) ∧ Hid (Rows (Enc.lit d) b1z 51 wr A' j c' L) ∧ wr.heap[g]? = some (.cells (ruleC x ⟨hA, x.head.args.length, hc⟩ ⟨A', j, c'⟩).toArray 75 (0, 0)) ∧ wr.heap[w.heap.size + 1]? = some (.cells zrC.toArray 75 (0, 0)) ∧
      Hid (wr.ownsRow w.heap.size 46 4 (.slice hA x.head.args.length hc) x.head.args.length (x.head.args.flatMap GTold.cells)) ∧ Below w.heap.size w wr ∧ b1z ≤ wr.heap.size) (fun i _ => n - (intOf i).toNat)
    case atStart => exact ⟨0, 0, none, [], by omega, rfl, rfl, Rows.nil _ _ _, hS, hr1, HO0, hbW, HzW.out⟩
    case round =>
      clear hS hr1 hbW
      obtain ⟨j, c', A', L, hj, rfl, HL, HR, hg, hg1, HOh, hbr, hzr⟩ := hrel
      have i0 : (0 : Int) ≤ (j : Int) := by omega
      by_cases hlt : j < n
      · have i1 : (j : Int) < (n : Int) := by omega
        obtain ⟨bb, o, k, ak, pk, qk, hAA, hbb, hk', hkl, hr⟩ := (HKe.out wr hbr).lit_range hlt
        try simp only at hAA
        subst hAA
        have hkm := Lib.hid (List.mem_of_getElem? hk'.out)
        have HT : Hid (x.body.take (j + 1) = x.body.take j ++ [k]) := by show _ = _; rw [List.take_add_one, hk'.out]; rfl
        have hba : Below wr.heap.size wr (wr.alloc (.cells (litC k ak pk qk).toArray 35)) := belowA (Below.refl _ _) _
        have HC := Lib.hid (fun (W : World) (h : Below (wr.alloc (.cells (litC k ak pk qk).toArray 35)).heap.size (wr.alloc (.cells (litC k ak pk qk).toArray 35)) W) => copyLit_any d k ak pk qk W ((hkl.keep hba).keep h) (HS.out.lits k hkm.out))
        have hn1 : j + 1 ≤ 1500 := by have := HS.out.body; have := Hlen.out; omega
        have hx2 : (wr.alloc (.cells (litC k ak pk qk).toArray 35)).heap[wr.heap.size]? = some (.cells (litC k ak pk qk).toArray 35 (0, 0)) := heapNew rfl
        have hgA := heapOld (o := .cells (litC k ak pk qk).toArray 35) hg
        have hg1A := heapOld (o := .cells (litC k ak pk qk).toArray 35) hg1
        have HRA := Lib.hid (HR.out.out (Out.of_below hba []) (fun _ h _ => by cases h))
        have hbA := below_next hbr hba
        have HOhA := Lib.hid (own_below HOh.out hba)
        have HoG : Hid (g ∉ (Value.slice A' j c').ownBlock.toList) := fun hm => by
          have := (own_blk HR.out.own (b := g) (by simpa using hm)).1
          omega
        have HoX : Hid (wr.heap.size ∉ (Value.slice A' j c').ownBlock.toList) := fun hm => by
          have := (own_blk HR.out.own (b := wr.heap.size) (by simpa using hm)).2
          omega
        have HO : Hid ((wr.alloc (.cells (litC k ak pk qk).toArray 35)).ownsRow b1z 51 17 (.slice A' j c') j (L.flatMap (·.2))) := HRA.out.own
        clear hk' hba hkl HR hg hg1 HOh
        go_wp2_with (first
          | refine wpList_load_mid rfl 35 (.tmp 21) rfl bb (o + j * 17) rfl (litC k ak pk qk) _ hr.out Tryz.underlying35 rfl (lit_size k ak pk qk) ?_
          | refine wpList_new rfl rfl 35 5 (.tmp 22) rfl rfl rfl rfl _ (litC k ak pk qk).toArray lit_info rfl (lit_one k ak pk qk) rfl rfl ?_)
        refine push_region (n := 32) mixed rfl rfl (by kernel_rfl) (by kernel_rfl) (by kernel_rfl) g wr.heap.size 4 b1z 51 17 224 j (.agg zlC.toArray) A' c' (L.flatMap (·.2)) (litC k ak pk qk) (ruleC x ⟨hA, x.head.args.length, hc⟩ ⟨A', j, c'⟩).toArray
          (fun vcs W => (Enc.lit d).ok (sans W (List.range (wr.heap.size + 1))) W.heap.size vcs k) (fun S vcs W => (Enc.lit d).ok (sans W (List.range (wr.heap.size + 1) ++ S)) W.heap.size vcs k) _
          rfl rfl hgA hx2 rfl (fun w => by simp [go_sem]) Tryz.underlying73 (by kernel_rfl) Tryz.underlying35 rfl (lit_size k ak pk qk) (by kernel_rfl) rfl (by decide) (by decide) HO.out HoG.out HoX.out (by simp [maxLen]; omega) (by omega) (by simp; omega) _ Tryz.func18 (by kernel_rfl) (by kernel_rfl) ?_ ?_ ?_ ?_ ?_ ?_
        · intro vcs W W' h hb
          exact (Enc.lit d).mono hb.size ((Out.of_below hb []).kept (fun _ h _ => by cases h) (fun _ h _ => h)) h
        · intro S vcs W W' h hb
          exact (Enc.lit d).mono hb.size ((Out.of_below hb []).kept (fun _ h _ => by cases h) (fun _ h _ => h)) h
        · intro S vcs W W' h hz ho hS
          refine (Enc.lit d).mono ho.size (ho.kept (T := List.range (wr.heap.size + 1)) (fun b hb _ => ?_) (fun b hb hl => ?_)) h
          · have := (own_blk HO.out (b := b) (by simpa using hb)).2
            simp at this
            exact List.mem_range.2 this
          · rcases List.mem_append.1 hb with hb | hb
            · exact hb
            · rcases hS b hb with h1 | h1
              · have := (own_blk HO.out (b := b) (by simpa using h1)).2
                simp at this
                exact List.mem_range.2 this
              · omega
        · intro vcs W W' h hz ho
          refine (Enc.lit d).mono ho.size (ho.kept (T := List.range (wr.heap.size + 1)) (fun b hb _ => ?_) (fun b hb hl => hb)) h
          have := (own_blk HO.out (b := b) (by simpa using hb)).2
          simp at this
          exact List.mem_range.2 this
        · intro W hb
          refine (HC.out W hb).mono ?_
          rintro r w' ⟨a2, p2, q2, rfl, hs, hb2⟩
          refine ⟨litC k a2 p2 q2, rfl, rfl, by simp [Value.oneCell'], ?_, hb2⟩
          refine ⟨a2, p2, q2, rfl, hs.mono' (Nat.le_refl _) ((Out.refl [] w').kept (fun _ h _ => by cases h) (fun b hb' _ => List.mem_range.2 ?_))⟩
          have h1 := List.mem_range.1 hb'
          have h2 := hb.size
          simp at h2
          omega
        · intro u W vcs A2 c2 hl hfar hown hblk ho hgW
          have hsA : (wr.alloc (.cells (litC k ak pk qk).toArray 35)).heap.size = wr.heap.size + 1 := by simp
          have hR2 := HRA.out.push (by rw [hsA]; omega) hown hblk ho (by rw [hsA]; exact hfar)
          have HR2 := Lib.hid (hR2.out (set_out W g 4 (.slice A2 (j + 1) c2)) (fun b hb _ => by simp at hb; omega))
          have HL2 : Hid ((L ++ [(k, vcs)]).map (·.1) = x.body.take (j + 1)) := by show _ = _; rw [HT.out, List.map_append, HL.out]; rfl
          have hG2 : (W.setCell ⟨g, 4, none⟩ (.slice A2 (j + 1) c2)).heap[g]? = some (.cells (ruleC x ⟨hA, x.head.args.length, hc⟩ ⟨A2, j + 1, c2⟩).toArray 75 (0, 0)) := by
            simp [World.setCell, Array.getElem?_modify, hgW]
          have hnot : ∀ bb, bb < b1z → bb ∉ (Value.slice A' j c').ownBlock.toList := fun bb hbb hm => by
            have := (own_blk HO.out (b := bb) (by simpa using hm)).1
            omega
          have hG1 : (W.setCell ⟨g, 4, none⟩ (.slice A2 (j + 1) c2)).heap[w.heap.size + 1]? = some (.cells zrC.toArray 75 (0, 0)) :=
            (World.heap_setCells_other' (by omega)).trans ((ho.block _ (Array.getElem?_eq_some_iff.1 hg1A).1 (hnot _ (by omega))).trans hg1A)
          have HOh2 : Hid ((W.setCell ⟨g, 4, none⟩ (.slice A2 (j + 1) c2)).ownsRow w.heap.size 46 4 (.slice hA x.head.args.length hc) x.head.args.length (x.head.args.flatMap GTold.cells)) :=
            own_out' (own_out' HOhA.out ho (fun b hb => hnot b (hHO.out b hb).1)) (set_out W g 4 _) (fun b hb => by simpa using (hHO.out b hb).2)
          have hzz : wr.heap.size + 1 ≤ W.heap.size := by rw [← hsA]; exact ho.size
          have hB2 : Below w.heap.size w (W.setCell ⟨g, 4, none⟩ (.slice A2 (j + 1) c2)) :=
            (hbA.trans (ho.below (B := w.heap.size) (fun b hb => by
              have := (own_blk HO.out (b := b) (by simpa using hb)).1
              omega) (by rw [hsA]; omega))).setCell (by show w.heap.size ≤ g; omega) _
          have hzs : (W.setCell ⟨g, 4, none⟩ (.slice A2 (j + 1) c2)).heap.size = W.heap.size := World.size_setCell'
          have HZ2 := Lib.hid hzs
          clear hR2 hgW hfar hown hblk ho hsA hgA hg1A hx2 hzs hnot
          simp only [List.foldl_cons, List.foldl_nil, Act.put, List.setIfInBounds_toArray, List.set_cons_zero, List.set_cons_succ]
          generalize W.setCell ⟨g, 4, none⟩ (.slice A2 (j + 1) c2) = W3 at *
          go_wp2_with fail
          go_roundw
          case rel => exact ⟨j + 1, c2, A2, _, by omega, by go_num, HL2, HR2, hG2, hG1, HOh2, hB2, by rw [HZ2.out]; omega⟩
          case measure => simp [intOf]; omega
      · have i1 : ¬ (j : Int) < (n : Int) := by omega
        have hjn : j = n := by omega
        subst hjn
        have hll := Hlen.out
        obtain ⟨c0, c1, c2, c3, c4, c5⟩ := facts6 hg
        have hS := setRow_at (cs' := (ruleC x ⟨hA, x.head.args.length, hc⟩ ⟨A', j, c'⟩).toArray) hg1
        obtain ⟨s0, s1, s2, s3, s4, s5⟩ := facts6 hS
        have hbS : Below w.heap.size w (wr.setRow (w.heap.size + 1) (ruleC x ⟨hA, x.head.args.length, hc⟩ ⟨A', j, c'⟩).toArray) := ⟨hbr.os, hbr.tape, hbr.output, by rw [setRow_size]; exact hbr.size, fun x hx => (setRow_ne (by omega)).trans (hbr.block x hx)⟩
        have hoS : Out [w.heap.size + 1] wr (wr.setRow (w.heap.size + 1) (ruleC x ⟨hA, x.head.args.length, hc⟩ ⟨A', j, c'⟩).toArray) := ⟨rfl, rfl, rfl, by rw [setRow_size]; exact Nat.le_refl _, fun x _ hx => setRow_ne (by simpa using hx)⟩
        have hR3 := HR.out.out hoS (fun b hb _ => by simp at hb; omega)
        have hR2 := hR3.is (base := w.heap.size) (by simpa [reachN] using hn) (by omega)
        rw [HL.out, List.take_of_length_le (by omega)] at hR2
        have hO3 := own_out' HOh.out hoS (fun b hb hb' => by
          simp at hb'
          obtain ⟨cur, hcur⟩ := own_typeR HOh.out hb
          rw [hb', hg1] at hcur
          injection hcur with hcur
          injection hcur with _ h3 _
          exact absurd h3 (by decide))
        have hpost : P (.returned (.agg (ruleC x ⟨hA, x.head.args.length, hc⟩ ⟨A', j, c'⟩).toArray)) (wr.setRow (w.heap.size + 1) (ruleC x ⟨hA, x.head.args.length, hc⟩ ⟨A', j, c'⟩).toArray) := by
          rw [HP.out]
          exact ⟨_, _, rfl, ⟨HKw.out.rel, own_far (n := x.head.args.length) (l := x.head.args) hO3 rfl (Nat.le_trans HS.out.args (by decide)) (told_okA HKw.out.args), HKw.out.agg, HKw.out.col, hR2, HKw.out.pos⟩, hbS⟩
        have HPo := Lib.hid hpost
        clear hR2 hR3 HR HL hll hpost hoS hbS hS HP hO3
        go_wp2_with (refine wpList_store_rowTo rfl 75 (.tmp 2) (.tmp 31) rfl rfl (w.heap.size + 1) (ruleC x ⟨hA, x.head.args.length, hc⟩ ⟨A', j, c'⟩).toArray rfl rfl 75 zrC.toArray hg1 (by kernel_rfl) rfl (by simp [Value.oneCell']) ?_)
        refine bodyPost_ret (v := .agg (ruleC x ⟨hA, x.head.args.length, hc⟩ ⟨A', j, c'⟩).toArray) ?_ rfl HPo.out
        simp [results, Tryz.results30, go_sem, s0, s1, s2, s3, s4, s5]
end Go.Proofs.YtgabkmibfhmkmaaGreatDoor
