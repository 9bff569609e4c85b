/- slices.AppendSeq and slices.Collect at terms, over whatever iterator. -/
import Derived.RangeFuncBox
import Derived.RangeFuncNested
import Derived.RangeFuncLeaves
import Derived.Shelf.Abstract
import Derived.WalkKit
import Derived.OwnWalkIn
import Derived.TacticsInMore
import Derived.LoopNIn
import Derived.LoopIn
import Derived.Maps.AppendAt
import Derived.Test.YtggbfpjpkfhaeaaConcat
namespace Go.Proofs.Ytggbfpjpkfhaeaa
open Go.RowKit Go.Shelf
attribute [local go_sem] Oper.semAt_some

def encT (t : GTold) : Array Value := #[.agg #[.string t.x, .int .i64 t.v.k, .int .i64 t.v.n, .string t.v.s]]
def TRow (W : World) (Bx : Nat) (t : GTold) : Prop := W.heap[Bx]? = some (.cells #[.string t.x, .int .i64 t.v.k, .int .i64 t.v.n, .string t.v.s] 78 (0, 0))
def CollI (n₀ : Nat) (w : World) (pre : List GTold) (W : World) : Prop :=
  (∃ v, Boxed W n₀ 47 v ∧ W.ownsRow n₀ 78 4 v pre.length (pre.flatMap GTold.cells) ∧ True) ∧ Below n₀ w W

theorem cells_new (w : World) (cs : List Value) (t : TypeId) : ∀ j u, cs[j]? = some u → (w.alloc (.cells cs.toArray t)).cell? ((⟨w.heap.size, 0, none⟩ : Addr).add j) = some u := by
  intro j u hu
  have hadd : (⟨w.heap.size, 0, none⟩ : Addr).add j = ⟨w.heap.size, j, none⟩ := by unfold Addr.add; split <;> simp_all
  rw [hadd, cell_of_row _ w.heap.size j cs.toArray t (0, 0) (Go.heap_alloc_new w _)]
  simpa using hu

set_option maxRecDepth 100000 in
set_option maxHeartbeats 2000000 in
theorem appendSeq_in (F : Fence) (n : Nat) (h68 : F.fn 68) (hro : F.round = none) (hn : 3 ≤ n) (gf : Nat) (lb : Array Value) (hFg : F.fn gf) (eg : ∀ args w, (callFunc gf args).run Try.prog w = .ok (.enter gf args) w)
    (S Sp : List GTold → Prop) (N : Nat) (hN : N ≤ 1000) (w : World) (hseq : SeqStopsK F (n - 1) Try.prog gf lb encT (Below w.heap.size) S Sp N w) :
    CallsIn F n Try.prog 68 #[.slice none 0 0, .func (.func gf) #[] lb] w fun e W' => ∃ v xs, e = .returned v ∧ S xs ∧ W'.ownsRow w.heap.size 78 4 v xs.length (xs.flatMap GTold.cells) ∧ Below w.heap.size w W' := by
  have h1 : 1 ≤ n := by omega
  obtain ⟨i0, hi, hz0, hz1, hz2⟩ := info_parts term_info
  refine callsIn_of_wp_marks Try.func68 rfl h68 ?_ hro
  simp only [Try.ntmps68, List.size_toArray, List.length_cons, List.length_nil, Nat.reduceAdd, Nat.reduceSub, Array.replicate_succ, Array.replicate_zero, List.push_toArray, List.append_toArray, List.nil_append, List.cons_append]
  gi_wp2
  refine wpIn_rangeFunc_ownH hro h1 (gf := gf) (lb := lb) rfl hFg eg hseq belowK_t (belowK_b (by simp)) ((Below.refl _ w).alloc (Nat.le_refl _) _) (fun _ => rfl)
    (CollI w.heap.size w) (fun _ _ _ => False)
    (OwnFrom.and (Own.from (holdsRow_own w.heap.size w.heap.size 47 78 4 (fun (pre : List GTold) => pre.length) (fun (pre : List GTold) => pre.flatMap GTold.cells) (fun _ _ => True)) _) (ownFrom_below (Nat.le_refl _) (by simp)))
    (fun _ _ _ _ _ hs _ _ => hs)
    ⟨⟨_, Boxed.new w _ _, World.ownsRow_nil _ _ _ _, trivial⟩, (Below.refl _ w).alloc (Nat.le_refl _) _⟩
    (fun x a' W => ∃ Bx, w.heap.size < Bx ∧ TRow W Bx x ∧ a' = { tmps := #[.slice none 0 0, .func (.func gf) #[] lb, .pointer (some ⟨w.heap.size, 0, none⟩), undef, .slice none 0 0, .pointer (some ⟨Bx, 0, none⟩), .func (.func gf) #[] lb, .agg #[.string x.x, .int .i64 x.v.k, .int .i64 x.v.n, .string x.v.s], undef, undef, undef, undef, undef], defers := [] })
    ?hAx ?assign ?body ?done ?stop
  case hAx =>
    rintro x a' u X Y row ⟨Bx, hB, hT, ha⟩ hg hr
    refine ⟨Bx, hB, (hg.block Bx (Array.getElem?_eq_some_iff.1 hT).1 (fun e => ?_)).trans hT, ha⟩
    obtain ⟨_, o, ho, hc⟩ := hr Bx e.symm
    rw [show X.heap[Bx]? = _ from hT] at ho
    cases ho; cases hc
  case assign =>
    rintro l pre x W K ⟨⟨v, hv, hrow, -⟩, hB⟩ hK
    simp only [encT]
    gi_wp2
    exact hK _ _ ((KeepsOthers.alloc _ _).from _) ((Below.refl _ W).alloc hB.size _) ⟨⟨v, hv.alloc _, hrow.alloc _, trivial⟩, hB.alloc hB.size _⟩ ⟨W.heap.size, hv.lt, Go.heap_alloc_new W _, rfl⟩
  case body =>
    rintro l pre x a' W hl ⟨r, hr⟩ ⟨⟨v, hv, hrow, -⟩, hB⟩ ⟨Bx, hBx, hT, rfl⟩ hlt
    have hc := hv.cell
    have hf := hv.frozen
    have t0 := cell_of_row _ _ 0 _ _ _ hT
    have t1 := cell_of_row _ _ 1 _ _ _ hT
    have t2 := cell_of_row _ _ 2 _ _ _ hT
    have t3 := cell_of_row _ _ 3 _ _ _ hT
    simp only [List.getElem?_toArray, List.getElem?_cons_zero, List.getElem?_cons_succ] at t0 t1 t2 t3
    have hone : ∀ u ∈ GTold.cells x, u.oneCell' = true := by intro u hu; simp [GTold.cells] at hu; rcases hu with rfl | rfl | rfl | rfl <;> rfl
    gi_wp2_with (gi_at_builtin; refine wpListIn_append_own _ rfl _ _ 47 rfl w.heap.size 78 i0 _ 4 48 Try.underlying47 hi hz0 hz1 hz2 rfl (by decide) _ _ _ rfl (hrow.alloc _) ⟨W.heap.size, 0, none⟩ 1 1 (GTold.cells x) rfl rfl (cells_new _ _ _) hone (by simp [maxLen]; omega) (by omega) (by have := hB.size; simp; omega) ?_; intro v' w1 hown' hgrow _; obtain ⟨A', c', rfl⟩ := own_form hown'; obtain ⟨hv1, hv2, hr2, hk2, hb2⟩ := hv.appended (by decide) hrow hB.size (Nat.le_refl _) hown' hgrow; have hc1 := hv1.cell; have hf1 := hv1.frozen)
    exact ⟨hk2.from _, hb2, ⟨_, hv2, by simpa [List.flatMap_append] using hr2, trivial⟩, hB.trans hb2⟩
  case done =>
    rintro D ys W hD hS ⟨⟨v, hv, hrow, -⟩, hB⟩ hK
    have hc := hv.cell
    gi_wp2
    refine ⟨by simp, .inl ⟨_, _, rfl, run_takeDeferred hK, ?_⟩⟩
    exact ⟨_, results_tmp rfl _ _ _, v, ys, rfl, hS, ownsRow_putObj hrow _ hK rfl, hB.trans (belowK_b (w := w) (Nat.le_refl _) W D _ _ (by simp at hD; omega) hK rfl rfl)⟩
  case stop =>
    rintro D c pre W _ _ h _
    exact h.elim

set_option maxHeartbeats 1000000 in
theorem collect_in (F : Fence) (n : Nat) (h63 : F.fn 63) (h68 : F.fn 68) (hro : F.round = none) (hn : 4 ≤ n) (gf : Nat) (lb : Array Value) (hFg : F.fn gf) (eg : ∀ args w, (callFunc gf args).run Try.prog w = .ok (.enter gf args) w)
    (S Sp : List GTold → Prop) (N : Nat) (hN : N ≤ 1000) (w : World) (hseq : SeqStopsK F (n - 1 - 1) Try.prog gf lb encT (Below w.heap.size) S Sp N w) :
    CallsIn F n Try.prog 63 #[.func (.func gf) #[] lb] w fun e W' => ∃ v xs, e = .returned v ∧ S xs ∧ W'.ownsRow w.heap.size 78 4 v xs.length (xs.flatMap GTold.cells) ∧ Below w.heap.size w W' := by
  have h1 : 1 ≤ n := by omega
  refine callsIn_of_wp Try.func63 rfl h63 ?_ hro
  simp only [Try.ntmps63, List.size_toArray, List.length_cons, List.length_nil, Nat.reduceAdd, Nat.reduceSub, Array.replicate_succ, Array.replicate_zero, List.push_toArray, List.append_toArray, List.nil_append, List.cons_append]
  gi_wp2_with (gi_at_call 68; refine (appendSeq_in F (n - 1) h68 hro (by omega) gf lb hFg eg S Sp N hN _ hseq).mono ?_; rintro e w' ⟨v, xs, rfl, hS, hrow, hb⟩)
  go_ret
  exact ⟨v, xs, rfl, hS, hrow, hb⟩
end Go.Proofs.Ytggbfpjpkfhaeaa
