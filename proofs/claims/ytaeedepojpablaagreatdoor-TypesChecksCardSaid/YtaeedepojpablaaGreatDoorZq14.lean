/- My own texts PaH, as far as this claim needs them. -/
import Derived.Test.YtaeedepojpablaaGreatDoorZq13
set_option linter.unusedVariables false
set_option linter.unusedSimpArgs false
set_option maxRecDepth 1000000
set_option maxHeartbeats 16000000
namespace Go.Proofs.YtaeedepojpablaaGreatDoor
open Go.RowKit
structure HdJ (B g : Nat) (A : Option Addr) (c : Nat) (T : List GTok) (E : Nat) (w : World) (xb b0 b1 N0 : Nat) (rel : ByteArray) (pos : Int) (i : Nat) (x : PS × PH) (W : World) : Prop where
 rd : Rd B g A c T E x.1 W
 out : Out [g, xb] w W
 len : x.2.args.length = i
 row : ∃ A' c', W.heap[xb]? = some (.cells #[.string rel, .slice A' i c', .int .i64 x.2.agg, .int .i64 x.2.col, .slice none 0 0, .int .i64 pos] 56 (0, 0)) ∧ W.ownsRow N0 75 4 (.slice A' i c') i (x.2.args.flatMap GTold.cells)
 r0 : W.heap[b0]? = some (.cells #[.pointer (some ⟨g, 0, none⟩)] 93 (0, 0))
 r1 : W.heap[b1]? = some (.cells #[.pointer (some ⟨xb, 0, none⟩)] 185 (0, 0))
 n0 : N0 ≤ W.heap.size
 ok : ∀ t ∈ x.2.args, toldOk t
 agg : 0 ≤ x.2.agg ∧ x.2.agg ≤ 4
 col : 0 ≤ x.2.col ∧ x.2.col ≤ 6
structure HdB (B g : Nat) (w : World) (xb b0 b1 N0 : Nat) : Prop where
 xg : xb ≠ g
 g0 : b0 ≠ g
 g1 : b1 ≠ g
 x0 : xb ≠ b0
 x1 : xb ≠ b1
 xN : xb < N0
 N0' : b0 < N0
 N1 : b1 < N0
 gN : g < N0
 Bx : B ≤ xb
 BN : B ≤ N0
section
variable {B g : Nat} {A : Option Addr} {c : Nat} {T : List GTok} {E : Nat} {w : World} {xb b0 b1 N0 : Nat} {rel : ByteArray} {pos : Int}
theorem HdJ.jok (hb : HdB B g w xb b0 b1 N0) : JOk B g A c T E (HdJ B g A c T E w xb b0 b1 N0 rel pos) where
 rd i x W h := h.rd
 go i x s' W W' h hr' ho := by
  obtain ⟨A', c', h1, h2⟩ := h.row; refine ⟨hr', h.out.trans ho (fun b hb _ => by simp at hb; simp [hb]), h.len, ⟨A', c', (ho.block _ (glt h1) (by simpa using hb.xg)).trans h1, own_out' h2 ho (fun b hb' hm => by have := (own_blk h2 hb').1; have := hb.gN; simp at hm; omega)⟩, (ho.block _ (glt h.r0) (by simpa using hb.g0)).trans h.r0, (ho.block _ (glt h.r1) (by simpa using hb.g1)).trans h.r1, Nat.le_trans h.n0 ho.size, h.ok, h.agg, h.col⟩
theorem HdJ.on (hb : HdB B g w xb b0 b1 N0) {i : Nat} {x : PS × PH} {W W' : World} (h : HdJ B g A c T E w xb b0 b1 N0 rel pos i x W) (hB : Below W.heap.size W W') : HdJ B g A c T E w xb b0 b1 N0 rel pos i x W' :=
 (HdJ.jok hb).go i x x.1 W W' h (h.rd.on hB) (Out.of_below hB [g])
theorem HdJ.aggSet (hb : HdB B g w xb b0 b1 N0) {i : Nat} {s : PS} {args : List GTold} {ag co ag2 co2 : Int} {W : World} (h : HdJ B g A c T E w xb b0 b1 N0 rel pos i (s, ⟨args, ag, co⟩) W) (hag : 0 ≤ ag2 ∧ ag2 ≤ 4) (hco : 0 ≤ co2 ∧ co2 ≤ 6) :
 HdJ B g A c T E w xb b0 b1 N0 rel pos i (s, ⟨args, ag2, co2⟩) ((W.setCell ⟨xb, 2, none⟩ (.int .i64 ag2)).setCell ⟨xb, 3, none⟩ (.int .i64 co2)) := by
 have hBx := hb.Bx; have hxN := hb.xN; have ho : Out [xb] W ((W.setCell ⟨xb, 2, none⟩ (.int .i64 ag2)).setCell ⟨xb, 3, none⟩ (.int .i64 co2)) := out_next (set_out _ _ _ _) (set_out _ _ _ _); obtain ⟨A', c', h1, h2⟩ := h.row; dsimp only at h1 h2
 refine ⟨h.rd.out ho (fun b hb _ => by simp at hb; omega), h.out.trans ho (fun b hb hl => by simp at hb; simp [hb]), h.len, ⟨A', c', by simp [World.setCell, Array.getElem?_modify, h1], own_out' h2 ho (fun b hb' hm => by have := (own_blk h2 hb').1; simp at hm; omega)⟩,
  (ho.block _ (glt h.r0) (by simpa using Ne.symm hb.x0)).trans h.r0, (ho.block _ (glt h.r1) (by simpa using Ne.symm hb.x1)).trans h.r1, Nat.le_trans h.n0 ho.size, h.ok, hag, hco⟩
theorem HdJ.push (hb : HdB B g w xb b0 b1 N0) {i : Nat} {args : List GTold} {tv : GTold} {ag co : Int} {s2 : PS} {w2 V : World} {A' A2 : Option Addr} {c' c2 : Nat} (ho0 : Out [g, xb] w w2) (hl : args.length = i) (hok : ∀ t ∈ args, toldOk t) (ht : toldOk tv) (hn : N0 ≤ w2.heap.size) (hag : 0 ≤ ag ∧ ag ≤ 4) (hco : 0 ≤ co ∧ co ≤ 6)
 (hown0 : w2.ownsRow N0 75 4 (.slice A' i c') i (args.flatMap GTold.cells))
 (g1 : V.heap[xb]? = some (.cells #[.string rel, .slice A' i c', .int .i64 ag, .int .i64 co, .slice none 0 0, .int .i64 pos] 56 (0, 0))) (g2 : V.heap[b0]? = some (.cells #[.pointer (some ⟨g, 0, none⟩)] 93 (0, 0))) (g3 : V.heap[b1]? = some (.cells #[.pointer (some ⟨xb, 0, none⟩)] 185 (0, 0)))
 (g4 : Out (g :: (Value.slice A' i c').ownBlock.toList) w2 V) (hwN : ∀ b, N0 ≤ b → w.heap.size ≤ b) (hown : V.ownsRow N0 75 4 (.slice A2 (i + 1) c2) (i + 1) (args.flatMap GTold.cells ++ tv.cells)) (hr : Rd B g A c T E s2 V) :
 HdJ B g A c T E w xb b0 b1 N0 rel pos (i + 1) (s2, ⟨args ++ [tv], ag, co⟩) (V.setCell ⟨xb, 1, none⟩ (.slice A2 (i + 1) c2)) := by
 have hoS := set_out V xb 1 (.slice A2 (i + 1) c2); have hBx := hb.Bx; have hxN := hb.xN; refine ⟨hr.out hoS (fun b hb _ => by simp at hb; omega), ?_, by simp [hl], ⟨A2, c2, by simp [World.setCell, Array.getElem?_modify, g1], ?_⟩, (World.heap_setCells_other' (Ne.symm hb.x0)).trans g2, (World.heap_setCells_other' (Ne.symm hb.x1)).trans g3, ?_, ?_, hag, hco⟩
 ·have h3 : Out [g, xb] w V := ho0.trans g4 (fun b hb hbl => by
   rcases List.mem_cons.1 hb with rfl | hb
   ·simp
   ·have h1 := (own_blk hown0 (b := b) (by simpa using hb)).1; have h2 := hwN b h1
    omega)
  exact h3.trans hoS (fun b hb hbl => by simp at hb; simp [hb])
 ·rw [List.flatMap_append]; simp only [List.flatMap_cons, List.flatMap_nil, List.append_nil]; exact own_out' hown hoS (fun b hb hm => by have := (own_blk hown hb).1; simp at hm; omega)
 ·rw [World.size_setCell']; exact Nat.le_trans hn g4.size
 ·intro t ht'; rcases List.mem_append.1 ht' with ht' | ht'
  ·exact hok t ht'
  ·simp only [List.mem_singleton] at ht'; rw [ht']; exact ht
end
def hd3F (B g : Nat) (A : Option Addr) (c : Nat) (T : List GTok) (E : Nat) (xb N0 i : Nat) (A' : Option Addr) (c' : Nat) (xs : List Value) (s2 : PS) (tv : GTold) (w0 : World) (k : Nat) (v : Value) (V : World) : Prop := match k with
 | 0 => v = .pointer (some ⟨xb, 0, none⟩)
 | 1 => v = .pointer (some ⟨xb, 0, none⟩)
 | 2 => v = .pointer (some ⟨xb, 0, none⟩)
 | 3 => v = .pointer (some ⟨xb, 0, none⟩)
 | 4 => v = .pointer (some ⟨xb, 1, none⟩)
 | 5 => v = .slice A' i c'
 | 6 => v = .pointer (some ⟨g, 0, none⟩)
 | 7 => v = toldV tv ∧ Rd B g A c T E s2 V
 | 8 => ∃ b, v = .slice (some ⟨b, 0, none⟩) 1 1 ∧ V.heap[b]? = some (.cells tv.cells.toArray 75 (0, 0)) ∧ w0.heap.size ≤ b
 | 9 => ∃ A2 c2, v = .slice A2 (i + 1) c2 ∧ V.ownsRow N0 75 4 (.slice A2 (i + 1) c2) (i + 1) (xs ++ tv.cells) ∧ w0.heap.size < V.heap.size ∧ Rd B g A c T E s2 V
 | 10 => v = .pointer (some ⟨xb, 0, none⟩)
 | 11 => v = .pointer (some ⟨xb, 0, none⟩)
 | 12 => v = .pointer (some ⟨xb, 1, none⟩)
 | _ => True
def hd9F (B g : Nat) (A : Option Addr) (c : Nat) (T : List GTok) (E : Nat) (xb N0 i : Nat) (A' : Option Addr) (c' : Nat) (xs : List Value) (s2 : PS) (tv : GTold) (w0 : World) (k : Nat) (v : Value) (V : World) : Prop := match k with
 | 0 => v = .pointer (some ⟨xb, 0, none⟩)
 | 1 => v = .pointer (some ⟨xb, 0, none⟩)
 | 2 => v = .pointer (some ⟨xb, 0, none⟩)
 | 3 => v = .pointer (some ⟨xb, 0, none⟩)
 | 4 => v = .pointer (some ⟨xb, 1, none⟩)
 | 5 => v = .slice A' i c'
 | 6 => v = .pointer (some ⟨g, 0, none⟩)
 | 7 => v = .string tv.x ∧ Rd B g A c T E s2 V
 | 8 => v = toldV tv
 | 9 => ∃ b, v = .slice (some ⟨b, 0, none⟩) 1 1 ∧ V.heap[b]? = some (.cells tv.cells.toArray 75 (0, 0)) ∧ w0.heap.size ≤ b
 | 10 => ∃ A2 c2, v = .slice A2 (i + 1) c2 ∧ V.ownsRow N0 75 4 (.slice A2 (i + 1) c2) (i + 1) (xs ++ tv.cells) ∧ w0.heap.size < V.heap.size ∧ Rd B g A c T E s2 V
 | 11 => v = .pointer (some ⟨xb, 0, none⟩)
 | 12 => v = .pointer (some ⟨xb, 0, none⟩)
 | 13 => v = .pointer (some ⟨xb, 1, none⟩)
 | _ => True
theorem aggN_le2 (t : List UInt8) : aggN t ≤ 4 := by
 unfold aggN; repeat' split
 all_goals decide
section
variable {B g : Nat} {A : Option Addr} {c : Nat} {T : List GTok} {E : Nat} {w : World} {xb b0 b1 N0 : Nat} {rel : ByteArray} {pos : Int}
theorem head1_any (hb : HdB B g w xb b0 b1 N0) (hwN : ∀ b, N0 ≤ b → w.heap.size ≤ b) (i : Nat) (x : PS × PH) (W : World) (hi : i < 6) (he : x.1.err = 0) (h : HdJ B g A c T E w xb b0 b1 N0 rel pos i x W) :
 Calls Tryz.prog 131 #[.int .i64 i, .pointer (some ⟨b0, 0, none⟩), .pointer (some ⟨b1, 0, none⟩)] W (fun e W' => e = .returned (.tuple #[]) ∧ HdJ B g A c T E w xb b0 b1 N0 rel pos (i + 1) (headR T E i x) W') := by
 have mixed : Tryz.prog.follows .mixedOrders = true := by kernel_rfl
 obtain ⟨s, args, ag, co⟩ := x; obtain ⟨q, Hq⟩ : ∃ q, Hid (q = peekP T E s 0) := ⟨_, rfl⟩
 obtain ⟨ka, Hka⟩ : ∃ ka : Int, Hid (ka = (aggN q.t : Int) - 1) := ⟨_, rfl⟩
 have HH := hZ9 h; have Hb := hZ9 hb; have HON := hZ9 (fun (W' : World) (hB : Below W.heap.size W W') => HdJ.on hb h hB); have HPk := hZ9 (rpeek_any h.rd 0 (by omega)); rw [← Hq.out, tokC_eq] at HPk; have HIx := hZ9 (fun (V : World) (hR : Rd B g A c T E s V) => aggs_any hR q.t); rw [← Hka.out] at HIx; have HTm := hZ9 (fun (V : World) (hR : Rd B g A c T E s V) => rterm_any hR); obtain ⟨P, HP⟩ : ∃ P : Ending → World → Prop, Hid (P = fun e W' => e = .returned (.tuple #[]) ∧ HdJ B g A c T E w xb b0 b1 N0 rel pos (i + 1) (headR T E i (s, ⟨args, ag, co⟩)) W') := ⟨_, rfl⟩
 rw [← HP.out]; have k0 := (cell_of_row _ _ 0 _ _ _ h.r0).trans rfl; have hxg := hb.xg; have h0g := hb.g0; have h1g := hb.g1; have hN1 := hb.xN; have hN2 := hb.N0'; have hN3 := hb.N1; have hgN := hb.gN; have hBN := hb.BN; have HwN := hZ9 hwN; clear h hb hwN; by_cases hcase : q.k = 1 ∧ aggN q.t ≠ 0
 rotate_left
 ·have HX : Hid (∀ V, HdJ B g A c T E w xb b0 b1 N0 rel pos (i + 1) ((termP T E s).1, ⟨args ++ [(termP T E s).2], ag, co⟩) V → P (.returned (.tuple #[])) V) := fun V hj => by
   rw [HP.out]
   have e1 : headR T E i (s, ⟨args, ag, co⟩) = ((termP T E s).1, ⟨args ++ [(termP T E s).2], ag, co⟩) := by
    unfold headR; dsimp only; rw [if_neg (by rw [← Hq.out]; exact hcase)]
   show _ ∧ _; rw [e1]; exact ⟨rfl, hj⟩
  have HTo := hZ9 (fun (V : World) (hR : Rd B g A c T E s V) => term_ok hR s); generalize (termP T E s).1 = s2 at *; generalize (termP T E s).2 = tv at *
  have hcase2 : q.k ≠ 1 ∨ (q.k = 1 ∧ ka < 0) := by
   by_cases hk : q.k = 1
   ·refine .inr ⟨hk, ?_⟩; have h0 : aggN q.t = 0 := Classical.byContradiction fun hn => hcase ⟨hk, hn⟩
    rw [Hka.out, h0]; decide
   ·exact .inl hk
  obtain ⟨qk, qt, qa⟩ := q; dsimp only at hcase2 HIx HPk; clear hcase HP Hka Hq; rcases hcase2 with hk | ⟨rfl, hka⟩
  ·have e1 : (qk != 1) = true := by simp [hk]
   clear hk; go_enter Tryz.func131, Tryz.ntmps131
   go_wp2_with fail
   refine HPk.out.mono ?_; rintro e w1 ⟨rfl, hb1⟩; have HJ1 := hZ9 (HON.out _ (belowA hb1 (.cells #[.int .i64 qk, .string (bytes qt), .int .i64 qa] 178))); have hrt : (w1.alloc (.cells #[.int .i64 qk, .string (bytes qt), .int .i64 qa] 178)).heap[w1.heap.size]? = some (.cells #[.int .i64 qk, .string (bytes qt), .int .i64 qa] 178 (0, 0)) := heapNew rfl; have Hrt := hZ9 hrt; clear hb1 HPk HH HON k0 hrt; go_wp2_with fail
   go_region_with ((go_at_call 132
                    refine (HIx.out _ (HJ1.out.rd.on (Below.refl _ _).drew)).mono ?_
                    rintro e w2 ⟨rfl, hb3⟩))
   have hb4 := (Below.refl (w1.alloc (.cells #[.int .i64 qk, .string (bytes qt), .int .i64 qa] 178)).heap.size (w1.alloc (.cells #[.int .i64 qk, .string (bytes qt), .int .i64 qa] 178))).drew.trans hb3; have HJ2 := hZ9 (HJ1.out.on Hb.out hb4); have hrt2 := (hb4.block _ (glt Hrt.out)).trans Hrt.out; obtain ⟨f0, f1, f2⟩ := facts3 hrt2; clear hb3 hb4 HJ1 Hrt HIx hrt2; go_wp2_with fail
   clear f0 f1 f2; obtain ⟨A', c', hrow, hown⟩ := HJ2.out.row; have hr0 := HJ2.out.r0; have hr1 := HJ2.out.r1; dsimp only at hrow hown; have hcs : (#[Value.string rel, .slice A' i c', .int .i64 ag, .int .i64 co, .slice none 0 0, .int .i64 pos] : Array Value)[1]? = some (.slice A' i c') := rfl; have hcs1 : 1 < (#[Value.string rel, .slice A' i c', .int .i64 ag, .int .i64 co, .slice none 0 0, .int .i64 pos] : Array Value).size := by simp
   have hjn : ∀ (V : World) (A2 : Option Addr) (c2 : Nat), V.heap[xb]? = some (.cells #[.string rel, .slice A' i c', .int .i64 ag, .int .i64 co, .slice none 0 0, .int .i64 pos] 56 (0, 0)) → V.heap[b0]? = some (.cells #[.pointer (some ⟨g, 0, none⟩)] 93 (0, 0)) → V.heap[b1]? = some (.cells #[.pointer (some ⟨xb, 0, none⟩)] 185 (0, 0)) → Out (g :: (Value.slice A' i c').ownBlock.toList) w2 V →
    V.ownsRow N0 75 4 (.slice A2 (i + 1) c2) (i + 1) (args.flatMap GTold.cells ++ tv.cells) → Rd B g A c T E s2 V → HdJ B g A c T E w xb b0 b1 N0 rel pos (i + 1) (s2, ⟨args ++ [tv], ag, co⟩) (V.setCell ⟨xb, 1, none⟩ (.slice A2 (i + 1) c2)) := fun V A2 c2 g1 g2 g3 g4 e2 e4 => HdJ.push (s2 := s2) (V := V) (A2 := A2) (c2 := c2) Hb.out HJ2.out.out HJ2.out.len HJ2.out.ok (HTo.out _ HJ2.out.rd) HJ2.out.n0 HJ2.out.agg HJ2.out.col hown g1 g2 g3 g4 HwN.out e2 e4
   have hNw := HJ2.out.n0
   have hnm : ∀ b, b < N0 → b ∉ (Value.slice A' i c').ownBlock.toList := fun b hb hm => by
    have := (own_blk hown (b := b) (by simpa using hm)).1; omega
   have hSn : ∀ b ∈ (Value.slice A' i c').ownBlock.toList, N0 ≤ b := fun b hb => (own_blk hown (b := b) (by simpa using hb)).1
   have hbl : ∀ b, w2.heap.size ≤ b → b ∉ (Value.slice A' i c').ownBlock.toList := fun b hb hm => by
    have := (own_blk hown (b := b) (by simpa using hm)).2; omega
   have HC := hZ9 (fun (V : World) (hB : Below w2.heap.size w2 V) => HTm.out V (HJ2.out.rd.on hB)); generalize hxs : args.flatMap GTold.cells = xs at hown hjn; generalize hcq : (#[Value.string rel, .slice A' i c', .int .i64 ag, .int .i64 co, .slice none 0 0, .int .i64 pos] : Array Value) = cs at hrow hcs hcs1 hjn; clear hcq hxs HTm HTo e1
   refine drawn2 mixed 13 72 [19, 20, 21, 22, 23, 24, 25, 26, 27, 28, 29, 30, 31] (fun j V => (V.heap[xb]? = some (.cells cs 56 (0, 0)) ∧ V.heap[b0]? = some (.cells #[.pointer (some ⟨g, 0, none⟩)] 93 (0, 0)) ∧ V.heap[b1]? = some (.cells #[.pointer (some ⟨xb, 0, none⟩)] 185 (0, 0)) ∧ Out (g :: (Value.slice A' i c').ownBlock.toList) w2 V) ∧ (j = 9 → V.ownsRow N0 75 4 (.slice A' i c') i xs) ∧ (j = 7 → Below w2.heap.size w2 V ∧ V.heap.size = w2.heap.size)) (hd3F B g A c T E xb N0 i A' c' xs s2 tv w2)
    (fun j V V' => if j = 9 then Out (Value.slice A' i c').ownBlock.toList V V' else if j = 8 then Below V.heap.size V V' else if j = 7 then Out [g] V V' ∧ V.heap.size = w2.heap.size else V' = V) rfl (by kernel_rfl) (by kernel_rfl) rfl (fun j _ => ⟨⟨hrow, hr0, hr1, Out.of_below (below_drewN w2 1 _) _⟩, fun _ => own_below hown (below_drewN w2 1 _), fun _ => ⟨below_drewN w2 1 _, rfl⟩⟩) ?_ ?_ ?_ ?_
   ·intro k j v V V' hij hil hj hF hRr; by_cases ha : j = 9
    ·subst ha; simp only [if_true] at hRr; match k, hF with
     | 0, h => exact h
     | 1, h => exact h
     | 2, h => exact h
     | 3, h => exact h
     | 4, h => exact h
     | 5, h => exact h
     | 6, h => exact h
     | 7, ⟨h1, h2⟩ => exact ⟨h1, h2.out hRr (fun b hb _ => by have := hSn b hb; omega)⟩
     | 8, ⟨b, h1, h2, h3⟩ => exact ⟨b, h1, (hRr.block _ (glt h2) (hbl b h3)).trans h2, h3⟩
     | 9, _ => exact absurd rfl hij
     | 10, h => exact h
     | 11, h => exact h
     | 12, h => exact h
     | _ + 13, _ => exact trivial
    rw [if_neg ha] at hRr; by_cases hb : j = 8
    ·subst hb; simp only [if_true] at hRr; match k, hF with
     | 0, h => exact h
     | 1, h => exact h
     | 2, h => exact h
     | 3, h => exact h
     | 4, h => exact h
     | 5, h => exact h
     | 6, h => exact h
     | 7, ⟨h1, h2⟩ => exact ⟨h1, h2.on hRr⟩
     | 8, _ => exact absurd rfl hij
     | 9, ⟨A2, c2, h1, h2, h3, h4⟩ => exact ⟨A2, c2, h1, own_below h2 hRr, Nat.lt_of_lt_of_le h3 hRr.size, h4.on hRr⟩
     | 10, h => exact h
     | 11, h => exact h
     | 12, h => exact h
     | _ + 13, _ => exact trivial
    rw [if_neg hb] at hRr; by_cases hc : j = 7
    ·subst hc; simp only [if_true] at hRr; obtain ⟨-, hsz⟩ := hRr; match k, hF with
     | 0, h => exact h
     | 1, h => exact h
     | 2, h => exact h
     | 3, h => exact h
     | 4, h => exact h
     | 5, h => exact h
     | 6, h => exact h
     | 7, _ => exact absurd rfl hij
     | 8, ⟨b, h1, h2, h3⟩ => have := (glt h2); omega
     | 9, ⟨A2, c2, h1, h2, h3, h4⟩ => omega
     | 10, h => exact h
     | 11, h => exact h
     | 12, h => exact h
     | _ + 13, _ => exact trivial
    rw [if_neg hc] at hRr; subst hRr; exact hF
   ·intro k j V V' hij hil hj hanc hG hRr; obtain ⟨⟨g1, g2, g3, g4⟩, g5, g6⟩ := hG; by_cases ha : k = 9
    ·subst ha; simp only [if_true] at hRr; refine ⟨⟨(hRr.block _ (glt g1) (hnm _ hN1)).trans g1, (hRr.block _ (glt g2) (hnm _ hN2)).trans g2, (hRr.block _ (glt g3) (hnm _ hN3)).trans g3, g4.trans hRr (fun _ h _ => List.mem_cons_of_mem _ h)⟩, fun e => absurd e (Ne.symm hij), fun e => absurd (by subst e; exact of_decide_eq_true (by kernel_rfl)) hanc⟩
    rw [if_neg ha] at hRr; by_cases hb : k = 8
    ·subst hb; simp only [if_true] at hRr; refine ⟨⟨(hRr.block _ (glt g1)).trans g1, (hRr.block _ (glt g2)).trans g2, (hRr.block _ (glt g3)).trans g3, g4.trans (Out.of_below hRr []) (fun _ h _ => by cases h)⟩, fun e => own_below (g5 e) hRr, fun e => absurd (by subst e; exact of_decide_eq_true (by kernel_rfl)) hanc⟩
    rw [if_neg hb] at hRr; by_cases hc : k = 7
    ·subst hc; simp only [if_true] at hRr; obtain ⟨ho, -⟩ := hRr; refine ⟨⟨(ho.block _ (glt g1) (by simpa using hxg)).trans g1, (ho.block _ (glt g2) (by simpa using h0g)).trans g2, (ho.block _ (glt g3) (by simpa using h1g)).trans g3, g4.trans ho (fun b h _ => by simp at h; simp [h])⟩, fun e => own_out' (g5 e) ho (fun b hb hb' => hnm g hgN (by simp at hb'; rw [← hb']; simpa using hb)), fun e => absurd e (Ne.symm hij)⟩
    rw [if_neg hc] at hRr; subst hRr; exact ⟨⟨g1, g2, g3, g4⟩, g5, g6⟩
   ·intro k o a' V hil ho hd' hold hGi hGL hw; have t1 : a'.tmps[1]? = some (.pointer (some ⟨b0, 0, none⟩)) := hold 1 (by kernel_rfl); have t2 : a'.tmps[2]? = some (.pointer (some ⟨b1, 0, none⟩)) := hold 2 (by kernel_rfl); obtain ⟨⟨g1, g2, g3, g4⟩, g5, g6⟩ := hGi; clear hold; match k, hil, ho with
    | 0, _, ho =>
      injection ho with ho; subst ho
      exact op_val _ (by simp [execOp, Act.eval, t2, run_loadP Tryz.underlying185 ((cell_of_row _ _ 0 _ _ _ g3).trans rfl)]) ⟨_, rfl, by simp, rfl⟩
    | 1, _, ho =>
      injection ho with ho; subst ho
      exact op_val _ (by simp [execOp, Act.eval, t2, run_loadP Tryz.underlying185 ((cell_of_row _ _ 0 _ _ _ g3).trans rfl)]) ⟨_, rfl, by simp, rfl⟩
    | 2, _, ho =>
      injection ho with ho; subst ho
      obtain ⟨v0, v0h, v0e⟩ := hw 1 20 (by kernel_rfl); obtain rfl : v0 = _ := v0e; exact op_val _ (by simp [execOp, Act.eval, v0h, go_sem]) ⟨_, rfl, by simp, rfl⟩
    | 3, _, ho =>
      injection ho with ho; subst ho
      obtain ⟨v0, v0h, v0e⟩ := hw 2 21 (by kernel_rfl); obtain rfl : v0 = _ := v0e; exact op_val _ (by simp [execOp, Act.eval, v0h, go_sem]) ⟨_, rfl, by simp, rfl⟩
    | 4, _, ho =>
      injection ho with ho; subst ho
      obtain ⟨v0, v0h, v0e⟩ := hw 3 22 (by kernel_rfl); obtain rfl : v0 = _ := v0e; exact op_val _ (by simp [execOp, Act.eval, v0h, go_sem]) ⟨_, rfl, by simp, rfl⟩
    | 5, _, ho =>
      injection ho with ho; subst ho
      obtain ⟨v0, v0h, v0e⟩ := hw 4 23 (by kernel_rfl); obtain rfl : v0 = _ := v0e; exact op_val _ (by simp [execOp, Act.eval, v0h, run_load1 Tryz.underlying51 ((cell_of_row _ _ 1 _ _ _ g1).trans hcs)]) ⟨_, rfl, by simp, rfl⟩
    | 6, _, ho =>
      injection ho with ho; subst ho
      exact op_val _ (by simp [execOp, Act.eval, t1, run_loadP Tryz.underlying93 ((cell_of_row _ _ 0 _ _ _ g2).trans rfl)]) ⟨_, rfl, by simp, rfl⟩
    | 7, _, ho =>
      injection ho with ho; subst ho
      obtain ⟨v0, v0h, v0e⟩ := hw 6 25 (by kernel_rfl); obtain rfl : v0 = _ := v0e; obtain ⟨q1, q2⟩ := g6 rfl; refine op_call 133 _ rfl rfl #[.pointer (some ⟨g, 0, none⟩)] (by simp [Act.eval, v0h]) _ Tryz.func133 (by kernel_rfl) (by kernel_rfl) ((HC.out V q1).mono ?_); rintro r w' ⟨rfl, q3, q4⟩; exact ⟨_, rfl, _, rfl, by simp [q4, q2], rfl, q3⟩
    | 8, _, ho =>
      injection ho with ho; subst ho
      obtain ⟨v0, v0h, v0e, v0r⟩ := hw 7 26 (by kernel_rfl); obtain rfl : v0 = _ := v0e; refine op_bslice 51 75 1 _ rfl 4 [toldV tv] Tryz.underlying51 (by kernel_rfl) (by decide) rfl (by decide) (by decide) (by simp [Act.eval, v0h]) (by simp [Value.cells]) ?_; simp only [List.flatMap_cons, List.flatMap_nil, List.append_nil, Value.cells]; exact ⟨_, rfl, by rw [if_neg (by decide), if_pos trivial]; exact belowA (Below.refl _ _) _, _, rfl, heapNew rfl, g4.size⟩
    | 9, _, ho =>
      injection ho with ho; subst ho
      obtain ⟨v0, v0h, v0e⟩ := hw 5 24 (by kernel_rfl); obtain rfl : v0 = _ := v0e; obtain ⟨v1, v1h, bb, v1e, v1b, v1z⟩ := hw 8 27 (by kernel_rfl); obtain rfl : v1 = _ := v1e; obtain ⟨vc, vch, vce, vcr⟩ := hw 7 26 (by kernel_rfl); obtain rfl : vc = _ := vce; obtain ⟨A2, c2, w', k1, k2, k3, k4⟩ := push_more (P := Tryz.prog) (ty := 51) V Tryz.underlying51 term_info rfl (by decide) (g5 rfl) bb (GTold.cells tv) rfl v1b (by simp [GTold.cells, Value.oneCell']) (by simp [maxLen]; omega) (by omega) (Nat.le_trans hNw g4.size); have hbl2 := (glt v1b)
      exact op_append _ _ _ rfl _ _ (eval_tmp v0h) (eval_tmp v1h) k1 ⟨_, rfl, by simpa using k3, A2, c2, rfl, k2, Nat.lt_of_lt_of_le (by omega) k3.size, vcr.out k3 (fun b hb _ => by have := hSn b hb; omega)⟩
    | 10, _, ho =>
      injection ho with ho; subst ho
      obtain ⟨v0, v0h, v0e⟩ := hw 0 19 (by kernel_rfl); obtain rfl : v0 = _ := v0e; exact op_val _ (by simp [execOp, Act.eval, v0h, go_sem]) ⟨_, rfl, by simp, rfl⟩
    | 11, _, ho =>
      injection ho with ho; subst ho
      obtain ⟨v0, v0h, v0e⟩ := hw 10 29 (by kernel_rfl); obtain rfl : v0 = _ := v0e; exact op_val _ (by simp [execOp, Act.eval, v0h, go_sem]) ⟨_, rfl, by simp, rfl⟩
    | 12, _, ho =>
      injection ho with ho; subst ho
      obtain ⟨v0, v0h, v0e⟩ := hw 11 30 (by kernel_rfl); obtain rfl : v0 = _ := v0e; exact op_val _ (by simp [execOp, Act.eval, v0h, go_sem]) ⟨_, rfl, by simp, rfl⟩
    | n + 13, hil, _ => omega
   ·intro o u V ho hGL hw; have e0 := hw 12 31 (by decide) (by kernel_rfl); obtain ⟨A2, c2, e1, e2, -, e4⟩ := hw 9 28 (by decide) (by kernel_rfl); replace e0 : u 31 = .pointer (some ⟨xb, 1, none⟩) := e0; obtain ⟨⟨g1, g2, g3, g4⟩, -, -⟩ := hGL; clear hw; injection ho with ho; subst ho
    simp only [List.foldl_cons, List.foldl_nil, Act.put, List.setIfInBounds_toArray, List.set_cons_zero, List.set_cons_succ]; rw [e0, e1]; refine op_skip (w' := V.setCell ⟨xb, 1, none⟩ (.slice A2 (i + 1) c2)) (by simp [execOp, Act.eval, run_store1 (A := A2) (n := i + 1) (c := c2) (P := Tryz.prog) (ty := 51) (by kernel_rfl) g1 hcs1]) ?_; clear e0 e1; simp only [Act.put]; have HJ2 := hZ9 (hjn V A2 c2 g1 g2 g3 g4 e2 e4); clear g1 g2 g3 g4 e2 e4; generalize V.setCell ⟨xb, 1, none⟩ (.slice A2 (i + 1) c2) = V2 at *; go_wp2_with fail
    first | exact HX.out _ HJ2.out | (refine bodyPost_ret (results_none rfl _ _ _) rfl ?_; exact HX.out _ HJ2.out)
  ·have e1 : ((1 : Int) != 1) = false := rfl; go_enter Tryz.func131, Tryz.ntmps131
   go_wp2_with fail
   refine HPk.out.mono ?_; rintro e w1 ⟨rfl, hb1⟩; have HJ1 := hZ9 (HON.out _ (belowA hb1 (.cells #[.int .i64 1, .string (bytes qt), .int .i64 qa] 178))); have hrt : (w1.alloc (.cells #[.int .i64 1, .string (bytes qt), .int .i64 qa] 178)).heap[w1.heap.size]? = some (.cells #[.int .i64 1, .string (bytes qt), .int .i64 qa] 178 (0, 0)) := heapNew rfl; have Hrt := hZ9 hrt; clear hb1 HPk HH HON k0 hrt; go_wp2_with fail
   go_region_with ((go_at_call 132
                    refine (HIx.out _ (HJ1.out.rd.on (Below.refl _ _).drew)).mono ?_
                    rintro e w2 ⟨rfl, hb3⟩))
   have hb4 := (Below.refl (w1.alloc (.cells #[.int .i64 1, .string (bytes qt), .int .i64 qa] 178)).heap.size (w1.alloc (.cells #[.int .i64 1, .string (bytes qt), .int .i64 qa] 178))).drew.trans hb3; have HJ2 := hZ9 (HJ1.out.on Hb.out hb4); have hrt2 := (hb4.block _ (glt Hrt.out)).trans Hrt.out; obtain ⟨f0, f1, f2⟩ := facts3 hrt2; clear hb3 hb4 HJ1 Hrt HIx hrt2; go_wp2_with fail
   clear f0 f1 f2; obtain ⟨A', c', hrow, hown⟩ := HJ2.out.row; have hr0 := HJ2.out.r0; have hr1 := HJ2.out.r1; dsimp only at hrow hown; have hcs : (#[Value.string rel, .slice A' i c', .int .i64 ag, .int .i64 co, .slice none 0 0, .int .i64 pos] : Array Value)[1]? = some (.slice A' i c') := rfl; have hcs1 : 1 < (#[Value.string rel, .slice A' i c', .int .i64 ag, .int .i64 co, .slice none 0 0, .int .i64 pos] : Array Value).size := by simp
   have hjn : ∀ (V : World) (A2 : Option Addr) (c2 : Nat), V.heap[xb]? = some (.cells #[.string rel, .slice A' i c', .int .i64 ag, .int .i64 co, .slice none 0 0, .int .i64 pos] 56 (0, 0)) → V.heap[b0]? = some (.cells #[.pointer (some ⟨g, 0, none⟩)] 93 (0, 0)) → V.heap[b1]? = some (.cells #[.pointer (some ⟨xb, 0, none⟩)] 185 (0, 0)) → Out (g :: (Value.slice A' i c').ownBlock.toList) w2 V →
    V.ownsRow N0 75 4 (.slice A2 (i + 1) c2) (i + 1) (args.flatMap GTold.cells ++ tv.cells) → Rd B g A c T E s2 V → HdJ B g A c T E w xb b0 b1 N0 rel pos (i + 1) (s2, ⟨args ++ [tv], ag, co⟩) (V.setCell ⟨xb, 1, none⟩ (.slice A2 (i + 1) c2)) := fun V A2 c2 g1 g2 g3 g4 e2 e4 => HdJ.push (s2 := s2) (V := V) (A2 := A2) (c2 := c2) Hb.out HJ2.out.out HJ2.out.len HJ2.out.ok (HTo.out _ HJ2.out.rd) HJ2.out.n0 HJ2.out.agg HJ2.out.col hown g1 g2 g3 g4 HwN.out e2 e4
   have hNw := HJ2.out.n0
   have hnm : ∀ b, b < N0 → b ∉ (Value.slice A' i c').ownBlock.toList := fun b hb hm => by
    have := (own_blk hown (b := b) (by simpa using hm)).1; omega
   have hSn : ∀ b ∈ (Value.slice A' i c').ownBlock.toList, N0 ≤ b := fun b hb => (own_blk hown (b := b) (by simpa using hb)).1
   have hbl : ∀ b, w2.heap.size ≤ b → b ∉ (Value.slice A' i c').ownBlock.toList := fun b hb hm => by
    have := (own_blk hown (b := b) (by simpa using hm)).2; omega
   have HC := hZ9 (fun (V : World) (hB : Below w2.heap.size w2 V) => HTm.out V (HJ2.out.rd.on hB)); generalize hxs : args.flatMap GTold.cells = xs at hown hjn; generalize hcq : (#[Value.string rel, .slice A' i c', .int .i64 ag, .int .i64 co, .slice none 0 0, .int .i64 pos] : Array Value) = cs at hrow hcs hcs1 hjn; clear hcq hxs HTm HTo e1
   refine drawn2 mixed 13 72 [19, 20, 21, 22, 23, 24, 25, 26, 27, 28, 29, 30, 31] (fun j V => (V.heap[xb]? = some (.cells cs 56 (0, 0)) ∧ V.heap[b0]? = some (.cells #[.pointer (some ⟨g, 0, none⟩)] 93 (0, 0)) ∧ V.heap[b1]? = some (.cells #[.pointer (some ⟨xb, 0, none⟩)] 185 (0, 0)) ∧ Out (g :: (Value.slice A' i c').ownBlock.toList) w2 V) ∧ (j = 9 → V.ownsRow N0 75 4 (.slice A' i c') i xs) ∧ (j = 7 → Below w2.heap.size w2 V ∧ V.heap.size = w2.heap.size)) (hd3F B g A c T E xb N0 i A' c' xs s2 tv w2)
    (fun j V V' => if j = 9 then Out (Value.slice A' i c').ownBlock.toList V V' else if j = 8 then Below V.heap.size V V' else if j = 7 then Out [g] V V' ∧ V.heap.size = w2.heap.size else V' = V) rfl (by kernel_rfl) (by kernel_rfl) rfl (fun j _ => ⟨⟨hrow, hr0, hr1, Out.of_below (below_drewN w2 1 _) _⟩, fun _ => own_below hown (below_drewN w2 1 _), fun _ => ⟨below_drewN w2 1 _, rfl⟩⟩) ?_ ?_ ?_ ?_
   ·intro k j v V V' hij hil hj hF hRr; by_cases ha : j = 9
    ·subst ha; simp only [if_true] at hRr; match k, hF with
     | 0, h => exact h
     | 1, h => exact h
     | 2, h => exact h
     | 3, h => exact h
     | 4, h => exact h
     | 5, h => exact h
     | 6, h => exact h
     | 7, ⟨h1, h2⟩ => exact ⟨h1, h2.out hRr (fun b hb _ => by have := hSn b hb; omega)⟩
     | 8, ⟨b, h1, h2, h3⟩ => exact ⟨b, h1, (hRr.block _ (glt h2) (hbl b h3)).trans h2, h3⟩
     | 9, _ => exact absurd rfl hij
     | 10, h => exact h
     | 11, h => exact h
     | 12, h => exact h
     | _ + 13, _ => exact trivial
    rw [if_neg ha] at hRr; by_cases hb : j = 8
    ·subst hb; simp only [if_true] at hRr; match k, hF with
     | 0, h => exact h
     | 1, h => exact h
     | 2, h => exact h
     | 3, h => exact h
     | 4, h => exact h
     | 5, h => exact h
     | 6, h => exact h
     | 7, ⟨h1, h2⟩ => exact ⟨h1, h2.on hRr⟩
     | 8, _ => exact absurd rfl hij
     | 9, ⟨A2, c2, h1, h2, h3, h4⟩ => exact ⟨A2, c2, h1, own_below h2 hRr, Nat.lt_of_lt_of_le h3 hRr.size, h4.on hRr⟩
     | 10, h => exact h
     | 11, h => exact h
     | 12, h => exact h
     | _ + 13, _ => exact trivial
    rw [if_neg hb] at hRr; by_cases hc : j = 7
    ·subst hc; simp only [if_true] at hRr; obtain ⟨-, hsz⟩ := hRr; match k, hF with
     | 0, h => exact h
     | 1, h => exact h
     | 2, h => exact h
     | 3, h => exact h
     | 4, h => exact h
     | 5, h => exact h
     | 6, h => exact h
     | 7, _ => exact absurd rfl hij
     | 8, ⟨b, h1, h2, h3⟩ => have := (glt h2); omega
     | 9, ⟨A2, c2, h1, h2, h3, h4⟩ => omega
     | 10, h => exact h
     | 11, h => exact h
     | 12, h => exact h
     | _ + 13, _ => exact trivial
    rw [if_neg hc] at hRr; subst hRr; exact hF
   ·intro k j V V' hij hil hj hanc hG hRr; obtain ⟨⟨g1, g2, g3, g4⟩, g5, g6⟩ := hG; by_cases ha : k = 9
    ·subst ha; simp only [if_true] at hRr; refine ⟨⟨(hRr.block _ (glt g1) (hnm _ hN1)).trans g1, (hRr.block _ (glt g2) (hnm _ hN2)).trans g2, (hRr.block _ (glt g3) (hnm _ hN3)).trans g3, g4.trans hRr (fun _ h _ => List.mem_cons_of_mem _ h)⟩, fun e => absurd e (Ne.symm hij), fun e => absurd (by subst e; exact of_decide_eq_true (by kernel_rfl)) hanc⟩
    rw [if_neg ha] at hRr; by_cases hb : k = 8
    ·subst hb; simp only [if_true] at hRr; refine ⟨⟨(hRr.block _ (glt g1)).trans g1, (hRr.block _ (glt g2)).trans g2, (hRr.block _ (glt g3)).trans g3, g4.trans (Out.of_below hRr []) (fun _ h _ => by cases h)⟩, fun e => own_below (g5 e) hRr, fun e => absurd (by subst e; exact of_decide_eq_true (by kernel_rfl)) hanc⟩
    rw [if_neg hb] at hRr; by_cases hc : k = 7
    ·subst hc; simp only [if_true] at hRr; obtain ⟨ho, -⟩ := hRr; refine ⟨⟨(ho.block _ (glt g1) (by simpa using hxg)).trans g1, (ho.block _ (glt g2) (by simpa using h0g)).trans g2, (ho.block _ (glt g3) (by simpa using h1g)).trans g3, g4.trans ho (fun b h _ => by simp at h; simp [h])⟩, fun e => own_out' (g5 e) ho (fun b hb hb' => hnm g hgN (by simp at hb'; rw [← hb']; simpa using hb)), fun e => absurd e (Ne.symm hij)⟩
    rw [if_neg hc] at hRr; subst hRr; exact ⟨⟨g1, g2, g3, g4⟩, g5, g6⟩
   ·intro k o a' V hil ho hd' hold hGi hGL hw; have t1 : a'.tmps[1]? = some (.pointer (some ⟨b0, 0, none⟩)) := hold 1 (by kernel_rfl); have t2 : a'.tmps[2]? = some (.pointer (some ⟨b1, 0, none⟩)) := hold 2 (by kernel_rfl); obtain ⟨⟨g1, g2, g3, g4⟩, g5, g6⟩ := hGi; clear hold; match k, hil, ho with
    | 0, _, ho =>
      injection ho with ho; subst ho
      exact op_val _ (by simp [execOp, Act.eval, t2, run_loadP Tryz.underlying185 ((cell_of_row _ _ 0 _ _ _ g3).trans rfl)]) ⟨_, rfl, by simp, rfl⟩
    | 1, _, ho =>
      injection ho with ho; subst ho
      exact op_val _ (by simp [execOp, Act.eval, t2, run_loadP Tryz.underlying185 ((cell_of_row _ _ 0 _ _ _ g3).trans rfl)]) ⟨_, rfl, by simp, rfl⟩
    | 2, _, ho =>
      injection ho with ho; subst ho
      obtain ⟨v0, v0h, v0e⟩ := hw 1 20 (by kernel_rfl); obtain rfl : v0 = _ := v0e; exact op_val _ (by simp [execOp, Act.eval, v0h, go_sem]) ⟨_, rfl, by simp, rfl⟩
    | 3, _, ho =>
      injection ho with ho; subst ho
      obtain ⟨v0, v0h, v0e⟩ := hw 2 21 (by kernel_rfl); obtain rfl : v0 = _ := v0e; exact op_val _ (by simp [execOp, Act.eval, v0h, go_sem]) ⟨_, rfl, by simp, rfl⟩
    | 4, _, ho =>
      injection ho with ho; subst ho
      obtain ⟨v0, v0h, v0e⟩ := hw 3 22 (by kernel_rfl); obtain rfl : v0 = _ := v0e; exact op_val _ (by simp [execOp, Act.eval, v0h, go_sem]) ⟨_, rfl, by simp, rfl⟩
    | 5, _, ho =>
      injection ho with ho; subst ho
      obtain ⟨v0, v0h, v0e⟩ := hw 4 23 (by kernel_rfl); obtain rfl : v0 = _ := v0e; exact op_val _ (by simp [execOp, Act.eval, v0h, run_load1 Tryz.underlying51 ((cell_of_row _ _ 1 _ _ _ g1).trans hcs)]) ⟨_, rfl, by simp, rfl⟩
    | 6, _, ho =>
      injection ho with ho; subst ho
      exact op_val _ (by simp [execOp, Act.eval, t1, run_loadP Tryz.underlying93 ((cell_of_row _ _ 0 _ _ _ g2).trans rfl)]) ⟨_, rfl, by simp, rfl⟩
    | 7, _, ho =>
      injection ho with ho; subst ho
      obtain ⟨v0, v0h, v0e⟩ := hw 6 25 (by kernel_rfl); obtain rfl : v0 = _ := v0e; obtain ⟨q1, q2⟩ := g6 rfl; refine op_call 133 _ rfl rfl #[.pointer (some ⟨g, 0, none⟩)] (by simp [Act.eval, v0h]) _ Tryz.func133 (by kernel_rfl) (by kernel_rfl) ((HC.out V q1).mono ?_); rintro r w' ⟨rfl, q3, q4⟩; exact ⟨_, rfl, _, rfl, by simp [q4, q2], rfl, q3⟩
    | 8, _, ho =>
      injection ho with ho; subst ho
      obtain ⟨v0, v0h, v0e, v0r⟩ := hw 7 26 (by kernel_rfl); obtain rfl : v0 = _ := v0e; refine op_bslice 51 75 1 _ rfl 4 [toldV tv] Tryz.underlying51 (by kernel_rfl) (by decide) rfl (by decide) (by decide) (by simp [Act.eval, v0h]) (by simp [Value.cells]) ?_; simp only [List.flatMap_cons, List.flatMap_nil, List.append_nil, Value.cells]; exact ⟨_, rfl, by rw [if_neg (by decide), if_pos trivial]; exact belowA (Below.refl _ _) _, _, rfl, heapNew rfl, g4.size⟩
    | 9, _, ho =>
      injection ho with ho; subst ho
      obtain ⟨v0, v0h, v0e⟩ := hw 5 24 (by kernel_rfl); obtain rfl : v0 = _ := v0e; obtain ⟨v1, v1h, bb, v1e, v1b, v1z⟩ := hw 8 27 (by kernel_rfl); obtain rfl : v1 = _ := v1e; obtain ⟨vc, vch, vce, vcr⟩ := hw 7 26 (by kernel_rfl); obtain rfl : vc = _ := vce; obtain ⟨A2, c2, w', k1, k2, k3, k4⟩ := push_more (P := Tryz.prog) (ty := 51) V Tryz.underlying51 term_info rfl (by decide) (g5 rfl) bb (GTold.cells tv) rfl v1b (by simp [GTold.cells, Value.oneCell']) (by simp [maxLen]; omega) (by omega) (Nat.le_trans hNw g4.size); have hbl2 := (glt v1b)
      exact op_append _ _ _ rfl _ _ (eval_tmp v0h) (eval_tmp v1h) k1 ⟨_, rfl, by simpa using k3, A2, c2, rfl, k2, Nat.lt_of_lt_of_le (by omega) k3.size, vcr.out k3 (fun b hb _ => by have := hSn b hb; omega)⟩
    | 10, _, ho =>
      injection ho with ho; subst ho
      obtain ⟨v0, v0h, v0e⟩ := hw 0 19 (by kernel_rfl); obtain rfl : v0 = _ := v0e; exact op_val _ (by simp [execOp, Act.eval, v0h, go_sem]) ⟨_, rfl, by simp, rfl⟩
    | 11, _, ho =>
      injection ho with ho; subst ho
      obtain ⟨v0, v0h, v0e⟩ := hw 10 29 (by kernel_rfl); obtain rfl : v0 = _ := v0e; exact op_val _ (by simp [execOp, Act.eval, v0h, go_sem]) ⟨_, rfl, by simp, rfl⟩
    | 12, _, ho =>
      injection ho with ho; subst ho
      obtain ⟨v0, v0h, v0e⟩ := hw 11 30 (by kernel_rfl); obtain rfl : v0 = _ := v0e; exact op_val _ (by simp [execOp, Act.eval, v0h, go_sem]) ⟨_, rfl, by simp, rfl⟩
    | n + 13, hil, _ => omega
   ·intro o u V ho hGL hw; have e0 := hw 12 31 (by decide) (by kernel_rfl); obtain ⟨A2, c2, e1, e2, -, e4⟩ := hw 9 28 (by decide) (by kernel_rfl); replace e0 : u 31 = .pointer (some ⟨xb, 1, none⟩) := e0; obtain ⟨⟨g1, g2, g3, g4⟩, -, -⟩ := hGL; clear hw; injection ho with ho; subst ho
    simp only [List.foldl_cons, List.foldl_nil, Act.put, List.setIfInBounds_toArray, List.set_cons_zero, List.set_cons_succ]; rw [e0, e1]; refine op_skip (w' := V.setCell ⟨xb, 1, none⟩ (.slice A2 (i + 1) c2)) (by simp [execOp, Act.eval, run_store1 (A := A2) (n := i + 1) (c := c2) (P := Tryz.prog) (ty := 51) (by kernel_rfl) g1 hcs1]) ?_; clear e0 e1; simp only [Act.put]; have HJ2 := hZ9 (hjn V A2 c2 g1 g2 g3 g4 e2 e4); clear g1 g2 g3 g4 e2 e4; generalize V.setCell ⟨xb, 1, none⟩ (.slice A2 (i + 1) c2) = V2 at *; go_wp2_with fail
    first | exact HX.out _ HJ2.out | (refine bodyPost_ret (results_none rfl _ _ _) rfl ?_; exact HX.out _ HJ2.out)
 ·obtain ⟨hk1, hag⟩ := hcase; have Hne : Hid (∀ n, W.heap.size ≤ n → n ≠ xb) := fun n hn => by have := HH.out.n0; omega
  have Hng : Hid (∀ n, W.heap.size ≤ n → g ≠ n) := fun n hn => by have := HH.out.n0; omega
  obtain ⟨s1, Hs1⟩ : ∃ s1, Hid (s1 = if 0 < ag then failP T s q.a 2 else s) := ⟨_, rfl⟩
  obtain ⟨sa, Hsa⟩ : ∃ sa, Hid (sa = wantP T E s1 q.t) := ⟨_, rfl⟩
  obtain ⟨sb, Hsb⟩ : ∃ sb, Hid (sb = wantP T E sa [40]) := ⟨_, rfl⟩
  obtain ⟨s2, Hs2⟩ : ∃ s2, Hid (s2 = takeP T E sb 3) := ⟨_, rfl⟩
  obtain ⟨tx, Htx⟩ : ∃ tx, Hid (tx = takeT T E sb 3) := ⟨_, rfl⟩
  have hka1 : ka + 1 = (aggN q.t : Int) := by rw [Hka.out]; omega
  have hle := aggN_le2 q.t; have hka0 : 0 ≤ ka := by omega
  have hka3 : ka ≤ 3 := by omega
  have HX : Hid (∀ V, HdJ B g A c T E w xb b0 b1 N0 rel pos (i + 1) (wantP T E s2 [41], ⟨args ++ [⟨bytes tx, gv0⟩], ka + 1, i⟩) V → P (.returned (.tuple #[])) V) := fun V hj => by
   rw [HP.out]
   have e1 : headR T E i (s, ⟨args, ag, co⟩) = (wantP T E s2 [41], ⟨args ++ [⟨bytes tx, gv0⟩], ka + 1, i⟩) := by
    unfold headR; dsimp only; rw [if_pos (by rw [← Hq.out]; exact ⟨hk1, hag⟩), hka1, Htx.out, Hs2.out, Hsb.out, Hsa.out, Hs1.out, Hq.out]
   show _ ∧ _; rw [e1]; exact ⟨rfl, hj⟩
  have t40 : (⟨#[40]⟩ : ByteArray).toList = [40] := toList_mk [40]; have t41 : (⟨#[41]⟩ : ByteArray).toList = [41] := toList_mk [41]
  have HFl : Hid (0 < ag → ∀ (V : World), Rd B g A c T E s V → Calls Tryz.prog 50 #[.pointer (some ⟨g, 0, none⟩), .int .i64 q.a, .int .i64 2] V (RdPost B g A c T E s1 (.tuple #[]) V)) := fun h V hR => by
   rw [Hs1.out, if_pos h]; exact rfail_any hR q.a (by rw [Hq.out]; exact peek_le hR.within s 0) 2 (by omega)
  have HS0 : Hid (¬ 0 < ag → s1 = s) := fun h => by rw [Hs1.out, if_neg h]
  have HWa := hZ9 (fun (V : World) (hR : Rd B g A c T E s1 V) => rwant_any hR (bytes q.t)); rw [show (bytes q.t).toList = q.t from toList_mk q.t, ← Hsa.out] at HWa; have HWb := hZ9 (fun (V : World) (hR : Rd B g A c T E sa V) => rwant_any hR ⟨#[40]⟩); rw [t40, ← Hsb.out] at HWb; have HTk := hZ9 (fun (V : World) (hR : Rd B g A c T E sb V) => show Calls Tryz.prog 85 #[.pointer (some ⟨g, 0, none⟩), .int .i64 3] V (RdPost B g A c T E (takeP T E sb 3) (.string (bytes (takeT T E sb 3))) V) from rtake_any hR 3 (by decide)); rw [← Hs2.out, ← Htx.out] at HTk; have HTo : Hid (tx.length ≤ reachN) := by show _ ≤ _; rw [Htx.out]; exact takeT_len HH.out.rd sb 3
  have HWc := hZ9 (fun (V : World) (hR : Rd B g A c T E s2 V) => rwant_any hR ⟨#[41]⟩); rw [t41] at HWc; generalize wantP T E s2 [41] = s3 at *; obtain ⟨qk, qt, qa⟩ := q; dsimp only at hk1 HIx HPk HFl HWa hka1; subst hk1; have e1 : ((1 : Int) != 1) = false := rfl; clear HP Hka Hq hag hka1 hle t40 t41 HTm Hs1 Hsa Hsb Hs2 Htx; go_enter Tryz.func131, Tryz.ntmps131
  go_wp2_with fail
  refine HPk.out.mono ?_; rintro e w1 ⟨rfl, hb1⟩; have hb1z := hZ9 hb1.size; have HJ1 := hZ9 (HON.out _ (belowA hb1 (.cells #[.int .i64 1, .string (bytes qt), .int .i64 qa] 178))); have hrt : (w1.alloc (.cells #[.int .i64 1, .string (bytes qt), .int .i64 qa] 178)).heap[w1.heap.size]? = some (.cells #[.int .i64 1, .string (bytes qt), .int .i64 qa] 178 (0, 0)) := heapNew rfl; have Hrt := hZ9 hrt; clear hb1 HPk HH HON k0 hrt; go_wp2_with fail
  go_region_with ((go_at_call 132
                   refine (HIx.out _ (HJ1.out.rd.on (Below.refl _ _).drew)).mono ?_
                   rintro e w2 ⟨rfl, hb3⟩))
  have hb4 := (Below.refl (w1.alloc (.cells #[.int .i64 1, .string (bytes qt), .int .i64 qa] 178)).heap.size (w1.alloc (.cells #[.int .i64 1, .string (bytes qt), .int .i64 qa] 178))).drew.trans hb3; have HJ2 := hZ9 (HJ1.out.on Hb.out hb4); have hrt2 := (hb4.block _ (glt Hrt.out)).trans Hrt.out; have Hrt2 := hZ9 hrt2; have Hxw : Hid (w1.heap.size ≠ xb) := Hne.out _ hb1z.out; have Hgw : Hid (g ≠ w1.heap.size) := Hng.out _ hb1z.out; obtain ⟨f0, f1, f2⟩ := facts3 hrt2; obtain ⟨A0, c0, hrow0, -⟩ := HJ2.out.row; dsimp only at hrow0; obtain ⟨q0, q1, q2, q3, q4, q5⟩ := facts6 hrow0; have qx := (cell_of_row _ _ 0 _ _ _ HJ2.out.r1).trans rfl; have qr := (cell_of_row _ _ 0 _ _ _ HJ2.out.r0).trans rfl; clear hb3 hb4 HJ1 Hrt HIx hrt2 hrow0; by_cases hpos : 0 < ag
  ·go_wp2_with fail
   refine (HFl.out hpos _ HJ2.out.rd).mono ?_; rintro e w3 ⟨rfl, hr3, ho3⟩; have HJ3 := hZ9 ((HdJ.jok Hb.out).go _ _ _ _ _ HJ2.out hr3 ho3); have Hrt3 := hZ9 ((ho3.block _ (glt Hrt2.out) (by simpa using Ne.symm Hgw.out)).trans Hrt2.out); clear hr3 ho3 HJ2 Hrt2 f0 f1 f2 q0 q1 q2 q3 q4 q5 qx qr HFl hpos; obtain ⟨A0, c0, hrow0, -⟩ := HJ3.out.row; dsimp only at hrow0; obtain ⟨q0, q1, q2, q3, q4, q5⟩ := facts6 hrow0; have qf := froz4 hrow0; have qx := (cell_of_row _ _ 0 _ _ _ HJ3.out.r1).trans rfl; have x1 : xb ≠ b1 := Hb.out.x1; have x2 : b1 ≠ xb := Ne.symm Hb.out.x1; have hwk : IntKind.i64.wrap (ka + 1) = ka + 1 := IntWalk.i64_in _ (by omega); have hi6 : (i : Int) ≤ 6 := by omega
   clear hrow0; go_wp2_with fail
   go_region_with (fail)
   all_goals
    have HJ4 := hZ9 ((HdJ.aggSet (ag2 := ka + 1) (co2 := (i : Int)) Hb.out HJ3.out (by omega) (by omega)).on Hb.out (below_drewN _ 1 _)); have hrt4 : (((w3.setCell ⟨xb, 2, none⟩ (.int .i64 (ka + 1))).setCell ⟨xb, 3, none⟩ (.int .i64 (i : Int))).drewN 1).heap[w1.heap.size]? = some (.cells #[.int .i64 1, .string (bytes qt), .int .i64 qa] 178 (0, 0)) := (World.heap_setCells_other' Hxw.out).trans ((World.heap_setCells_other' Hxw.out).trans Hrt3.out); clear q0 q1 q2 q3 q4 q5 qf qx hwk HJ3 Hrt3; obtain ⟨f0, f1, f2⟩ := facts3 hrt4; have k4 := (cell_of_row _ _ 0 _ _ _ HJ4.out.r0).trans rfl; change Exit.then _ _ _ _ (((w3.setCell ⟨xb, 2, none⟩ (.int .i64 (ka + 1))).setCell ⟨xb, 3, none⟩ (.int .i64 (i : Int))).drewN 1)
    clear hrt4; generalize ((w3.setCell ⟨xb, 2, none⟩ (.int .i64 (ka + 1))).setCell ⟨xb, 3, none⟩ (.int .i64 (i : Int))).drewN 1 = w4 at *; go_wp2_with fail
    refine (HWa.out _ HJ4.out.rd).mono ?_; rintro e w5 ⟨rfl, hr5, ho5⟩; have HJ5 := hZ9 ((HdJ.jok Hb.out).go _ _ _ _ _ HJ4.out hr5 ho5); clear hr5 ho5 HJ4 HWa f0 f1 f2 k4; have k5 := (cell_of_row _ _ 0 _ _ _ HJ5.out.r0).trans rfl; go_wp2_with fail
    refine (HWb.out _ HJ5.out.rd).mono ?_; rintro e w6 ⟨rfl, hr6, ho6⟩; have HJ6 := hZ9 ((HdJ.jok Hb.out).go _ _ _ _ _ HJ5.out hr6 ho6); clear hr6 ho6 HJ5 HWb k5; go_wp2_with fail
    obtain ⟨A', c', hrow, hown⟩ := HJ6.out.row; have hr0 := HJ6.out.r0; have hr1 := HJ6.out.r1; dsimp only at hrow hown; have hcs : (#[Value.string rel, .slice A' i c', .int .i64 (ka + 1), .int .i64 (i : Int), .slice none 0 0, .int .i64 pos] : Array Value)[1]? = some (.slice A' i c') := rfl; have hcs1 : 1 < (#[Value.string rel, .slice A' i c', .int .i64 (ka + 1), .int .i64 (i : Int), .slice none 0 0, .int .i64 pos] : Array Value).size := by simp
    have hjn : ∀ (V : World) (A2 : Option Addr) (c2 : Nat), V.heap[xb]? = some (.cells #[.string rel, .slice A' i c', .int .i64 (ka + 1), .int .i64 (i : Int), .slice none 0 0, .int .i64 pos] 56 (0, 0)) → V.heap[b0]? = some (.cells #[.pointer (some ⟨g, 0, none⟩)] 93 (0, 0)) → V.heap[b1]? = some (.cells #[.pointer (some ⟨xb, 0, none⟩)] 185 (0, 0)) → Out (g :: (Value.slice A' i c').ownBlock.toList) w6 V →
     V.ownsRow N0 75 4 (.slice A2 (i + 1) c2) (i + 1) (args.flatMap GTold.cells ++ (⟨bytes tx, gv0⟩ : GTold).cells) → Rd B g A c T E s2 V → HdJ B g A c T E w xb b0 b1 N0 rel pos (i + 1) (s2, ⟨args ++ [⟨bytes tx, gv0⟩], ka + 1, i⟩) (V.setCell ⟨xb, 1, none⟩ (.slice A2 (i + 1) c2)) := fun V A2 c2 g1 g2 g3 g4 e2 e4 => HdJ.push (s2 := s2) (V := V) (A2 := A2) (c2 := c2) Hb.out HJ6.out.out HJ6.out.len HJ6.out.ok ⟨HTo.out, GV.ok_zero⟩ HJ6.out.n0 HJ6.out.agg HJ6.out.col hown g1 g2 g3 g4 HwN.out e2 e4
    have hNw := HJ6.out.n0
    have hnm : ∀ b, b < N0 → b ∉ (Value.slice A' i c').ownBlock.toList := fun b hb hm => by
     have := (own_blk hown (b := b) (by simpa using hm)).1; omega
    have hSn : ∀ b ∈ (Value.slice A' i c').ownBlock.toList, N0 ≤ b := fun b hb => (own_blk hown (b := b) (by simpa using hb)).1
    have hbl : ∀ b, w6.heap.size ≤ b → b ∉ (Value.slice A' i c').ownBlock.toList := fun b hb hm => by
     have := (own_blk hown (b := b) (by simpa using hm)).2; omega
    have HC := hZ9 (fun (V : World) (hB : Below w6.heap.size w6 V) => HTk.out V (HJ6.out.rd.on hB)); generalize hxs : args.flatMap GTold.cells = xs at hown hjn; generalize hcq : (#[Value.string rel, .slice A' i c', .int .i64 (ka + 1), .int .i64 (i : Int), .slice none 0 0, .int .i64 pos] : Array Value) = cs at hrow hcs hcs1 hjn; clear hcq hxs HTk HTo e1
    refine drawn2 mixed 14 72 [56, 57, 58, 59, 60, 61, 62, 63, 64, 65, 66, 67, 68, 69] (fun j V => (V.heap[xb]? = some (.cells cs 56 (0, 0)) ∧ V.heap[b0]? = some (.cells #[.pointer (some ⟨g, 0, none⟩)] 93 (0, 0)) ∧ V.heap[b1]? = some (.cells #[.pointer (some ⟨xb, 0, none⟩)] 185 (0, 0)) ∧ Out (g :: (Value.slice A' i c').ownBlock.toList) w6 V) ∧ (j = 10 → V.ownsRow N0 75 4 (.slice A' i c') i xs) ∧ (j = 7 → Below w6.heap.size w6 V ∧ V.heap.size = w6.heap.size)) (hd9F B g A c T E xb N0 i A' c' xs s2 ⟨bytes tx, gv0⟩ w6)
     (fun j V V' => if j = 10 then Out (Value.slice A' i c').ownBlock.toList V V' else if j = 9 then Below V.heap.size V V' else if j = 7 then Out [g] V V' ∧ V.heap.size = w6.heap.size else V' = V) rfl (by kernel_rfl) (by kernel_rfl) rfl (fun j _ => ⟨⟨hrow, hr0, hr1, Out.of_below (below_drewN w6 1 _) _⟩, fun _ => own_below hown (below_drewN w6 1 _), fun _ => ⟨below_drewN w6 1 _, rfl⟩⟩) ?_ ?_ ?_ ?_
    ·intro k j v V V' hij hil hj hF hRr; by_cases ha : j = 10
     ·subst ha; simp only [if_true] at hRr; match k, hF with
      | 0, h => exact h
      | 1, h => exact h
      | 2, h => exact h
      | 3, h => exact h
      | 4, h => exact h
      | 5, h => exact h
      | 6, h => exact h
      | 7, ⟨h1, h2⟩ => exact ⟨h1, h2.out hRr (fun b hb _ => by have := hSn b hb; omega)⟩
      | 8, h => exact h
      | 9, ⟨b, h1, h2, h3⟩ => exact ⟨b, h1, (hRr.block _ (glt h2) (hbl b h3)).trans h2, h3⟩
      | 10, _ => exact absurd rfl hij
      | 11, h => exact h
      | 12, h => exact h
      | 13, h => exact h
      | _ + 14, _ => exact trivial
     rw [if_neg ha] at hRr; by_cases hb : j = 9
     ·subst hb; simp only [if_true] at hRr; match k, hF with
      | 0, h => exact h
      | 1, h => exact h
      | 2, h => exact h
      | 3, h => exact h
      | 4, h => exact h
      | 5, h => exact h
      | 6, h => exact h
      | 7, ⟨h1, h2⟩ => exact ⟨h1, h2.on hRr⟩
      | 8, h => exact h
      | 9, _ => exact absurd rfl hij
      | 10, ⟨A2, c2, h1, h2, h3, h4⟩ => exact ⟨A2, c2, h1, own_below h2 hRr, Nat.lt_of_lt_of_le h3 hRr.size, h4.on hRr⟩
      | 11, h => exact h
      | 12, h => exact h
      | 13, h => exact h
      | _ + 14, _ => exact trivial
     rw [if_neg hb] at hRr; by_cases hc : j = 7
     ·subst hc; simp only [if_true] at hRr; obtain ⟨-, hsz⟩ := hRr; match k, hF with
      | 0, h => exact h
      | 1, h => exact h
      | 2, h => exact h
      | 3, h => exact h
      | 4, h => exact h
      | 5, h => exact h
      | 6, h => exact h
      | 7, _ => exact absurd rfl hij
      | 8, h => exact h
      | 9, ⟨b, h1, h2, h3⟩ => have := (glt h2); omega
      | 10, ⟨A2, c2, h1, h2, h3, h4⟩ => omega
      | 11, h => exact h
      | 12, h => exact h
      | 13, h => exact h
      | _ + 14, _ => exact trivial
     rw [if_neg hc] at hRr; subst hRr; exact hF
    ·intro k j V V' hij hil hj hanc hG hRr; obtain ⟨⟨g1, g2, g3, g4⟩, g5, g6⟩ := hG; by_cases ha : k = 10
     ·subst ha; simp only [if_true] at hRr; refine ⟨⟨(hRr.block _ (glt g1) (hnm _ hN1)).trans g1, (hRr.block _ (glt g2) (hnm _ hN2)).trans g2, (hRr.block _ (glt g3) (hnm _ hN3)).trans g3, g4.trans hRr (fun _ h _ => List.mem_cons_of_mem _ h)⟩, fun e => absurd e (Ne.symm hij), fun e => absurd (by subst e; exact of_decide_eq_true (by kernel_rfl)) hanc⟩
     rw [if_neg ha] at hRr; by_cases hb : k = 9
     ·subst hb; simp only [if_true] at hRr; refine ⟨⟨(hRr.block _ (glt g1)).trans g1, (hRr.block _ (glt g2)).trans g2, (hRr.block _ (glt g3)).trans g3, g4.trans (Out.of_below hRr []) (fun _ h _ => by cases h)⟩, fun e => own_below (g5 e) hRr, fun e => absurd (by subst e; exact of_decide_eq_true (by kernel_rfl)) hanc⟩
     rw [if_neg hb] at hRr; by_cases hc : k = 7
     ·subst hc; simp only [if_true] at hRr; obtain ⟨ho, -⟩ := hRr; refine ⟨⟨(ho.block _ (glt g1) (by simpa using hxg)).trans g1, (ho.block _ (glt g2) (by simpa using h0g)).trans g2, (ho.block _ (glt g3) (by simpa using h1g)).trans g3, g4.trans ho (fun b h _ => by simp at h; simp [h])⟩, fun e => own_out' (g5 e) ho (fun b hb hb' => hnm g hgN (by simp at hb'; rw [← hb']; simpa using hb)), fun e => absurd e (Ne.symm hij)⟩
     rw [if_neg hc] at hRr; subst hRr; exact ⟨⟨g1, g2, g3, g4⟩, g5, g6⟩
    ·intro k o a' V hil ho hd' hold hGi hGL hw; have t1 : a'.tmps[1]? = some (.pointer (some ⟨b0, 0, none⟩)) := hold 1 (by kernel_rfl); have t2 : a'.tmps[2]? = some (.pointer (some ⟨b1, 0, none⟩)) := hold 2 (by kernel_rfl); obtain ⟨⟨g1, g2, g3, g4⟩, g5, g6⟩ := hGi; clear hold; match k, hil, ho with
     | 0, _, ho =>
       injection ho with ho; subst ho
       exact op_val _ (by simp [execOp, Act.eval, t2, run_loadP Tryz.underlying185 ((cell_of_row _ _ 0 _ _ _ g3).trans rfl)]) ⟨_, rfl, by simp, rfl⟩
     | 1, _, ho =>
       injection ho with ho; subst ho
       exact op_val _ (by simp [execOp, Act.eval, t2, run_loadP Tryz.underlying185 ((cell_of_row _ _ 0 _ _ _ g3).trans rfl)]) ⟨_, rfl, by simp, rfl⟩
     | 2, _, ho =>
       injection ho with ho; subst ho
       obtain ⟨v0, v0h, v0e⟩ := hw 1 57 (by kernel_rfl); obtain rfl : v0 = _ := v0e; exact op_val _ (by simp [execOp, Act.eval, v0h, go_sem]) ⟨_, rfl, by simp, rfl⟩
     | 3, _, ho =>
       injection ho with ho; subst ho
       obtain ⟨v0, v0h, v0e⟩ := hw 2 58 (by kernel_rfl); obtain rfl : v0 = _ := v0e; exact op_val _ (by simp [execOp, Act.eval, v0h, go_sem]) ⟨_, rfl, by simp, rfl⟩
     | 4, _, ho =>
       injection ho with ho; subst ho
       obtain ⟨v0, v0h, v0e⟩ := hw 3 59 (by kernel_rfl); obtain rfl : v0 = _ := v0e; exact op_val _ (by simp [execOp, Act.eval, v0h, go_sem]) ⟨_, rfl, by simp, rfl⟩
     | 5, _, ho =>
       injection ho with ho; subst ho
       obtain ⟨v0, v0h, v0e⟩ := hw 4 60 (by kernel_rfl); obtain rfl : v0 = _ := v0e; exact op_val _ (by simp [execOp, Act.eval, v0h, run_load1 Tryz.underlying51 ((cell_of_row _ _ 1 _ _ _ g1).trans hcs)]) ⟨_, rfl, by simp, rfl⟩
     | 6, _, ho =>
       injection ho with ho; subst ho
       exact op_val _ (by simp [execOp, Act.eval, t1, run_loadP Tryz.underlying93 ((cell_of_row _ _ 0 _ _ _ g2).trans rfl)]) ⟨_, rfl, by simp, rfl⟩
     | 7, _, ho =>
       injection ho with ho; subst ho
       obtain ⟨v0, v0h, v0e⟩ := hw 6 62 (by kernel_rfl); obtain rfl : v0 = _ := v0e; obtain ⟨q1, q2⟩ := g6 rfl; refine op_call 85 _ rfl rfl #[.pointer (some ⟨g, 0, none⟩), .int .i64 3] (by simp [Act.eval, v0h]) _ Tryz.func85 (by kernel_rfl) (by kernel_rfl) ((HC.out V q1).mono ?_); rintro r w' ⟨rfl, q3, q4⟩; exact ⟨_, rfl, _, rfl, by simp [q4, q2], rfl, q3⟩
     | 8, _, ho =>
       injection ho with ho; subst ho
       obtain ⟨v0, v0h, v0e, v0r⟩ := hw 7 63 (by kernel_rfl); obtain rfl : v0 = _ := v0e; exact op_build 75 _ rfl [(0, .string (bytes tx))] (GTold.cells ⟨bytes tx, gv0⟩).toArray (by simp [Act.eval, v0h]) (by kernel_rfl) ⟨_, rfl, by simp, rfl⟩
     | 9, _, ho =>
       injection ho with ho; subst ho
       obtain ⟨v0, v0h, v0e⟩ := hw 8 64 (by kernel_rfl); obtain rfl : v0 = _ := v0e; refine op_bslice 51 75 1 _ rfl 4 [toldV ⟨bytes tx, gv0⟩] Tryz.underlying51 (by kernel_rfl) (by decide) rfl (by decide) (by decide) (by simp [Act.eval, v0h]) (by simp [Value.cells]) ?_; simp only [List.flatMap_cons, List.flatMap_nil, List.append_nil, Value.cells]; exact ⟨_, rfl, by rw [if_neg (by decide), if_pos trivial]; exact belowA (Below.refl _ _) _, _, rfl, heapNew rfl, g4.size⟩
     | 10, _, ho =>
       injection ho with ho; subst ho
       obtain ⟨v0, v0h, v0e⟩ := hw 5 61 (by kernel_rfl); obtain rfl : v0 = _ := v0e; obtain ⟨v1, v1h, bb, v1e, v1b, v1z⟩ := hw 9 65 (by kernel_rfl); obtain rfl : v1 = _ := v1e; obtain ⟨vc, vch, vce, vcr⟩ := hw 7 63 (by kernel_rfl); obtain rfl : vc = _ := vce; obtain ⟨A2, c2, w', k1, k2, k3, k4⟩ := push_more (P := Tryz.prog) (ty := 51) V Tryz.underlying51 term_info rfl (by decide) (g5 rfl) bb (GTold.cells ⟨bytes tx, gv0⟩) rfl v1b (by simp [GTold.cells, Value.oneCell']) (by simp [maxLen]; omega) (by omega) (Nat.le_trans hNw g4.size); have hbl2 := (glt v1b)
       exact op_append _ _ _ rfl _ _ (eval_tmp v0h) (eval_tmp v1h) k1 ⟨_, rfl, by simpa using k3, A2, c2, rfl, k2, Nat.lt_of_lt_of_le (by omega) k3.size, vcr.out k3 (fun b hb _ => by have := hSn b hb; omega)⟩
     | 11, _, ho =>
       injection ho with ho; subst ho
       obtain ⟨v0, v0h, v0e⟩ := hw 0 56 (by kernel_rfl); obtain rfl : v0 = _ := v0e; exact op_val _ (by simp [execOp, Act.eval, v0h, go_sem]) ⟨_, rfl, by simp, rfl⟩
     | 12, _, ho =>
       injection ho with ho; subst ho
       obtain ⟨v0, v0h, v0e⟩ := hw 11 67 (by kernel_rfl); obtain rfl : v0 = _ := v0e; exact op_val _ (by simp [execOp, Act.eval, v0h, go_sem]) ⟨_, rfl, by simp, rfl⟩
     | 13, _, ho =>
       injection ho with ho; subst ho
       obtain ⟨v0, v0h, v0e⟩ := hw 12 68 (by kernel_rfl); obtain rfl : v0 = _ := v0e; exact op_val _ (by simp [execOp, Act.eval, v0h, go_sem]) ⟨_, rfl, by simp, rfl⟩
     | n + 14, hil, _ => omega
    ·intro o u V ho hGL hw; have e0 := hw 13 69 (by decide) (by kernel_rfl); obtain ⟨A2, c2, e1, e2, -, e4⟩ := hw 10 66 (by decide) (by kernel_rfl); replace e0 : u 69 = .pointer (some ⟨xb, 1, none⟩) := e0; obtain ⟨⟨g1, g2, g3, g4⟩, -, -⟩ := hGL; clear hw; injection ho with ho; subst ho
     simp only [List.foldl_cons, List.foldl_nil, Act.put, List.setIfInBounds_toArray, List.set_cons_zero, List.set_cons_succ]; rw [e0, e1]; refine op_skip (w' := V.setCell ⟨xb, 1, none⟩ (.slice A2 (i + 1) c2)) (by simp [execOp, Act.eval, run_store1 (A := A2) (n := i + 1) (c := c2) (P := Tryz.prog) (ty := 51) (by kernel_rfl) g1 hcs1]) ?_; clear e0 e1; simp only [Act.put]; have HJ2 := hZ9 (hjn V A2 c2 g1 g2 g3 g4 e2 e4); clear g1 g2 g3 g4 e2 e4; generalize V.setCell ⟨xb, 1, none⟩ (.slice A2 (i + 1) c2) = V2 at *; have k7 := (cell_of_row _ _ 0 _ _ _ HJ2.out.r0).trans rfl; go_wp2_with fail
     refine (HWc.out _ HJ2.out.rd).mono ?_; rintro e w8 ⟨rfl, hr8, ho8⟩; have HJ8 := hZ9 ((HdJ.jok Hb.out).go _ _ _ _ _ HJ2.out hr8 ho8); clear hr8 ho8 HJ2 HWc k7; go_wp2_with fail
     first | exact HX.out _ HJ8.out | (refine bodyPost_ret (results_none rfl _ _ _) rfl ?_; exact HX.out _ HJ8.out) | (go_end0; exact HX.out _ HJ8.out)
  ·have hs1 : s1 = s := HS0.out (by omega); subst hs1; go_wp2_with fail
   have HJ3 := HJ2; have Hrt3 := Hrt2; clear HJ2 Hrt2 f0 f1 f2 q0 q1 q2 q3 q4 q5 qx qr HFl hpos; generalize w2 = w3 at *; obtain ⟨A0, c0, hrow0, -⟩ := HJ3.out.row; dsimp only at hrow0; obtain ⟨q0, q1, q2, q3, q4, q5⟩ := facts6 hrow0; have qf := froz4 hrow0; have qx := (cell_of_row _ _ 0 _ _ _ HJ3.out.r1).trans rfl; have x1 : xb ≠ b1 := Hb.out.x1; have x2 : b1 ≠ xb := Ne.symm Hb.out.x1; have hwk : IntKind.i64.wrap (ka + 1) = ka + 1 := IntWalk.i64_in _ (by omega); have hi6 : (i : Int) ≤ 6 := by omega
   clear hrow0; go_wp2_with fail
   go_region_with (fail)
   all_goals
    have HJ4 := hZ9 ((HdJ.aggSet (ag2 := ka + 1) (co2 := (i : Int)) Hb.out HJ3.out (by omega) (by omega)).on Hb.out (below_drewN _ 1 _)); have hrt4 : (((w3.setCell ⟨xb, 2, none⟩ (.int .i64 (ka + 1))).setCell ⟨xb, 3, none⟩ (.int .i64 (i : Int))).drewN 1).heap[w1.heap.size]? = some (.cells #[.int .i64 1, .string (bytes qt), .int .i64 qa] 178 (0, 0)) := (World.heap_setCells_other' Hxw.out).trans ((World.heap_setCells_other' Hxw.out).trans Hrt3.out); clear q0 q1 q2 q3 q4 q5 qf qx hwk HJ3 Hrt3; obtain ⟨f0, f1, f2⟩ := facts3 hrt4; have k4 := (cell_of_row _ _ 0 _ _ _ HJ4.out.r0).trans rfl; change Exit.then _ _ _ _ (((w3.setCell ⟨xb, 2, none⟩ (.int .i64 (ka + 1))).setCell ⟨xb, 3, none⟩ (.int .i64 (i : Int))).drewN 1)
    clear hrt4; generalize ((w3.setCell ⟨xb, 2, none⟩ (.int .i64 (ka + 1))).setCell ⟨xb, 3, none⟩ (.int .i64 (i : Int))).drewN 1 = w4 at *; go_wp2_with fail
    refine (HWa.out _ HJ4.out.rd).mono ?_; rintro e w5 ⟨rfl, hr5, ho5⟩; have HJ5 := hZ9 ((HdJ.jok Hb.out).go _ _ _ _ _ HJ4.out hr5 ho5); clear hr5 ho5 HJ4 HWa f0 f1 f2 k4; have k5 := (cell_of_row _ _ 0 _ _ _ HJ5.out.r0).trans rfl; go_wp2_with fail
    refine (HWb.out _ HJ5.out.rd).mono ?_; rintro e w6 ⟨rfl, hr6, ho6⟩; have HJ6 := hZ9 ((HdJ.jok Hb.out).go _ _ _ _ _ HJ5.out hr6 ho6); clear hr6 ho6 HJ5 HWb k5; go_wp2_with fail
    obtain ⟨A', c', hrow, hown⟩ := HJ6.out.row; have hr0 := HJ6.out.r0; have hr1 := HJ6.out.r1; dsimp only at hrow hown; have hcs : (#[Value.string rel, .slice A' i c', .int .i64 (ka + 1), .int .i64 (i : Int), .slice none 0 0, .int .i64 pos] : Array Value)[1]? = some (.slice A' i c') := rfl; have hcs1 : 1 < (#[Value.string rel, .slice A' i c', .int .i64 (ka + 1), .int .i64 (i : Int), .slice none 0 0, .int .i64 pos] : Array Value).size := by simp
    have hjn : ∀ (V : World) (A2 : Option Addr) (c2 : Nat), V.heap[xb]? = some (.cells #[.string rel, .slice A' i c', .int .i64 (ka + 1), .int .i64 (i : Int), .slice none 0 0, .int .i64 pos] 56 (0, 0)) → V.heap[b0]? = some (.cells #[.pointer (some ⟨g, 0, none⟩)] 93 (0, 0)) → V.heap[b1]? = some (.cells #[.pointer (some ⟨xb, 0, none⟩)] 185 (0, 0)) → Out (g :: (Value.slice A' i c').ownBlock.toList) w6 V →
     V.ownsRow N0 75 4 (.slice A2 (i + 1) c2) (i + 1) (args.flatMap GTold.cells ++ (⟨bytes tx, gv0⟩ : GTold).cells) → Rd B g A c T E s2 V → HdJ B g A c T E w xb b0 b1 N0 rel pos (i + 1) (s2, ⟨args ++ [⟨bytes tx, gv0⟩], ka + 1, i⟩) (V.setCell ⟨xb, 1, none⟩ (.slice A2 (i + 1) c2)) := fun V A2 c2 g1 g2 g3 g4 e2 e4 => HdJ.push (s2 := s2) (V := V) (A2 := A2) (c2 := c2) Hb.out HJ6.out.out HJ6.out.len HJ6.out.ok ⟨HTo.out, GV.ok_zero⟩ HJ6.out.n0 HJ6.out.agg HJ6.out.col hown g1 g2 g3 g4 HwN.out e2 e4
    have hNw := HJ6.out.n0
    have hnm : ∀ b, b < N0 → b ∉ (Value.slice A' i c').ownBlock.toList := fun b hb hm => by
     have := (own_blk hown (b := b) (by simpa using hm)).1; omega
    have hSn : ∀ b ∈ (Value.slice A' i c').ownBlock.toList, N0 ≤ b := fun b hb => (own_blk hown (b := b) (by simpa using hb)).1
    have hbl : ∀ b, w6.heap.size ≤ b → b ∉ (Value.slice A' i c').ownBlock.toList := fun b hb hm => by
     have := (own_blk hown (b := b) (by simpa using hm)).2; omega
    have HC := hZ9 (fun (V : World) (hB : Below w6.heap.size w6 V) => HTk.out V (HJ6.out.rd.on hB)); generalize hxs : args.flatMap GTold.cells = xs at hown hjn; generalize hcq : (#[Value.string rel, .slice A' i c', .int .i64 (ka + 1), .int .i64 (i : Int), .slice none 0 0, .int .i64 pos] : Array Value) = cs at hrow hcs hcs1 hjn; clear hcq hxs HTk HTo e1
    refine drawn2 mixed 14 72 [56, 57, 58, 59, 60, 61, 62, 63, 64, 65, 66, 67, 68, 69] (fun j V => (V.heap[xb]? = some (.cells cs 56 (0, 0)) ∧ V.heap[b0]? = some (.cells #[.pointer (some ⟨g, 0, none⟩)] 93 (0, 0)) ∧ V.heap[b1]? = some (.cells #[.pointer (some ⟨xb, 0, none⟩)] 185 (0, 0)) ∧ Out (g :: (Value.slice A' i c').ownBlock.toList) w6 V) ∧ (j = 10 → V.ownsRow N0 75 4 (.slice A' i c') i xs) ∧ (j = 7 → Below w6.heap.size w6 V ∧ V.heap.size = w6.heap.size)) (hd9F B g A c T E xb N0 i A' c' xs s2 ⟨bytes tx, gv0⟩ w6)
     (fun j V V' => if j = 10 then Out (Value.slice A' i c').ownBlock.toList V V' else if j = 9 then Below V.heap.size V V' else if j = 7 then Out [g] V V' ∧ V.heap.size = w6.heap.size else V' = V) rfl (by kernel_rfl) (by kernel_rfl) rfl (fun j _ => ⟨⟨hrow, hr0, hr1, Out.of_below (below_drewN w6 1 _) _⟩, fun _ => own_below hown (below_drewN w6 1 _), fun _ => ⟨below_drewN w6 1 _, rfl⟩⟩) ?_ ?_ ?_ ?_
    ·intro k j v V V' hij hil hj hF hRr; by_cases ha : j = 10
     ·subst ha; simp only [if_true] at hRr; match k, hF with
      | 0, h => exact h
      | 1, h => exact h
      | 2, h => exact h
      | 3, h => exact h
      | 4, h => exact h
      | 5, h => exact h
      | 6, h => exact h
      | 7, ⟨h1, h2⟩ => exact ⟨h1, h2.out hRr (fun b hb _ => by have := hSn b hb; omega)⟩
      | 8, h => exact h
      | 9, ⟨b, h1, h2, h3⟩ => exact ⟨b, h1, (hRr.block _ (glt h2) (hbl b h3)).trans h2, h3⟩
      | 10, _ => exact absurd rfl hij
      | 11, h => exact h
      | 12, h => exact h
      | 13, h => exact h
      | _ + 14, _ => exact trivial
     rw [if_neg ha] at hRr; by_cases hb : j = 9
     ·subst hb; simp only [if_true] at hRr; match k, hF with
      | 0, h => exact h
      | 1, h => exact h
      | 2, h => exact h
      | 3, h => exact h
      | 4, h => exact h
      | 5, h => exact h
      | 6, h => exact h
      | 7, ⟨h1, h2⟩ => exact ⟨h1, h2.on hRr⟩
      | 8, h => exact h
      | 9, _ => exact absurd rfl hij
      | 10, ⟨A2, c2, h1, h2, h3, h4⟩ => exact ⟨A2, c2, h1, own_below h2 hRr, Nat.lt_of_lt_of_le h3 hRr.size, h4.on hRr⟩
      | 11, h => exact h
      | 12, h => exact h
      | 13, h => exact h
      | _ + 14, _ => exact trivial
     rw [if_neg hb] at hRr; by_cases hc : j = 7
     ·subst hc; simp only [if_true] at hRr; obtain ⟨-, hsz⟩ := hRr; match k, hF with
      | 0, h => exact h
      | 1, h => exact h
      | 2, h => exact h
      | 3, h => exact h
      | 4, h => exact h
      | 5, h => exact h
      | 6, h => exact h
      | 7, _ => exact absurd rfl hij
      | 8, h => exact h
      | 9, ⟨b, h1, h2, h3⟩ => have := (glt h2); omega
      | 10, ⟨A2, c2, h1, h2, h3, h4⟩ => omega
      | 11, h => exact h
      | 12, h => exact h
      | 13, h => exact h
      | _ + 14, _ => exact trivial
     rw [if_neg hc] at hRr; subst hRr; exact hF
    ·intro k j V V' hij hil hj hanc hG hRr; obtain ⟨⟨g1, g2, g3, g4⟩, g5, g6⟩ := hG; by_cases ha : k = 10
     ·subst ha; simp only [if_true] at hRr; refine ⟨⟨(hRr.block _ (glt g1) (hnm _ hN1)).trans g1, (hRr.block _ (glt g2) (hnm _ hN2)).trans g2, (hRr.block _ (glt g3) (hnm _ hN3)).trans g3, g4.trans hRr (fun _ h _ => List.mem_cons_of_mem _ h)⟩, fun e => absurd e (Ne.symm hij), fun e => absurd (by subst e; exact of_decide_eq_true (by kernel_rfl)) hanc⟩
     rw [if_neg ha] at hRr; by_cases hb : k = 9
     ·subst hb; simp only [if_true] at hRr; refine ⟨⟨(hRr.block _ (glt g1)).trans g1, (hRr.block _ (glt g2)).trans g2, (hRr.block _ (glt g3)).trans g3, g4.trans (Out.of_below hRr []) (fun _ h _ => by cases h)⟩, fun e => own_below (g5 e) hRr, fun e => absurd (by subst e; exact of_decide_eq_true (by kernel_rfl)) hanc⟩
     rw [if_neg hb] at hRr; by_cases hc : k = 7
     ·subst hc; simp only [if_true] at hRr; obtain ⟨ho, -⟩ := hRr; refine ⟨⟨(ho.block _ (glt g1) (by simpa using hxg)).trans g1, (ho.block _ (glt g2) (by simpa using h0g)).trans g2, (ho.block _ (glt g3) (by simpa using h1g)).trans g3, g4.trans ho (fun b h _ => by simp at h; simp [h])⟩, fun e => own_out' (g5 e) ho (fun b hb hb' => hnm g hgN (by simp at hb'; rw [← hb']; simpa using hb)), fun e => absurd e (Ne.symm hij)⟩
     rw [if_neg hc] at hRr; subst hRr; exact ⟨⟨g1, g2, g3, g4⟩, g5, g6⟩
    ·intro k o a' V hil ho hd' hold hGi hGL hw; have t1 : a'.tmps[1]? = some (.pointer (some ⟨b0, 0, none⟩)) := hold 1 (by kernel_rfl); have t2 : a'.tmps[2]? = some (.pointer (some ⟨b1, 0, none⟩)) := hold 2 (by kernel_rfl); obtain ⟨⟨g1, g2, g3, g4⟩, g5, g6⟩ := hGi; clear hold; match k, hil, ho with
     | 0, _, ho =>
       injection ho with ho; subst ho
       exact op_val _ (by simp [execOp, Act.eval, t2, run_loadP Tryz.underlying185 ((cell_of_row _ _ 0 _ _ _ g3).trans rfl)]) ⟨_, rfl, by simp, rfl⟩
     | 1, _, ho =>
       injection ho with ho; subst ho
       exact op_val _ (by simp [execOp, Act.eval, t2, run_loadP Tryz.underlying185 ((cell_of_row _ _ 0 _ _ _ g3).trans rfl)]) ⟨_, rfl, by simp, rfl⟩
     | 2, _, ho =>
       injection ho with ho; subst ho
       obtain ⟨v0, v0h, v0e⟩ := hw 1 57 (by kernel_rfl); obtain rfl : v0 = _ := v0e; exact op_val _ (by simp [execOp, Act.eval, v0h, go_sem]) ⟨_, rfl, by simp, rfl⟩
     | 3, _, ho =>
       injection ho with ho; subst ho
       obtain ⟨v0, v0h, v0e⟩ := hw 2 58 (by kernel_rfl); obtain rfl : v0 = _ := v0e; exact op_val _ (by simp [execOp, Act.eval, v0h, go_sem]) ⟨_, rfl, by simp, rfl⟩
     | 4, _, ho =>
       injection ho with ho; subst ho
       obtain ⟨v0, v0h, v0e⟩ := hw 3 59 (by kernel_rfl); obtain rfl : v0 = _ := v0e; exact op_val _ (by simp [execOp, Act.eval, v0h, go_sem]) ⟨_, rfl, by simp, rfl⟩
     | 5, _, ho =>
       injection ho with ho; subst ho
       obtain ⟨v0, v0h, v0e⟩ := hw 4 60 (by kernel_rfl); obtain rfl : v0 = _ := v0e; exact op_val _ (by simp [execOp, Act.eval, v0h, run_load1 Tryz.underlying51 ((cell_of_row _ _ 1 _ _ _ g1).trans hcs)]) ⟨_, rfl, by simp, rfl⟩
     | 6, _, ho =>
       injection ho with ho; subst ho
       exact op_val _ (by simp [execOp, Act.eval, t1, run_loadP Tryz.underlying93 ((cell_of_row _ _ 0 _ _ _ g2).trans rfl)]) ⟨_, rfl, by simp, rfl⟩
     | 7, _, ho =>
       injection ho with ho; subst ho
       obtain ⟨v0, v0h, v0e⟩ := hw 6 62 (by kernel_rfl); obtain rfl : v0 = _ := v0e; obtain ⟨q1, q2⟩ := g6 rfl; refine op_call 85 _ rfl rfl #[.pointer (some ⟨g, 0, none⟩), .int .i64 3] (by simp [Act.eval, v0h]) _ Tryz.func85 (by kernel_rfl) (by kernel_rfl) ((HC.out V q1).mono ?_); rintro r w' ⟨rfl, q3, q4⟩; exact ⟨_, rfl, _, rfl, by simp [q4, q2], rfl, q3⟩
     | 8, _, ho =>
       injection ho with ho; subst ho
       obtain ⟨v0, v0h, v0e, v0r⟩ := hw 7 63 (by kernel_rfl); obtain rfl : v0 = _ := v0e; exact op_build 75 _ rfl [(0, .string (bytes tx))] (GTold.cells ⟨bytes tx, gv0⟩).toArray (by simp [Act.eval, v0h]) (by kernel_rfl) ⟨_, rfl, by simp, rfl⟩
     | 9, _, ho =>
       injection ho with ho; subst ho
       obtain ⟨v0, v0h, v0e⟩ := hw 8 64 (by kernel_rfl); obtain rfl : v0 = _ := v0e; refine op_bslice 51 75 1 _ rfl 4 [toldV ⟨bytes tx, gv0⟩] Tryz.underlying51 (by kernel_rfl) (by decide) rfl (by decide) (by decide) (by simp [Act.eval, v0h]) (by simp [Value.cells]) ?_; simp only [List.flatMap_cons, List.flatMap_nil, List.append_nil, Value.cells]; exact ⟨_, rfl, by rw [if_neg (by decide), if_pos trivial]; exact belowA (Below.refl _ _) _, _, rfl, heapNew rfl, g4.size⟩
     | 10, _, ho =>
       injection ho with ho; subst ho
       obtain ⟨v0, v0h, v0e⟩ := hw 5 61 (by kernel_rfl); obtain rfl : v0 = _ := v0e; obtain ⟨v1, v1h, bb, v1e, v1b, v1z⟩ := hw 9 65 (by kernel_rfl); obtain rfl : v1 = _ := v1e; obtain ⟨vc, vch, vce, vcr⟩ := hw 7 63 (by kernel_rfl); obtain rfl : vc = _ := vce; obtain ⟨A2, c2, w', k1, k2, k3, k4⟩ := push_more (P := Tryz.prog) (ty := 51) V Tryz.underlying51 term_info rfl (by decide) (g5 rfl) bb (GTold.cells ⟨bytes tx, gv0⟩) rfl v1b (by simp [GTold.cells, Value.oneCell']) (by simp [maxLen]; omega) (by omega) (Nat.le_trans hNw g4.size); have hbl2 := (glt v1b)
       exact op_append _ _ _ rfl _ _ (eval_tmp v0h) (eval_tmp v1h) k1 ⟨_, rfl, by simpa using k3, A2, c2, rfl, k2, Nat.lt_of_lt_of_le (by omega) k3.size, vcr.out k3 (fun b hb _ => by have := hSn b hb; omega)⟩
     | 11, _, ho =>
       injection ho with ho; subst ho
       obtain ⟨v0, v0h, v0e⟩ := hw 0 56 (by kernel_rfl); obtain rfl : v0 = _ := v0e; exact op_val _ (by simp [execOp, Act.eval, v0h, go_sem]) ⟨_, rfl, by simp, rfl⟩
     | 12, _, ho =>
       injection ho with ho; subst ho
       obtain ⟨v0, v0h, v0e⟩ := hw 11 67 (by kernel_rfl); obtain rfl : v0 = _ := v0e; exact op_val _ (by simp [execOp, Act.eval, v0h, go_sem]) ⟨_, rfl, by simp, rfl⟩
     | 13, _, ho =>
       injection ho with ho; subst ho
       obtain ⟨v0, v0h, v0e⟩ := hw 12 68 (by kernel_rfl); obtain rfl : v0 = _ := v0e; exact op_val _ (by simp [execOp, Act.eval, v0h, go_sem]) ⟨_, rfl, by simp, rfl⟩
     | n + 14, hil, _ => omega
    ·intro o u V ho hGL hw; have e0 := hw 13 69 (by decide) (by kernel_rfl); obtain ⟨A2, c2, e1, e2, -, e4⟩ := hw 10 66 (by decide) (by kernel_rfl); replace e0 : u 69 = .pointer (some ⟨xb, 1, none⟩) := e0; obtain ⟨⟨g1, g2, g3, g4⟩, -, -⟩ := hGL; clear hw; injection ho with ho; subst ho
     simp only [List.foldl_cons, List.foldl_nil, Act.put, List.setIfInBounds_toArray, List.set_cons_zero, List.set_cons_succ]; rw [e0, e1]; refine op_skip (w' := V.setCell ⟨xb, 1, none⟩ (.slice A2 (i + 1) c2)) (by simp [execOp, Act.eval, run_store1 (A := A2) (n := i + 1) (c := c2) (P := Tryz.prog) (ty := 51) (by kernel_rfl) g1 hcs1]) ?_; clear e0 e1; simp only [Act.put]; have HJ2 := hZ9 (hjn V A2 c2 g1 g2 g3 g4 e2 e4); clear g1 g2 g3 g4 e2 e4; generalize V.setCell ⟨xb, 1, none⟩ (.slice A2 (i + 1) c2) = V2 at *; have k7 := (cell_of_row _ _ 0 _ _ _ HJ2.out.r0).trans rfl; go_wp2_with fail
     refine (HWc.out _ HJ2.out.rd).mono ?_; rintro e w8 ⟨rfl, hr8, ho8⟩; have HJ8 := hZ9 ((HdJ.jok Hb.out).go _ _ _ _ _ HJ2.out hr8 ho8); clear hr8 ho8 HJ2 HWc k7; go_wp2_with fail
     first | exact HX.out _ HJ8.out | (refine bodyPost_ret (results_none rfl _ _ _) rfl ?_; exact HX.out _ HJ8.out) | (go_end0; exact HX.out _ HJ8.out)
end
end Go.Proofs.YtaeedepojpablaaGreatDoor
