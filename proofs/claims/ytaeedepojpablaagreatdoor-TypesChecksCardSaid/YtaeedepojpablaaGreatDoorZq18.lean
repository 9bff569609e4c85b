/- My own texts PaCm, as far as this claim needs them. -/
import Derived.Test.YtaeedepojpablaaGreatDoorZq16
import Derived.Test.YtaeedepojpablaaGreatDoorZq17
set_option linter.unusedVariables false
set_option linter.unusedSimpArgs false
set_option maxRecDepth 1000000
set_option maxHeartbeats 16000000
namespace Go.Proofs.YtaeedepojpablaaGreatDoor
open Go.RowKit
theorem sgnN_le2 (t : List UInt8) : sgnN t ≤ 6 := by
 unfold sgnN; repeat' split
 all_goals decide
section
variable {B g : Nat} {A : Option Addr} {c : Nat} {T : List GTok} {E : Nat}
abbrev nH : Hd := ⟨none, 0, 0⟩
structure CmJ (B g : Nat) (A : Option Addr) (c : Nat) (T : List GTok) (E : Nat) (w : World) (lb : Nat) (s : PS) (x : GLit) (p q : Hd) (W : World) : Prop where
 rd : Rd B g A c T E s W
 out : Out [g, lb] w W
 row : W.heap[lb]? = some (.cells (litC x nH p q).toArray 80 (0, 0))
 far : ∃ d, SliceFar (Enc.exp d) W (List.range w.heap.size) p.A p.n p.c x.l.kids ∧ SliceFar (Enc.exp d) W (List.range w.heap.size) q.A q.n q.c x.r.kids
 k : fits x.k ∧ fits x.op ∧ fits x.pos
 l : fits x.l.op ∧ toldOk x.l.t
 r : fits x.r.op ∧ toldOk x.r.t
theorem CmJ.go {w W W' : World} {lb : Nat} {s s' : PS} {x : GLit} {p q : Hd} (h : CmJ B g A c T E w lb s x p q W) (hg : g < w.heap.size) (hlg : lb ≠ g) (hr : Rd B g A c T E s' W') (ho : Out [g] W W') : CmJ B g A c T E w lb s' x p q W' := by
 obtain ⟨d, h1, h2⟩ := h.far
 exact ⟨hr, h.out.trans ho (fun b hb _ => by simp at hb; simp [hb]), (ho.block _ (glt h.row) (by simpa using hlg)).trans h.row,
  ⟨d, SliceFar.out h1 ho (fun b hb _ => List.mem_range.2 (by simp at hb; omega)) (fun _ h _ => h), SliceFar.out h2 ho (fun b hb _ => List.mem_range.2 (by simp at hb; omega)) (fun _ h _ => h)⟩, h.k, h.l, h.r⟩
theorem CmJ.on {w W W' : World} {lb : Nat} {s : PS} {x : GLit} {p q : Hd} (h : CmJ B g A c T E w lb s x p q W) (hg : g < w.heap.size) (hlg : lb ≠ g) (hb : Below W.heap.size W W') : CmJ B g A c T E w lb s x p q W' :=
 h.go hg hlg (h.rd.on hb) (Out.of_below hb [g])
theorem CmJ.set {w W W' : World} {lb : Nat} {s : PS} {x x' : GLit} {p q p' q' : Hd} (h : CmJ B g A c T E w lb s x p q W) (hl : lb < w.heap.size) (hB : B ≤ lb) (ho : Out [lb] W W') (hrow : W'.heap[lb]? = some (.cells (litC x' nH p' q').toArray 80 (0, 0)))
 (hf : ∃ d, SliceFar (Enc.exp d) W (List.range w.heap.size) p'.A p'.n p'.c x'.l.kids ∧ SliceFar (Enc.exp d) W (List.range w.heap.size) q'.A q'.n q'.c x'.r.kids) (hk : fits x'.k ∧ fits x'.op ∧ fits x'.pos) (hx : fits x'.l.op ∧ toldOk x'.l.t) (hy : fits x'.r.op ∧ toldOk x'.r.t) : CmJ B g A c T E w lb s x' p' q' W' := by
 obtain ⟨d, h1, h2⟩ := hf
 exact ⟨h.rd.out ho (fun b hb _ => by simp at hb; omega), h.out.trans ho (fun b hb _ => by simp at hb; simp [hb]), hrow,
  ⟨d, SliceFar.out h1 ho (fun b hb _ => List.mem_range.2 (by simp at hb; omega)) (fun _ h _ => h), SliceFar.out h2 ho (fun b hb _ => List.mem_range.2 (by simp at hb; omega)) (fun _ h _ => h)⟩, hk, hx, hy⟩
theorem far_max {d1 d2 : Nat} {W : World} {S : List Nat} {A1 : Option Addr} {n1 c1 : Nat} {l1 : List GExp} (h : SliceFar (Enc.exp d1) W S A1 n1 c1 l1) (hd : d1 ≤ d2) : SliceFar (Enc.exp d2) W S A1 n1 c1 l1 := kids_up hd h
def LitPost (B g : Nat) (A : Option Addr) (c : Nat) (T : List GTok) (E : Nat) (lb : Nat) (y : PS × GLit) (w : World) (e : Ending) (w' : World) : Prop := e = .returned (.tuple #[]) ∧ ∃ p q, CmJ B g A c T E w lb y.1 y.2 p q w'
theorem set6at (W : World) (b o : Nat) (v0 v1 v2 v3 v4 v5 : Value) : Out [b] W ((((((W.setCell ⟨b, o, none⟩ v0).setCell ⟨b, o + 1, none⟩ v1).setCell ⟨b, o + 2, none⟩ v2).setCell ⟨b, o + 3, none⟩ v3).setCell ⟨b, o + 4, none⟩ v4).setCell ⟨b, o + 5, none⟩ v5) :=
 out_next (out_next (out_next (out_next (out_next (set_out _ _ _ _) (set_out _ _ _ _)) (set_out _ _ _ _)) (set_out _ _ _ _)) (set_out _ _ _ _)) (set_out _ _ _ _)
theorem rcompared_any {s : PS} {w : World} {lb p : Nat} (h : Rd B g A c T E s w) (hBl : B ≤ lb) (hlg : lb ≠ g) (hp : p ≤ E) (hd : s.deep = 0) (hx : w.heap[lb]? = some (.cells (litC ⟨1, ⟨⟨#[]⟩, []⟩, 0, zE, zE, p⟩ nH nH nH).toArray 80 (0, 0))) :
 Calls Tryz.prog 135 #[.pointer (some ⟨g, 0, none⟩), .pointer (some ⟨lb, 0, none⟩)] w (LitPost B g A c T E lb (comparedP T E p s) w) := by
 have mixed : Tryz.prog.follows .mixedOrders = true := by kernel_rfl
 have hgl := h.glt; have hll := (glt hx)
 have hW := h.within; have hp4 := Nat.le_trans hp h.elen; have fp : fits (p : Int) := (fits_iff _).2 ⟨by omega, by omega⟩; obtain ⟨x, Hx⟩ : ∃ x, Hid (x = sumP T E 20 s) := ⟨_, rfl⟩
 have HS1 := hZ9 (fun (W : World) (hR : Rd B g A c T E s W) => rsum_any 20 s W hR (by omega)); rw [← Hx.out] at HS1; have hJ0 : CmJ B g A c T E w lb s ⟨1, ⟨⟨#[]⟩, []⟩, 0, zE, zE, p⟩ nH nH w := ⟨h, Out.refl _ _, hx, ⟨0, SliceFar.nil, SliceFar.nil⟩, ⟨fits_1, f_lit0, fp⟩, ⟨f_lit0, toldOk_z⟩, ⟨f_lit0, toldOk_z⟩⟩
 have ho1 := set_out w lb 0 (.int .i64 3); have HJ1 := hZ9 (hJ0.set (x' := ⟨3, ⟨⟨#[]⟩, []⟩, 0, zE, zE, p⟩) (p' := nH) (q' := nH) hll hBl ho1 (by simp [World.setCell, Array.getElem?_modify, hx]) ⟨0, SliceFar.nil, SliceFar.nil⟩ ⟨fits_3, f_lit0, fp⟩ ⟨f_lit0, toldOk_z⟩ ⟨f_lit0, toldOk_z⟩); obtain ⟨c0, c1, c2, c3, c4, c5, c6, c7, c8, c9, c10, c11, c12, c13, c14, c15, c16⟩ := facts17 hx; have cf := froz4 hx; clear hx ho1 hJ0; go_enter Tryz.func135, Tryz.ntmps135
 go_wp2_with fail
 have hz1 : (w.setCell ⟨lb, 0, none⟩ (.int .i64 3)).heap.size = w.heap.size := World.size_setCell'; clear c0 c1 c2 c3 c4 c5 c6 c7 c8 c9 c10 c11 c12 c13 c14 c15 c16 cf; generalize w.setCell ⟨lb, 0, none⟩ (.int .i64 3) = w1 at *; refine (HS1.out _ HJ1.out.rd).mono ?_; rintro e w2 ⟨A1, n1, a1, d1, rfl, hr2, ho2, hf2, ht2, hk2⟩; rw [hz1] at hk2; have HJ2 := hZ9 (HJ1.out.go hgl hlg hr2 ho2); have Hk2 := hZ9 hk2; have Hft2 := hZ9 (And.intro hf2 ht2); obtain ⟨xs, xe⟩ := x; obtain ⟨xo, xt, xk⟩ := xe; dsimp only [GExp.op, GExp.t, GExp.kids] at Hk2 Hft2; clear hr2 ho2 hf2 ht2 hk2 hz1 HJ1; obtain ⟨c0, c1, c2, c3, c4, c5, c6, c7, c8, c9, c10, c11, c12, c13, c14, c15, c16⟩ := facts17 HJ2.out.row; have cf := froz4 HJ2.out.row; dsimp only [GExp.op, GExp.t]; go_wp2_with fail
 have HJ3 := hZ9 (HJ2.out.set (x' := ⟨3, ⟨⟨#[]⟩, []⟩, 0, .mk xo xt xk, zE, p⟩) (p' := ⟨A1, n1, a1⟩) (q' := nH) hll hBl (set6at w2 lb 4 (.int .i64 xo) (.string xt.x) (.int .i64 xt.v.k) (.int .i64 xt.v.n) (.string xt.v.s) (.slice A1 n1 a1)) (by simp [World.setCell, Array.getElem?_modify, HJ2.out.row, zE, zT, gv0, GExp.op, GExp.t]) ⟨d1, Hk2.out, SliceFar.nil⟩ ⟨fits_3, f_lit0, fp⟩ Hft2.out ⟨f_lit0, toldOk_z⟩); clear c0 c1 c2 c3 c4 c5 c6 c7 c8 c9 c10 c11 c12 c13 c14 c15 c16 cf HJ2 Hk2; dsimp only [GExp.op, GExp.t]; generalize (((((w2.setCell ⟨lb, 4, none⟩ (.int .i64 xo)).setCell ⟨lb, 4 + 1, none⟩ (.string xt.x)).setCell ⟨lb, 4 + 2, none⟩ (.int .i64 xt.v.k)).setCell ⟨lb, 4 + 3, none⟩ (.int .i64 xt.v.n)).setCell ⟨lb, 4 + 4, none⟩ (.string xt.v.s)).setCell ⟨lb, 4 + 5, none⟩ (.slice A1 n1 a1) = w3 at *; obtain ⟨q, Hq⟩ : ∃ q, Hid (q = peekP T E xs 0) := ⟨_, rfl⟩
 have HPk := hZ9 (rpeek_any HJ3.out.rd 0 (by omega)); rw [← Hq.out, tokC_eq] at HPk; have HIx := hZ9 (fun (V : World) (hR : Rd B g A c T E xs V) => signs_any hR q.t); obtain ⟨y, Hy⟩ : ∃ y, Hid (y = sumP T E 20 (wantP T E xs q.t)) := ⟨_, rfl⟩
 have HXf : Hid (¬ (q.k = 5 ∧ sgnN q.t ≠ 0) → comparedP T E p s = (failP T xs q.a 2, ⟨3, ⟨⟨#[]⟩, []⟩, sgnN q.t, .mk xo xt xk, zE, p⟩)) := fun hn => by
  unfold comparedP; dsimp only; rw [← Hx.out]; dsimp only; rw [← Hq.out, if_neg hn]
 have HXg : Hid ((q.k = 5 ∧ sgnN q.t ≠ 0) → comparedP T E p s = (if y.1.err = 0 ∧ ¬ (rightE 20 (.mk xo xt xk) = true ∧ rightE 20 y.2 = true) then failP T y.1 p 4 else y.1, ⟨3, ⟨⟨#[]⟩, []⟩, sgnN q.t, .mk xo xt xk, y.2, p⟩)) := fun hn => by
  unfold comparedP; dsimp only; rw [← Hx.out]; dsimp only; rw [← Hq.out, if_pos hn, ← Hy.out]
 have HFl := hZ9 (fun (V : World) (hR : Rd B g A c T E xs V) => rfail_any hR q.a (by rw [Hq.out]; exact peek_le hR.within xs 0) 2 (by omega)); have HWt := hZ9 (fun (V : World) (hR : Rd B g A c T E xs V) => rwant_any hR (bytes q.t)); rw [show (bytes q.t).toList = q.t from toList_mk q.t] at HWt
 have hdx : xs.deep = 0 := by
  have h1 := (sum_goes hW 20 s h.fine).deep; rw [← Hx.out] at h1; rw [← hd]; exact h1
 have HS2 : Hid (∀ (V : World), Rd B g A c T E (wantP T E xs q.t) V → Calls Tryz.prog 169 #[.pointer (some ⟨g, 0, none⟩)] V (ExpPost B g A c T E y V)) := fun V hR => by
  rw [Hy.out]; refine rsum_any 20 _ V hR ?_; have h1 := (want_goes hW xs q.t HJ3.out.rd.fine).deep; omega
 obtain ⟨sg, Hsg⟩ : ∃ sg : Nat, Hid (sg = sgnN q.t) := ⟨_, rfl⟩
 rw [← Hsg.out] at HXf HXg; simp only [← Hsg.out] at HIx; have hsg6 : sg ≤ 6 := by rw [Hsg.out]; exact sgnN_le2 q.t
 obtain ⟨qk, qt, qa⟩ := q; dsimp only at HPk HIx HXf HXg HFl HWt HS2; clear Hx Hq Hy Hsg h hd HS1; go_wp2_with fail
 refine HPk.out.mono ?_; rintro e w4 ⟨rfl, hb4⟩; have HJ4 := hZ9 (HJ3.out.on hgl hlg (belowA hb4 (.cells #[.int .i64 qk, .string (bytes qt), .int .i64 qa] 178))); have hrt : (w4.alloc (.cells #[.int .i64 qk, .string (bytes qt), .int .i64 qa] 178)).heap[w4.heap.size]? = some (.cells #[.int .i64 qk, .string (bytes qt), .int .i64 qa] 178 (0, 0)) := heapNew rfl; have Hrt := hZ9 hrt; have Hz4 : Hid (w.heap.size ≤ w4.heap.size) := Nat.le_trans HJ3.out.out.size hb4.size; clear hb4 HPk HJ3 hrt; go_wp2_with fail
 have hwk : IntKind.i64.wrap (sg : Int) = (sg : Int) := IntWalk.i64_in _ (by omega)
 go_region_with ((go_at_call 132
                  refine (HIx.out _ (HJ4.out.rd.on (Below.refl _ _).drew)).mono ?_; rintro e w5 ⟨rfl, hb5⟩; have hb6 := (Below.refl (w4.alloc (.cells #[.int .i64 qk, .string (bytes qt), .int .i64 qa] 178)).heap.size (w4.alloc (.cells #[.int .i64 qk, .string (bytes qt), .int .i64 qa] 178))).drew.trans hb5; have HJ5 := hZ9 (HJ4.out.on hgl hlg hb6); have Hrt5 := hZ9 ((hb6.block _ (glt Hrt.out)).trans Hrt.out); obtain ⟨c0, c1, c2, c3, c4, c5, c6, c7, c8, c9, c10, c11, c12, c13, c14, c15, c16⟩ := facts17 HJ5.out.row; have cf := froz4 HJ5.out.row
                  clear hb5 hb6))
 have fsg : fits (sg : Int) := (fits_iff _).2 ⟨by omega, by omega⟩; obtain ⟨dd, hda, hdb⟩ := HJ5.out.far; have HJ6 := hZ9 (HJ5.out.set (x' := ⟨3, ⟨⟨#[]⟩, []⟩, sg, .mk xo xt xk, zE, p⟩) (p' := ⟨A1, n1, a1⟩) (q' := nH) hll hBl (set_out w5 lb 3 (.int .i64 sg)) (by simp [World.setCell, Array.getElem?_modify, HJ5.out.row]) ⟨dd, hda, hdb⟩ ⟨fits_3, fsg, fp⟩ Hft2.out ⟨f_lit0, toldOk_z⟩); have hrt6 := (World.heap_setCells_other' (v := .int .i64 sg) (i := 3) (show w4.heap.size ≠ lb by have := Hz4.out; omega)).trans Hrt5.out; clear c0 c1 c2 c3 c4 c5 c6 c7 c8 c9 c10 c11 c12 c13 c14 c15 c16 cf HJ5 Hrt5 HJ4 Hrt HIx hda hdb hwk; obtain ⟨f0, f1, f2⟩ := facts3 hrt6; clear hrt6; generalize w5.setCell ⟨lb, 3, none⟩ (.int .i64 sg) = w6 at *; obtain ⟨c0, c1, c2, c3, c4, c5, c6, c7, c8, c9, c10, c11, c12, c13, c14, c15, c16⟩ := facts17 HJ6.out.row; have cf := froz4 HJ6.out.row; by_cases hc : qk = 5 ∧ sg ≠ 0
 rotate_left
 ·have HX2 := hZ9 (HXf.out hc)
  have hcase : qk ≠ 5 ∨ (qk = 5 ∧ sg = 0) := by
   by_cases hk : qk = 5
   ·exact .inr ⟨hk, Classical.byContradiction fun hn => hc ⟨hk, hn⟩⟩
   ·exact .inl hk
  clear hc HXf HXg HWt HS2; rcases hcase with hk | ⟨rfl, rfl⟩
  ·have e1 : (qk != 5) = true := by simp [hk]
   clear hk; go_wp2_with fail
   refine (HFl.out _ HJ6.out.rd).mono ?_; rintro e w7 ⟨rfl, hr7, ho7⟩; have HJ7 := hZ9 (HJ6.out.go hgl hlg hr7 ho7); clear hr7 ho7 HJ6 HFl c0 c1 c2 c3 c4 c5 c6 c7 c8 c9 c10 c11 c12 c13 c14 c15 c16 cf
   have hfin : Hid (LitPost B g A c T E lb (comparedP T E p s) w (.returned (.tuple #[])) w7) := by
    show LitPost _ _ _ _ _ _ _ _ _ _ _; rw [HX2.out]; exact ⟨rfl, _, _, HJ7.out⟩
   go_wp2_with fail
   first | exact hfin.out | (go_end0; exact hfin.out) | (refine bodyPost_ret (results_none rfl _ _ _) rfl ?_; exact hfin.out)
  ·have e1 : ((5 : Int) != 5) = false := rfl; go_wp2_with fail
   refine (HFl.out _ HJ6.out.rd).mono ?_; rintro e w7 ⟨rfl, hr7, ho7⟩; have HJ7 := hZ9 (HJ6.out.go hgl hlg hr7 ho7); clear hr7 ho7 HJ6 HFl c0 c1 c2 c3 c4 c5 c6 c7 c8 c9 c10 c11 c12 c13 c14 c15 c16 cf
   have hfin : Hid (LitPost B g A c T E lb (comparedP T E p s) w (.returned (.tuple #[])) w7) := by
    show LitPost _ _ _ _ _ _ _ _ _ _ _; rw [HX2.out]; exact ⟨rfl, _, _, HJ7.out⟩
   go_wp2_with fail
   first | exact hfin.out | (go_end0; exact hfin.out) | (refine bodyPost_ret (results_none rfl _ _ _) rfl ?_; exact hfin.out)
 ·have HX2 := hZ9 (HXg.out hc); obtain ⟨rfl, hs0⟩ := hc; have e1 : ((5 : Int) != 5) = false := rfl; have e2 : ((sg : Int) == 0) = false := by rw [beq_eq_false_iff_ne]; omega
  clear HXf HXg HFl hs0; go_wp2_with fail
  refine (HWt.out _ HJ6.out.rd).mono ?_; rintro e w7 ⟨rfl, hr7, ho7⟩; have HJ7 := hZ9 (HJ6.out.go hgl hlg hr7 ho7); clear hr7 ho7 HJ6 HWt c0 c1 c2 c3 c4 c5 c6 c7 c8 c9 c10 c11 c12 c13 c14 c15 c16 cf f0 f1 f2 e1 e2; go_wp2_with fail
  refine (HS2.out _ HJ7.out.rd).mono ?_; rintro e w8 ⟨A2, n2, a2, d2, rfl, hr8, ho8, hf8, ht8, hk8⟩; have hk9 := SliceFar.out (U := List.range w.heap.size) hk8 (Out.refl [] _) (fun _ h _ => by cases h) (fun b hb _ => List.mem_range.2 (by have := List.mem_range.1 hb; have := HJ7.out.out.size; omega)); have HJ8 := hZ9 (HJ7.out.go hgl hlg hr8 ho8); have Hk8 := hZ9 hk9; have Hft8 := hZ9 (And.intro hf8 ht8); obtain ⟨ys, ye⟩ := y; obtain ⟨yo, yt, yk⟩ := ye; dsimp only [GExp.op, GExp.t, GExp.kids] at Hk8 Hft8; clear hr8 ho8 hf8 ht8 hk8 hk9 HJ7 HS2; obtain ⟨c0, c1, c2, c3, c4, c5, c6, c7, c8, c9, c10, c11, c12, c13, c14, c15, c16⟩ := facts17 HJ8.out.row; have cf := froz4 HJ8.out.row; obtain ⟨g0, g1, g2, g3, g4, g5⟩ := HJ8.out.rd.cells
  have HJ9 := hZ9 (HJ8.out.set (x' := ⟨3, ⟨⟨#[]⟩, []⟩, sg, .mk xo xt xk, .mk yo yt yk, p⟩) (p' := ⟨A1, n1, a1⟩) (q' := ⟨A2, n2, a2⟩) hll hBl (set6at w8 lb 10 (.int .i64 yo) (.string yt.x) (.int .i64 yt.v.k) (.int .i64 yt.v.n) (.string yt.v.s) (.slice A2 n2 a2)) (by simp [World.setCell, Array.getElem?_modify, HJ8.out.row, zE, zT, gv0, GExp.op, GExp.t])
   (by obtain ⟨da, ha, -⟩ := HJ8.out.far
       exact ⟨max da d2, far_max ha (Nat.le_max_left _ _), far_max Hk8.out (Nat.le_max_right _ _)⟩) ⟨fits_3, fsg, fp⟩ Hft2.out Hft8.out)
  dsimp only [GExp.op, GExp.t]; by_cases hye : ys.err = 0
  rotate_left
  ·have e3 : (ys.err == 0) = false := by simp [hye]
   go_wp2_with fail
   clear HJ8 Hk8 c0 c1 c2 c3 c4 c5 c6 c7 c8 c9 c10 c11 c12 c13 c14 c15 c16 cf g0 g1 g2 g3 g4 g5
   have hfin : Hid (LitPost B g A c T E lb (comparedP T E p s) w (.returned (.tuple #[])) ((((((w8.setCell ⟨lb, 10, none⟩ (.int .i64 yo)).setCell ⟨lb, 10 + 1, none⟩ (.string yt.x)).setCell ⟨lb, 10 + 2, none⟩ (.int .i64 yt.v.k)).setCell ⟨lb, 10 + 3, none⟩ (.int .i64 yt.v.n)).setCell ⟨lb, 10 + 4, none⟩ (.string yt.v.s)).setCell ⟨lb, 10 + 5, none⟩ (.slice A2 n2 a2))) := by
    show LitPost _ _ _ _ _ _ _ _ _ _ _; rw [HX2.out, if_neg (fun hn => hye hn.1)]; exact ⟨rfl, _, _, HJ9.out⟩
   first | exact hfin.out | (go_end0; exact hfin.out) | (refine bodyPost_ret (results_none rfl _ _ _) rfl ?_; exact hfin.out)
  ·have e3 : (ys.err == 0) = true := by simp [hye]
   go_wp2_with fail
   dsimp only [GExp.op, GExp.t]; clear HJ8 Hk8 c0 c1 c2 c3 c4 c5 c6 c7 c8 c9 c10 c11 c12 c13 c14 c15 c16 cf g0 g1 g2 g3 g4 g5; generalize (((((w8.setCell ⟨lb, 10, none⟩ (.int .i64 yo)).setCell ⟨lb, 10 + 1, none⟩ (.string yt.x)).setCell ⟨lb, 10 + 2, none⟩ (.int .i64 yt.v.k)).setCell ⟨lb, 10 + 3, none⟩ (.int .i64 yt.v.n)).setCell ⟨lb, 10 + 4, none⟩ (.string yt.v.s)).setCell ⟨lb, 10 + 5, none⟩ (.slice A2 n2 a2) = w9 at *; obtain ⟨de, hde, hdf⟩ := HJ9.out.far; have HR1 := hZ9 (rightExp_any (.mk xo xt xk) A1 n1 a1 de w9 hde.is Hft2.out.2.1 HJ9.out.rd.par.lex); have HR2 := hZ9 (fun (V : World) (hB : Below w9.heap.size w9 V) => rightExp_any (.mk yo yt yk) A2 n2 a2 de V (SliceIs.keep hdf.is hB) Hft8.out.2.1 (HJ9.out.rd.par.lex.on hB)); clear hde hdf; generalize hb1 : rightE 20 (.mk xo xt xk) = b1 at *; generalize hb2 : rightE 20 (.mk yo yt yk) = b2 at *; try dsimp only at HX2
   try rw [hb2] at HX2
   refine HR1.out.mono ?_; rintro e wa ⟨rfl, hba⟩; have HBa := hZ9 hba; have HJa := hZ9 (HJ9.out.on hgl hlg hba); clear hba HR1 HJ9; have HFl2 := hZ9 (fun (V : World) (hR : Rd B g A c T E ys V) => rfail_any hR p hp 4 (by omega)); cases b1 with
   | false =>
     obtain ⟨c0, c1, c2, c3, c4, c5, c6, c7, c8, c9, c10, c11, c12, c13, c14, c15, c16⟩ := facts17 HJa.out.row; clear HR2 HBa; go_wp2_with fail
     refine (HFl2.out _ HJa.out.rd).mono ?_; rintro e wz ⟨rfl, hrz, hoz⟩; have HJz := hZ9 (HJa.out.go hgl hlg hrz hoz); clear hrz hoz c0 c1 c2 c3 c4 c5 c6 c7 c8 c9 c10 c11 c12 c13 c14 c15 c16 HJa HFl2
     have hfin : Hid (LitPost B g A c T E lb (comparedP T E p s) w (.returned (.tuple #[])) wz) := by
      show LitPost _ _ _ _ _ _ _ _ _ _ _; rw [HX2.out, if_pos ⟨hye, by simp⟩]; exact ⟨rfl, _, _, HJz.out⟩
     go_wp2_with fail
     first | exact hfin.out | (go_end0; exact hfin.out) | (refine bodyPost_ret (results_none rfl _ _ _) rfl ?_; exact hfin.out)
   | true =>
     obtain ⟨c0, c1, c2, c3, c4, c5, c6, c7, c8, c9, c10, c11, c12, c13, c14, c15, c16⟩ := facts17 HJa.out.row; go_wp2_with fail
     clear c0 c1 c2 c3 c4 c5 c6 c7 c8 c9 c10 c11 c12 c13 c14 c15 c16; refine (HR2.out _ HBa.out).mono ?_; rintro e wb ⟨rfl, hbb⟩; have HJb := hZ9 (HJa.out.on hgl hlg hbb); clear hbb HR2 HJa HBa; obtain ⟨c0, c1, c2, c3, c4, c5, c6, c7, c8, c9, c10, c11, c12, c13, c14, c15, c16⟩ := facts17 HJb.out.row; cases b2 with
     | false =>
       go_wp2_with fail
       refine (HFl2.out _ HJb.out.rd).mono ?_; rintro e wz ⟨rfl, hrz, hoz⟩; have HJz := hZ9 (HJb.out.go hgl hlg hrz hoz); clear hrz hoz c0 c1 c2 c3 c4 c5 c6 c7 c8 c9 c10 c11 c12 c13 c14 c15 c16 HJb HFl2
       have hfin : Hid (LitPost B g A c T E lb (comparedP T E p s) w (.returned (.tuple #[])) wz) := by
        show LitPost _ _ _ _ _ _ _ _ _ _ _; rw [HX2.out, if_pos ⟨hye, by simp⟩]; exact ⟨rfl, _, _, HJz.out⟩
       go_wp2_with fail
       first | exact hfin.out | (go_end0; exact hfin.out) | (refine bodyPost_ret (results_none rfl _ _ _) rfl ?_; exact hfin.out)
     | true =>
       go_wp2_with fail
       have hfin : Hid (LitPost B g A c T E lb (comparedP T E p s) w (.returned (.tuple #[])) wb) := by
        show LitPost _ _ _ _ _ _ _ _ _ _ _; rw [HX2.out, if_neg (fun hn => hn.2 (by simp))]; exact ⟨rfl, _, _, HJb.out⟩
       first | exact hfin.out | (go_end0; exact hfin.out) | (refine bodyPost_ret (results_none rfl _ _ _) rfl ?_; exact hfin.out)
end
end Go.Proofs.YtaeedepojpablaaGreatDoor
