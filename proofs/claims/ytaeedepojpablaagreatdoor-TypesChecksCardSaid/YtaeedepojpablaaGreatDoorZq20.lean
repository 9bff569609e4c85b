/- My own texts PaRu, as far as this claim needs them. -/
import Derived.Test.YtaeedepojpablaaGreatDoorZq19
set_option linter.unusedVariables false
set_option linter.unusedSimpArgs false
set_option maxRecDepth 1000000
set_option maxHeartbeats 16000000
namespace Go.Proofs.YtaeedepojpablaaGreatDoor
open Go.RowKit
section
variable {α : Type} {E : Enc α}
theorem Rows.pushG {b1 eT g : Nat} {W0 W : World} {A A' : Option Addr} {k c c' : Nat} {L : List (α × List Value)} {vcs : List Value} {x : α} (h : Rows E b1 eT W0 A k c L) (hb : b1 ≤ W0.heap.size) (hg : g < b1)
 (hown : W.ownsRow b1 eT E.sz (.slice A' (k + 1) c') (k + 1) (L.flatMap (·.2) ++ vcs)) (hblk : ∀ b, (Value.slice A' (k + 1) c').ownBlock = some b → b ∈ (Value.slice A k c).ownBlock.toList ∨ W0.heap.size ≤ b) (ho : Out (g :: (Value.slice A k c).ownBlock.toList) W0 W)
 (hx : E.ok (sans W (List.range W0.heap.size ++ (Value.slice A' (k + 1) c').ownBlock.toList)) W.heap.size vcs x) : Rows E b1 eT W A' (k + 1) c' (L ++ [(x, vcs)]) := by
 refine ⟨by simpa using hown, by simp [h.len], fun p hp => ?_⟩; rcases List.mem_append.1 hp with hp | hp
 ·refine E.mono ho.size (ho.kept (fun b hb _ => ?_) (fun b hb hl => ?_)) (h.far p hp)
  ·rcases List.mem_cons.1 hb with rfl | hb
   ·exact List.mem_append_left _ (List.mem_range.2 hg)
   ·exact List.mem_append_right _ hb
  ·rcases List.mem_append.1 hb with hb | hb
   ·exact List.mem_append_left _ hb
   ·rcases hblk b (by simpa using hb) with h1 | h1
    ·exact List.mem_append_right _ h1
    ·omega
 ·obtain rfl : p = (x, vcs) := by simpa using hp
  refine E.mono (Nat.le_refl _) ((Out.refl [] W).kept (fun _ h _ => by cases h) (fun b hb' _ => ?_)) hx; rcases List.mem_append.1 hb' with hb' | hb'
  ·exact List.mem_append_left _ (List.mem_range.2 (by have := List.mem_range.1 hb'; omega))
  ·exact List.mem_append_right _ hb'
theorem Rows.up {E' : Enc α} {b1 eT : Nat} {W : World} {A : Option Addr} {k c : Nat} {L : List (α × List Value)} (hs : E'.sz = E.sz) (hok : ∀ w B cs x, E.ok w B cs x → E'.ok w B cs x) (h : Rows E b1 eT W A k c L) : Rows E' b1 eT W A k c L :=
 ⟨by rw [hs]; exact h.own, h.len, fun p hp => hok _ _ _ _ (h.far p hp)⟩
end
theorem lit_up {d d' : Nat} (hd : d ≤ d') {w : World} {B : Nat} {cs : List Value} {x : GLit} (h : (Enc.lit d).ok w B cs x) : (Enc.lit d').ok w B cs x := by
 obtain ⟨a, p, q, h1, h2⟩ := h; exact ⟨a, p, q, h1, h2.up hd⟩
section
variable {B g : Nat} {A : Option Addr} {c : Nat} {T : List GTok} {E : Nat}
structure RuJ (B g : Nat) (A : Option Addr) (c : Nat) (T : List GTok) (E : Nat) (w : World) (xb Nh b1 : Nat) (rel : ByteArray) (y : PH) (pos : Nat) (k : Nat) (x : PS × List GLit) (W : World) : Prop where
 rd : Rd B g A c T E x.1 W
 deep : x.1.deep = 0
 out : Out [g] w W
 len : x.2.length = k
 row : ∃ d Aa na ca A' c' L, W.heap[xb]? = some (.cells #[.string rel, .slice Aa na ca, .int .i64 y.agg, .int .i64 y.col, .slice A' k c', .int .i64 pos] 56 (0, 0)) ∧ Rows (Enc.lit d) b1 80 W A' k c' L ∧ L.map (·.1) = x.2 ∧ SliceIs Enc.told (sans W (List.range Nh)) b1 Aa na ca y.args
 rr : W.heap[w.heap.size]? = some (.cells zrC.toArray 56 (0, 0))
 b1 : b1 ≤ W.heap.size
structure RuB (B g : Nat) (w : World) (xb Nh b1 : Nat) : Prop where
 B : B ≤ w.heap.size
 g : g < w.heap.size
 x : w.heap.size < xb
 N : xb < Nh
 b : Nh ≤ b1
theorem RuJ.go {w : World} {xb Nh b1 : Nat} {rel : ByteArray} {y : PH} {pos k : Nat} {x : PS × List GLit} {W W' : World} {s' : PS} (hb : RuB B g w xb Nh b1) (h : RuJ B g A c T E w xb Nh b1 rel y pos k x W) (hr : Rd B g A c T E s' W') (ho : Out [g] W W') (hd : s'.deep = x.1.deep) : RuJ B g A c T E w xb Nh b1 rel y pos k (s', x.2) W' := by
 obtain ⟨d, Aa, na, ca, A', c', L, h1, h2, h3, h4⟩ := h.row; have hg := hb.g; have hx := hb.x; have hN := hb.N; have hbb := hb.b; have hb1 := h.b1; refine ⟨hr, by dsimp only; rw [hd]; exact h.deep, out_next h.out ho, h.len, ⟨d, Aa, na, ca, A', c', L, (ho.block _ (glt h1) (by simp; omega)).trans h1, h2.out ho (fun b hb _ => by simp at hb; omega), h3, ?_⟩, (ho.block _ (glt h.rr) (by simp; omega)).trans h.rr, Nat.le_trans h.b1 ho.size⟩; refine h4.mono' (Nat.le_refl _) (fun b hb2 cs t fr hcs hc => ?_); obtain ⟨hn, hw⟩ := sans_in hcs hc; have hn' : ¬ b < Nh := fun hlt => hn (List.mem_range.2 hlt)
 rw [sans_out hn, ho.block b (by omega) (by simp; omega), hw]
theorem RuJ.on {w : World} {xb Nh b1 : Nat} {rel : ByteArray} {y : PH} {pos k : Nat} {x : PS × List GLit} {W W' : World} (hb : RuB B g w xb Nh b1) (h : RuJ B g A c T E w xb Nh b1 rel y pos k x W) (hB : Below W.heap.size W W') : RuJ B g A c T E w xb Nh b1 rel y pos k x W' :=
 h.go hb (h.rd.on hB) (Out.of_below hB [g]) rfl
theorem RuJ.push {w w2 V : World} {xb Nh b1 : Nat} {rel : ByteArray} {y : PH} {pos k : Nat} {s s2 : PS} {ls : List GLit} {z : GLit} {d : Nat} {Aa A' A2 : Option Addr} {na ca c' c2 : Nat} {L : List (GLit × List Value)} {vcs : List Value} (hb : RuB B g w xb Nh b1) (h : RuJ B g A c T E w xb Nh b1 rel y pos k (s, ls) w2)
 (hR : Rows (Enc.lit d) b1 80 w2 A' k c' L) (hL : L.map (·.1) = ls) (hA : SliceIs Enc.told (sans w2 (List.range Nh)) b1 Aa na ca y.args)
 (hrd : Rd B g A c T E s2 V) (hd : s2.deep = 0) (hx : ∃ d2, (Enc.lit d2).ok (sans V (List.range w2.heap.size ++ (Value.slice A2 (k + 1) c2).ownBlock.toList)) V.heap.size vcs z)
 (hown : V.ownsRow b1 80 17 (.slice A2 (k + 1) c2) (k + 1) (L.flatMap (·.2) ++ vcs)) (hblk : ∀ b, (Value.slice A2 (k + 1) c2).ownBlock = some b → b ∈ (Value.slice A' k c').ownBlock.toList ∨ w2.heap.size ≤ b) (ho : Out (g :: (Value.slice A' k c').ownBlock.toList) w2 V)
 (hrow : V.heap[xb]? = some (.cells #[.string rel, .slice Aa na ca, .int .i64 y.agg, .int .i64 y.col, .slice A' k c', .int .i64 pos] 56 (0, 0))) :
 RuJ B g A c T E w xb Nh b1 rel y pos (k + 1) (s2, ls ++ [z]) (V.setCell ⟨xb, 4, none⟩ (.slice A2 (k + 1) c2)) := by
 obtain ⟨d2, hx⟩ := hx; have hB := hb.B; have hg := hb.g; have hxx := hb.x; have hN := hb.N; have hbb := hb.b; have hb1 := h.b1; have hSn : ∀ b ∈ (Value.slice A' k c').ownBlock.toList, b1 ≤ b := fun b hb => (own_blk hR.own (b := b) (by simpa using hb)).1
 have hoS := set_out V xb 4 (.slice A2 (k + 1) c2); have hR2 : Rows (Enc.lit (max d d2)) b1 80 w2 A' k c' L := Rows.up (E := Enc.lit d) (E' := Enc.lit (max d d2)) rfl (fun w B cs x h => lit_up (Nat.le_max_left d d2) h) hR; have hP := hR2.pushG (g := g) h.b1 (by omega) hown hblk ho (lit_up (Nat.le_max_right _ _) hx); have hP2 := hP.out hoS (fun b hb _ => by simp at hb; omega); refine ⟨hrd.out hoS (fun b hb _ => by simp at hb; omega), hd, ?_, by simp [← hL, hR.len], ⟨max d d2, Aa, na, ca, A2, c2, L ++ [(z, vcs)], by simp [World.setCell, Array.getElem?_modify, hrow], hP2, by simp [hL], ?_⟩, ?_, ?_⟩
 ·exact (h.out.trans ho (fun b hb hl => by
   rcases List.mem_cons.1 hb with rfl | hb
   ·simp
   ·have := hSn b hb; omega)).trans hoS (fun b hb hl => by simp at hb; omega)
 ·refine hA.mono' (Nat.le_refl _) (fun b hb2 cs t fr hcs hc => ?_); obtain ⟨hn, hw⟩ := sans_in hcs hc; have hn' : ¬ b < Nh := fun hlt => hn (List.mem_range.2 hlt)
  rw [sans_out hn, World.heap_setCells_other' (by omega), ho.block b (by omega) (by
   simp only [List.mem_cons, not_or]
   exact ⟨by omega, fun hm => by have := hSn b hm; omega⟩), hw]
 ·exact (World.heap_setCells_other' (by omega)).trans ((ho.block _ (glt h.rr) (by
   simp only [List.mem_cons, not_or]
   exact ⟨by omega, fun hm => by have := hSn _ hm; omega⟩)).trans h.rr)
 ·rw [World.size_setCell']; exact Nat.le_trans h.b1 ho.size
def RuleRes (B g : Nat) (A : Option Addr) (c : Nat) (T : List GTok) (E : Nat) (y : PS × GRule) (w : World) (e : Ending) (w' : World) : Prop :=
 ∃ d a b, e = .returned (.agg (ruleC y.2 a b).toArray) ∧ Rd B g A c T E y.1 w' ∧ Out [g] w w' ∧ RuleAt d (sans w' (List.range w.heap.size)) w'.heap.size y.2 a b
theorem litT_info : (Tryz.prog.info? 80).map (fun i => (i.zero, i.size, i.bytes)) = some (some (.agg zLit.toArray), 17, 224) := by kernel_rfl
theorem rrule_any {s : PS} {w : World} (h : Rd B g A c T E s w) (hd : s.deep = 0) : Calls Tryz.prog 54 #[.pointer (some ⟨g, 0, none⟩)] w (RuleRes B g A c T E (ruleP T E s) w) := by
 have mixed : Tryz.prog.follows .mixedOrders = true := by kernel_rfl
 have hB := h.size; have hgl := h.glt; have hW := h.within; obtain ⟨p, Hp⟩ : ∃ p, Hid (p = (peekP T E s 0).a) := ⟨_, rfl⟩
 have hp4 : p ≤ 4000 := by rw [Hp.out]; exact peek_le2 h 0
 have fp : fits (p : Int) := (fits_iff _).2 ⟨by omega, by omega⟩; obtain ⟨hh, Hh⟩ : ∃ hh, Hid (hh = headP T E s) := ⟨_, rfl⟩
 obtain ⟨Z, HZ⟩ : ∃ Z, Hid (Z = bodyP T E hh.1) := ⟨_, rfl⟩
 have HX : Hid (ruleP T E s = (wantP T E Z.1 [46], ⟨⟨bytes (takeT T E s 2), hh.2.args⟩, hh.2.agg, hh.2.col, Z.2, p⟩)) := by
  show _ = _; unfold ruleP; dsimp only; rw [HZ.out, Hh.out, Hp.out]
 have hdh : hh.1.deep = 0 := by
  have h1 := (head_goes hW s h.fine).deep; rw [Hh.out, ← hd]; exact h1
 have Hlen : Hid ((bytes (takeT T E s 2)).size ≤ reachN) := takeT_len h s 2; obtain ⟨rel, Hrel⟩ : ∃ rel, Hid (rel = bytes (takeT T E s 2)) := ⟨_, rfl⟩
 have HHd := hZ9 (fun (V : World) (hR : Rd B g A c T E s V) (xb : Nat) (hBx : B ≤ xb) (hxg : xb ≠ g) hx => rhead_any (pos := (p : Int)) hR hBx hxg hx); rw [← Hh.out, ← Hrel.out] at HHd; rw [← Hrel.out] at HX Hlen; have HPl := hZ9 (fun (V : World) (hR : Rd B g A c T E s V) => rplace_any hR); rw [← Hp.out] at HPl; have t582 : (⟨#[58, 45]⟩ : ByteArray).toList = [58, 45] := toList_mk _; have t46 : (⟨#[46]⟩ : ByteArray).toList = [46] := toList_mk _; have t44 : (⟨#[44]⟩ : ByteArray).toList = [44] := toList_mk _; have HM1 := hZ9 (fun (V : World) (hR : Rd B g A c T E hh.1 V) => rmay_any hR ⟨#[58, 45]⟩); rw [t582] at HM1; have HM2 := hZ9 (fun (s' : PS) (V : World) (hR : Rd B g A c T E s' V) => rmay_any hR ⟨#[44]⟩); rw [t44] at HM2; have HWt := hZ9 (fun (V : World) (hR : Rd B g A c T E Z.1 V) => rwant_any hR ⟨#[46]⟩); rw [t46] at HWt; have HD9 : Hid (∀ V, Rd B g A c T E Z.1 V → (wantP T E Z.1 [46]).deep = Z.1.deep) := fun V hR => (want_goes hW Z.1 [46] hR.fine).deep
 generalize wantP T E Z.1 [46] = s9 at *; have HF0 := hZ9 ((Fr.start h).alloc (.cells zrC.toArray 56)); obtain ⟨P, HP⟩ : ∃ P : Ending → World → Prop, Hid (P = RuleRes B g A c T E (ruleP T E s) w) := ⟨_, rfl⟩
 rw [← HP.out]; clear h t582 t46 t44 Hp Hh Hrel hd; go_enter Tryz.func54, Tryz.ntmps54
 go_wp2_with fail
 refine (HPl.out _ HF0.out.rd).mono ?_; rintro e w1 ⟨rfl, hb1⟩; have hG1 := HF0.out.on hb1; have hz0 := (glt (hG1.row (p := (w.heap.size, Obj.cells zrC.toArray 56 (0, 0))) (by simp)))
 dsimp only at hz0; have HF1 := hZ9 (hG1.alloc (.cells #[.string ⟨#[]⟩, .slice none 0 0, .int .i64 0, .int .i64 0, .slice none 0 0, .int .i64 p] 56)); clear hb1 hG1 HPl HF0; go_wp2_with fail
 refine (HHd.out _ HF1.out.rd w1.heap.size (by omega) (by omega) (HF1.out.row (p := (w1.heap.size, Obj.cells #[.string ⟨#[]⟩, .slice none 0 0, .int .i64 0, .int .i64 0, .slice none 0 0, .int .i64 p] 56 (0, 0))) (by simp))).mono ?_; rintro e w2 ⟨rfl, hr2, ho2, hag, hco, Aa, na, ca, hrow2, hfa⟩; have hrr2 := (ho2.block _ (by simp; omega) (by simp; omega)).trans (HF1.out.row (p := (w.heap.size, Obj.cells zrC.toArray 56 (0, 0))) (by simp))
 have hout2 : Out [g] w w2 := HF1.out.out.trans ho2 (fun b hb hl => by
  simp only [List.mem_cons, List.not_mem_nil, or_false] at hb; rcases hb with rfl | rfl
  ·simp
  ·omega)
 have hz2 := ho2.size; simp only [World.size_alloc] at hz2; have hRB : RuB B g w w1.heap.size (w1.heap.size + 1) w2.heap.size := ⟨hB, hgl, hz0, by omega, hz2⟩
 have hJ0 : RuJ B g A c T E w w1.heap.size (w1.heap.size + 1) w2.heap.size rel hh.2 p 0 (hh.1, []) w2 :=
  ⟨hr2, hdh, hout2, rfl, ⟨0, Aa, na, ca, none, 0, [], hrow2, Rows.nil _ _ _, rfl, by unfold SliceFar at hfa; rw [World.size_alloc] at hfa; exact hfa⟩, hrr2, Nat.le_refl _⟩
 have HJ0 := hZ9 hJ0; have Hag := hZ9 (And.intro hag hco); clear hr2 ho2 hag hco hrow2 hfa hrr2 hout2 hJ0 HF1 HHd; go_wp2_with fail
 refine (HM1.out _ HJ0.out.rd).mono ?_; rintro e w3 ⟨rfl, hr3, ho3⟩; have HD9' := HD9; have fag : fits hh.2.agg := (fits_iff _).2 ⟨by have := Hag.out.1.1; omega, by have := Hag.out.1.2; omega⟩; have fco : fits hh.2.col := (fits_iff _).2 ⟨by have := Hag.out.2.1; omega, by have := Hag.out.2.2; omega⟩; have Hrb := hZ9 hRB; have HDl : Hid (∀ (s' : PS), Fine T E s' → (literalP T E s').1.deep = s'.deep) := fun s' hf => (literal_goes hW s' hf).deep
 cases hc : isP T E hh.1 [58, 45] with
 | false =>
   have hm : mayP T E hh.1 [58, 45] = hh.1 := by unfold mayP; rw [if_neg (by rw [hc]; decide)]
   rw [hm] at hr3; have hZ : (hh.1, []) = Z := by rw [HZ.out]; unfold bodyP; rw [if_neg (by rw [hc]; decide)]
   have hJz : RuJ B g A c T E w w1.heap.size (w1.heap.size + 1) w2.heap.size rel hh.2 p 0 Z w3 := by
    rw [← hZ]; exact RuJ.go hRB HJ0.out hr3 ho3 rfl
   have HJz := hZ9 hJz; clear hm hr3 ho3 hZ hJz HJ0 HM1 HM2 hc HZ HD9'; have HJt := HJz; clear HJz; generalize w3 = wt at *; go_wp2_with fail
   refine (HWt.out _ HJt.out.rd).mono ?_; rintro e w8 ⟨rfl, hr8, ho8⟩; have hJ8 := RuJ.go Hrb.out HJt.out hr8 ho8 (HD9.out _ HJt.out.rd); clear hr8 ho8 HJt HWt; obtain ⟨d, Aa, na, ca, A', c', L, hrow, hR, hL, hA⟩ := hJ8.row; have hrr := hJ8.rr; have hl8 := hJ8.b1; have hrd8 := hJ8.rd; have hout8 := hJ8.out; have hlen8 := hJ8.len; have hk8 : L.length = _ := hR.len; obtain ⟨a0, a1, a2, a3, a4, a5⟩ := facts6 hrow; obtain ⟨r0, r1, r2, r3, r4, r5⟩ := facts6 hrr; have rf := froz4 hrr; have HX3 := HX; have ho9 := set6_out w8 w.heap.size (.string rel) (.slice Aa na ca) (.int .i64 hh.2.agg) (.int .i64 hh.2.col) (.slice A' 0 c') (.int .i64 p); have hR9 := hR.out ho9 (fun b hb _ => by simp at hb; omega); have hbd := hR9.is (base := w.heap.size) (Nat.le_trans (show 0 ≤ 9 by omega) (by decide)) (by omega); rw [hL] at hbd
   have hA9 : SliceIs Enc.told (sans ((((((w8.setCell ⟨w.heap.size, 0, none⟩ (.string rel)).setCell ⟨w.heap.size, 1, none⟩ (.slice Aa na ca)).setCell ⟨w.heap.size, 2, none⟩ (.int .i64 hh.2.agg)).setCell ⟨w.heap.size, 3, none⟩ (.int .i64 hh.2.col)).setCell ⟨w.heap.size, 4, none⟩ (.slice A' 0 c')).setCell ⟨w.heap.size, 5, none⟩ (.int .i64 p)) (List.range w.heap.size)) ((((((w8.setCell ⟨w.heap.size, 0, none⟩ (.string rel)).setCell ⟨w.heap.size, 1, none⟩ (.slice Aa na ca)).setCell ⟨w.heap.size, 2, none⟩ (.int .i64 hh.2.agg)).setCell ⟨w.heap.size, 3, none⟩ (.int .i64 hh.2.col)).setCell ⟨w.heap.size, 4, none⟩ (.slice A' 0 c')).setCell ⟨w.heap.size, 5, none⟩ (.int .i64 p)).heap.size Aa na ca hh.2.args := by
    refine hA.mono' (Nat.le_trans hl8 ho9.size) (fun b hb2 cs t fr hcs hc => ?_); obtain ⟨hn, hw⟩ := sans_in hcs hc; have hn' : ¬ b < w1.heap.size + 1 := fun hlt => hn (List.mem_range.2 hlt)
    rw [sans_out (fun hm => by have := List.mem_range.1 hm; omega), ho9.block b (by omega) (by simp; omega), hw]
   have hfin : Hid (P (.returned (.agg #[.string rel, .slice Aa na ca, .int .i64 hh.2.agg, .int .i64 hh.2.col, .slice A' 0 c', .int .i64 p])) ((((((w8.setCell ⟨w.heap.size, 0, none⟩ (.string rel)).setCell ⟨w.heap.size, 1, none⟩ (.slice Aa na ca)).setCell ⟨w.heap.size, 2, none⟩ (.int .i64 hh.2.agg)).setCell ⟨w.heap.size, 3, none⟩ (.int .i64 hh.2.col)).setCell ⟨w.heap.size, 4, none⟩ (.slice A' 0 c')).setCell ⟨w.heap.size, 5, none⟩ (.int .i64 p))) := by
    show P _ _; rw [HP.out, HX.out]; exact ⟨d, ⟨Aa, na, ca⟩, ⟨A', 0, c'⟩, rfl, hrd8.out ho9 (fun b hb _ => by simp at hb; omega), hout8.trans ho9 (fun b hb hl => by simp at hb; omega), ⟨Hlen.out, hA9, fag, fco, hbd, fp⟩⟩
   clear hrow hR hL hA hrr hl8 hrd8 hout8 hlen8 hk8 hR9 hbd hA9 ho9 hJ8; go_wp2_with fail
   exact bodyPost_ret (v := .agg #[.string rel, .slice Aa na ca, .int .i64 hh.2.agg, .int .i64 hh.2.col, .slice A' 0 c', .int .i64 p]) (by simp [results, Tryz.results54, go_sem, r0, r1, r2, r3, r4, r5]) rfl hfin.out
 | true =>
   have hm : mayP T E hh.1 [58, 45] = hh.1.up := by unfold mayP; rw [if_pos hc]
   rw [hm] at hr3; have hZ : loopP T E 8 (bodyR T E) 9 0 (hh.1.up, []) = Z := by rw [HZ.out]; unfold bodyP; rw [if_pos hc]
   have HZ2 := hZ9 hZ; have HJ1 := hZ9 (RuJ.go hRB HJ0.out hr3 ho3 rfl); clear hm hr3 ho3 hZ HJ0 HM1 hc HZ HD9'; go_wp2_with fail
   go_loopg [4] 10 (fun gk m wr => ∃ (f k : Nat) (x : PS × List GLit), ((m = .bool true ∧ gk = f + 1 ∧ Hid (f + k = 9 ∧ k ≤ 8) ∧ Hid (loopP T E 8 (bodyR T E) f k x = Z)) ∨ (m = .bool false ∧ Hid (x = Z))) ∧ k ≤ 9 ∧ Hid (RuJ B g A c T E w w1.heap.size (w1.heap.size + 1) w2.heap.size rel hh.2 p k x wr))
   case atStart => exact ⟨9, 0, (hh.1.up, []), .inl ⟨rfl, rfl, ⟨rfl, by omega⟩, HZ2.out⟩, by omega, HJ1.out⟩
   case round =>
    clear HJ1 HZ2; obtain ⟨f, k, x, hcase, hk9, HJ⟩ := hrel; rcases hcase with ⟨rfl, hgk, Hf, HL⟩ | ⟨rfl, Hx⟩
    rotate_left
    ·have hx := Hx.out; subst hx; have HJz := HJ; clear Hx HJ; go_wp2_with fail
     have HJt := HJz; clear HJz; generalize wr = wt at *; go_wp2_with fail
     refine (HWt.out _ HJt.out.rd).mono ?_; rintro e w8 ⟨rfl, hr8, ho8⟩; have hJ8 := RuJ.go Hrb.out HJt.out hr8 ho8 (HD9.out _ HJt.out.rd); clear hr8 ho8 HJt HWt; obtain ⟨d, Aa, na, ca, A', c', L, hrow, hR, hL, hA⟩ := hJ8.row; have hrr := hJ8.rr; have hl8 := hJ8.b1; have hrd8 := hJ8.rd; have hout8 := hJ8.out; have hlen8 := hJ8.len; have hk8 : L.length = _ := hR.len; obtain ⟨a0, a1, a2, a3, a4, a5⟩ := facts6 hrow; obtain ⟨r0, r1, r2, r3, r4, r5⟩ := facts6 hrr; have rf := froz4 hrr; have HX3 := HX; have ho9 := set6_out w8 w.heap.size (.string rel) (.slice Aa na ca) (.int .i64 hh.2.agg) (.int .i64 hh.2.col) (.slice A' k c') (.int .i64 p); have hR9 := hR.out ho9 (fun b hb _ => by simp at hb; omega); have hbd := hR9.is (base := w.heap.size) (Nat.le_trans (show k ≤ 9 by omega) (by decide)) (by omega); rw [hL] at hbd
     have hA9 : SliceIs Enc.told (sans ((((((w8.setCell ⟨w.heap.size, 0, none⟩ (.string rel)).setCell ⟨w.heap.size, 1, none⟩ (.slice Aa na ca)).setCell ⟨w.heap.size, 2, none⟩ (.int .i64 hh.2.agg)).setCell ⟨w.heap.size, 3, none⟩ (.int .i64 hh.2.col)).setCell ⟨w.heap.size, 4, none⟩ (.slice A' k c')).setCell ⟨w.heap.size, 5, none⟩ (.int .i64 p)) (List.range w.heap.size)) ((((((w8.setCell ⟨w.heap.size, 0, none⟩ (.string rel)).setCell ⟨w.heap.size, 1, none⟩ (.slice Aa na ca)).setCell ⟨w.heap.size, 2, none⟩ (.int .i64 hh.2.agg)).setCell ⟨w.heap.size, 3, none⟩ (.int .i64 hh.2.col)).setCell ⟨w.heap.size, 4, none⟩ (.slice A' k c')).setCell ⟨w.heap.size, 5, none⟩ (.int .i64 p)).heap.size Aa na ca hh.2.args := by
      refine hA.mono' (Nat.le_trans hl8 ho9.size) (fun b hb2 cs t fr hcs hc => ?_); obtain ⟨hn, hw⟩ := sans_in hcs hc; have hn' : ¬ b < w1.heap.size + 1 := fun hlt => hn (List.mem_range.2 hlt)
      rw [sans_out (fun hm => by have := List.mem_range.1 hm; omega), ho9.block b (by omega) (by simp; omega), hw]
     have hfin : Hid (P (.returned (.agg #[.string rel, .slice Aa na ca, .int .i64 hh.2.agg, .int .i64 hh.2.col, .slice A' k c', .int .i64 p])) ((((((w8.setCell ⟨w.heap.size, 0, none⟩ (.string rel)).setCell ⟨w.heap.size, 1, none⟩ (.slice Aa na ca)).setCell ⟨w.heap.size, 2, none⟩ (.int .i64 hh.2.agg)).setCell ⟨w.heap.size, 3, none⟩ (.int .i64 hh.2.col)).setCell ⟨w.heap.size, 4, none⟩ (.slice A' k c')).setCell ⟨w.heap.size, 5, none⟩ (.int .i64 p))) := by
      show P _ _; rw [HP.out, HX.out]; exact ⟨d, ⟨Aa, na, ca⟩, ⟨A', k, c'⟩, rfl, hrd8.out ho9 (fun b hb _ => by simp at hb; omega), hout8.trans ho9 (fun b hb hl => by simp at hb; omega), ⟨Hlen.out, hA9, fag, fco, hbd, fp⟩⟩
     clear hrow hR hL hA hrr hl8 hrd8 hout8 hlen8 hk8 hR9 hbd hA9 ho9 hJ8; go_wp2_with fail
     exact bodyPost_ret (v := .agg #[.string rel, .slice Aa na ca, .int .i64 hh.2.agg, .int .i64 hh.2.col, .slice A' k c', .int .i64 p]) (by simp [results, Tryz.results54, go_sem, r0, r1, r2, r3, r4, r5]) rfl hfin.out
    ·obtain ⟨f, rfl⟩ : ∃ f', f = f' + 1 := ⟨f - 1, by have := Hf.out; omega⟩
     have HRd := hZ9 HJ.out.rd; obtain ⟨c0, c1, c2, c3, c4, c5⟩ := HRd.out.cells; by_cases he : x.1.err = 0
     rotate_left
     ·have e0 : (x.1.err == 0) = false := by simp [he]
      have hx : x = Z := by have h := HL.out; rw [loopP, if_pos he] at h; exact h
      subst hx; have HJz := HJ; clear HL HJ HM2; go_wp2_with fail
      clear c0 c1 c2 c3 c4 c5 e0 he HRd; have HJt := HJz; clear HJz; generalize wr = wt at *; go_wp2_with fail
      refine (HWt.out _ HJt.out.rd).mono ?_; rintro e w8 ⟨rfl, hr8, ho8⟩; have hJ8 := RuJ.go Hrb.out HJt.out hr8 ho8 (HD9.out _ HJt.out.rd); clear hr8 ho8 HJt HWt; obtain ⟨d, Aa, na, ca, A', c', L, hrow, hR, hL, hA⟩ := hJ8.row; have hrr := hJ8.rr; have hl8 := hJ8.b1; have hrd8 := hJ8.rd; have hout8 := hJ8.out; have hlen8 := hJ8.len; have hk8 : L.length = _ := hR.len; obtain ⟨a0, a1, a2, a3, a4, a5⟩ := facts6 hrow; obtain ⟨r0, r1, r2, r3, r4, r5⟩ := facts6 hrr; have rf := froz4 hrr; have HX3 := HX; have ho9 := set6_out w8 w.heap.size (.string rel) (.slice Aa na ca) (.int .i64 hh.2.agg) (.int .i64 hh.2.col) (.slice A' k c') (.int .i64 p); have hR9 := hR.out ho9 (fun b hb _ => by simp at hb; omega); have hbd := hR9.is (base := w.heap.size) (Nat.le_trans (show k ≤ 9 by omega) (by decide)) (by omega); rw [hL] at hbd
      have hA9 : SliceIs Enc.told (sans ((((((w8.setCell ⟨w.heap.size, 0, none⟩ (.string rel)).setCell ⟨w.heap.size, 1, none⟩ (.slice Aa na ca)).setCell ⟨w.heap.size, 2, none⟩ (.int .i64 hh.2.agg)).setCell ⟨w.heap.size, 3, none⟩ (.int .i64 hh.2.col)).setCell ⟨w.heap.size, 4, none⟩ (.slice A' k c')).setCell ⟨w.heap.size, 5, none⟩ (.int .i64 p)) (List.range w.heap.size)) ((((((w8.setCell ⟨w.heap.size, 0, none⟩ (.string rel)).setCell ⟨w.heap.size, 1, none⟩ (.slice Aa na ca)).setCell ⟨w.heap.size, 2, none⟩ (.int .i64 hh.2.agg)).setCell ⟨w.heap.size, 3, none⟩ (.int .i64 hh.2.col)).setCell ⟨w.heap.size, 4, none⟩ (.slice A' k c')).setCell ⟨w.heap.size, 5, none⟩ (.int .i64 p)).heap.size Aa na ca hh.2.args := by
       refine hA.mono' (Nat.le_trans hl8 ho9.size) (fun b hb2 cs t fr hcs hc => ?_); obtain ⟨hn, hw⟩ := sans_in hcs hc; have hn' : ¬ b < w1.heap.size + 1 := fun hlt => hn (List.mem_range.2 hlt)
       rw [sans_out (fun hm => by have := List.mem_range.1 hm; omega), ho9.block b (by omega) (by simp; omega), hw]
      have hfin : Hid (P (.returned (.agg #[.string rel, .slice Aa na ca, .int .i64 hh.2.agg, .int .i64 hh.2.col, .slice A' k c', .int .i64 p])) ((((((w8.setCell ⟨w.heap.size, 0, none⟩ (.string rel)).setCell ⟨w.heap.size, 1, none⟩ (.slice Aa na ca)).setCell ⟨w.heap.size, 2, none⟩ (.int .i64 hh.2.agg)).setCell ⟨w.heap.size, 3, none⟩ (.int .i64 hh.2.col)).setCell ⟨w.heap.size, 4, none⟩ (.slice A' k c')).setCell ⟨w.heap.size, 5, none⟩ (.int .i64 p))) := by
       show P _ _; rw [HP.out, HX.out]; exact ⟨d, ⟨Aa, na, ca⟩, ⟨A', k, c'⟩, rfl, hrd8.out ho9 (fun b hb _ => by simp at hb; omega), hout8.trans ho9 (fun b hb hl => by simp at hb; omega), ⟨Hlen.out, hA9, fag, fco, hbd, fp⟩⟩
      clear hrow hR hL hA hrr hl8 hrd8 hout8 hlen8 hk8 hR9 hbd hA9 ho9 hJ8; go_wp2_with fail
      exact bodyPost_ret (v := .agg #[.string rel, .slice Aa na ca, .int .i64 hh.2.agg, .int .i64 hh.2.col, .slice A' k c', .int .i64 p]) (by simp [results, Tryz.results54, go_sem, r0, r1, r2, r3, r4, r5]) rfl hfin.out
     have e0 : (x.1.err == 0) = true := by simp [he]
     obtain ⟨d, Aa, na, ca, A', c', L, hrow, hR, hL, hA⟩ := HJ.out.row; obtain ⟨q0, q1, q2, q3, q4, q5⟩ := facts6 hrow; by_cases hk8 : 8 ≤ k
     ·have i1 : (8 : Int) ≤ (k : Int) := by omega
      have HPl2 := hZ9 (rplace_any HRd.out); have HFl := hZ9 (fun (V : World) (hR : Rd B g A c T E x.1 V) => rfail_any hR (peekP T E x.1 0).a (peek_le hR.within _ _) 3 (by omega)); have hx : (failP T x.1 (peekP T E x.1 0).a 3, x.2) = Z := by have h := HL.out; rw [loopP, if_neg (by simp [he]), if_pos hk8] at h; exact h
      have hdf : (failP T x.1 (peekP T E x.1 0).a 3).deep = x.1.deep := (fail_adv (E := E) x.1 HRd.out.fine.next (peek_le HRd.out.within _ _) (by omega)).deep; generalize (peekP T E x.1 0).a = pa at *; clear hR hL hA hrow HL HM2; go_wp2_with fail
      refine (HPl2.out).mono ?_; rintro e w4 ⟨rfl, hb4⟩; have HJ4 := hZ9 (RuJ.on Hrb.out HJ.out hb4); clear hb4 HPl2; go_wp2_with fail
      refine (HFl.out _ HJ4.out.rd).mono ?_; rintro e w5 ⟨rfl, hr5, ho5⟩; have hj5 := RuJ.go Hrb.out HJ4.out hr5 ho5 hdf; rw [hx] at hj5; have HJz := hZ9 hj5; clear hr5 ho5 hj5 HJ4 HJ HFl hx hdf q0 q1 q2 q3 q4 q5 c0 c1 c2 c3 c4 c5; go_wp2_with fail
      have HJt := HJz; clear HJz; generalize w5 = wt at *; go_wp2_with fail
      refine (HWt.out _ HJt.out.rd).mono ?_; rintro e w8 ⟨rfl, hr8, ho8⟩; have hJ8 := RuJ.go Hrb.out HJt.out hr8 ho8 (HD9.out _ HJt.out.rd); clear hr8 ho8 HJt HWt; obtain ⟨d, Aa, na, ca, A', c', L, hrow, hR, hL, hA⟩ := hJ8.row; have hrr := hJ8.rr; have hl8 := hJ8.b1; have hrd8 := hJ8.rd; have hout8 := hJ8.out; have hlen8 := hJ8.len; have hk8 : L.length = _ := hR.len; obtain ⟨a0, a1, a2, a3, a4, a5⟩ := facts6 hrow; obtain ⟨r0, r1, r2, r3, r4, r5⟩ := facts6 hrr; have rf := froz4 hrr; have HX3 := HX; have ho9 := set6_out w8 w.heap.size (.string rel) (.slice Aa na ca) (.int .i64 hh.2.agg) (.int .i64 hh.2.col) (.slice A' k c') (.int .i64 p); have hR9 := hR.out ho9 (fun b hb _ => by simp at hb; omega); have hbd := hR9.is (base := w.heap.size) (Nat.le_trans (show k ≤ 9 by omega) (by decide)) (by omega); rw [hL] at hbd
      have hA9 : SliceIs Enc.told (sans ((((((w8.setCell ⟨w.heap.size, 0, none⟩ (.string rel)).setCell ⟨w.heap.size, 1, none⟩ (.slice Aa na ca)).setCell ⟨w.heap.size, 2, none⟩ (.int .i64 hh.2.agg)).setCell ⟨w.heap.size, 3, none⟩ (.int .i64 hh.2.col)).setCell ⟨w.heap.size, 4, none⟩ (.slice A' k c')).setCell ⟨w.heap.size, 5, none⟩ (.int .i64 p)) (List.range w.heap.size)) ((((((w8.setCell ⟨w.heap.size, 0, none⟩ (.string rel)).setCell ⟨w.heap.size, 1, none⟩ (.slice Aa na ca)).setCell ⟨w.heap.size, 2, none⟩ (.int .i64 hh.2.agg)).setCell ⟨w.heap.size, 3, none⟩ (.int .i64 hh.2.col)).setCell ⟨w.heap.size, 4, none⟩ (.slice A' k c')).setCell ⟨w.heap.size, 5, none⟩ (.int .i64 p)).heap.size Aa na ca hh.2.args := by
       refine hA.mono' (Nat.le_trans hl8 ho9.size) (fun b hb2 cs t fr hcs hc => ?_); obtain ⟨hn, hw⟩ := sans_in hcs hc; have hn' : ¬ b < w1.heap.size + 1 := fun hlt => hn (List.mem_range.2 hlt)
       rw [sans_out (fun hm => by have := List.mem_range.1 hm; omega), ho9.block b (by omega) (by simp; omega), hw]
      have hfin : Hid (P (.returned (.agg #[.string rel, .slice Aa na ca, .int .i64 hh.2.agg, .int .i64 hh.2.col, .slice A' k c', .int .i64 p])) ((((((w8.setCell ⟨w.heap.size, 0, none⟩ (.string rel)).setCell ⟨w.heap.size, 1, none⟩ (.slice Aa na ca)).setCell ⟨w.heap.size, 2, none⟩ (.int .i64 hh.2.agg)).setCell ⟨w.heap.size, 3, none⟩ (.int .i64 hh.2.col)).setCell ⟨w.heap.size, 4, none⟩ (.slice A' k c')).setCell ⟨w.heap.size, 5, none⟩ (.int .i64 p))) := by
       show P _ _; rw [HP.out, HX.out]; exact ⟨d, ⟨Aa, na, ca⟩, ⟨A', k, c'⟩, rfl, hrd8.out ho9 (fun b hb _ => by simp at hb; omega), hout8.trans ho9 (fun b hb hl => by simp at hb; omega), ⟨Hlen.out, hA9, fag, fco, hbd, fp⟩⟩
      clear hrow hR hL hA hrr hl8 hrd8 hout8 hlen8 hk8 hR9 hbd hA9 ho9 hJ8; go_wp2_with fail
      exact bodyPost_ret (v := .agg #[.string rel, .slice Aa na ca, .int .i64 hh.2.agg, .int .i64 hh.2.col, .slice A' k c', .int .i64 p]) (by simp [results, Tryz.results54, go_sem, r0, r1, r2, r3, r4, r5]) rfl hfin.out
     have i1 : ¬ (8 : Int) ≤ (k : Int) := by omega
     obtain ⟨xs, xl⟩ := x; dsimp only at he HL hL HRd c0 c1 c2 c3 c4 c5 e0; obtain ⟨z, Hz⟩ : ∃ z, Hid (z = literalP T E xs) := ⟨_, rfl⟩
     have hdx : xs.deep = 0 := HJ.out.deep; have HC := hZ9 (fun (V : World) (hR : Rd B g A c T E xs V) => rliteral_any hR hdx); rw [← Hz.out] at HC; have hdz : z.1.deep = 0 := by rw [Hz.out, HDl.out xs HRd.out.fine, hdx]
     have hbk : bodyR T E k (xs, xl) = (z.1, xl ++ [z.2]) := by unfold bodyR; rw [← Hz.out]
     have hL2 := HL.out; rw [loopP, if_neg (by simp [he]), if_neg hk8, hbk] at hL2; dsimp only at hL2; have HL2 := hZ9 hL2; have HHJ := HJ; have Hrw := hZ9 hrow; have HR := hZ9 hR; have HLl := hZ9 hL; have HAa := hZ9 hA; have hb1w := HJ.out.b1; have hlL : L.length = k := hR.len; clear hR hL hA hrow HL hL2 hbk HJ Hz; go_wp2_with fail
     clear q0 q1 q2 q3 q4 q5 c0 c1 c2 c3 c4 c5; have hSn : ∀ b ∈ (Value.slice A' k c').ownBlock.toList, w2.heap.size ≤ b := fun b hb => (own_blk HR.out.own (b := b) (by simpa using hb)).1
     have hnm : ∀ b, b < w2.heap.size → b ∉ (Value.slice A' k c').ownBlock.toList := fun b hb hm => by have := hSn b hm; omega
     have hrb2 := Hrb.out.x; have hrb3 := Hrb.out.b
     refine pushC_region (n := 40) 0 mixed rfl rfl (by kernel_rfl) (by kernel_rfl) (by kernel_rfl) w1.heap.size g 4 w2.heap.size 80 17 224 k (.agg zLit.toArray) A' c' (L.flatMap (·.2)) #[.string rel, .slice Aa na ca, .int .i64 hh.2.agg, .int .i64 hh.2.col, .slice A' k c', .int .i64 p] (.pointer (some ⟨g, 0, none⟩)) (.pointer (some ⟨g, 0, none⟩))
      (fun vcs W' => (∃ d2, (Enc.lit d2).ok (sans W' (List.range wr.heap.size)) W'.heap.size vcs z.2) ∧ Rd B g A c T E z.1 W') (fun S vcs W' => (∃ d2, (Enc.lit d2).ok (sans W' (List.range wr.heap.size ++ S)) W'.heap.size vcs z.2) ∧ Rd B g A c T E z.1 W')
      rfl rfl Hrw.out (by omega) ?_ rfl (fun w => by simp [go_sem]) Tryz.underlying54 (by kernel_rfl) litT_info rfl (by decide) (by decide) HR.out.own (hnm _ (by omega)) (hnm _ (by omega)) (by simp [maxLen]; omega) (by omega) hb1w _ Tryz.func90 (by kernel_rfl) (by kernel_rfl) ?_ ?_ ?_ ?_ ?_ ?_
     ·intro a' V hx hbV; simp [execOp, Act.eval, hx, go_sem]
     ·rintro vcs V V' ⟨⟨d2, h1⟩, h2⟩ hb; exact ⟨⟨d2, (Enc.lit d2).mono hb.size ((Out.of_below hb []).kept (fun _ h _ => by cases h) (fun _ h _ => h)) h1⟩, h2.on hb⟩
     ·rintro S vcs V V' ⟨⟨d2, h1⟩, h2⟩ hb; exact ⟨⟨d2, (Enc.lit d2).mono hb.size ((Out.of_below hb []).kept (fun _ h _ => by cases h) (fun _ h _ => h)) h1⟩, h2.on hb⟩
     ·rintro S vcs V V' ⟨⟨d2, h1⟩, h2⟩ hz ho hS; refine ⟨⟨d2, (Enc.lit d2).mono ho.size (ho.kept (T := List.range wr.heap.size) (fun b hb _ => List.mem_range.2 ?_) (fun b hb hl => ?_)) h1⟩, h2.out ho (fun b hb _ => by have := hSn b hb; omega)⟩
      ·exact (own_blk HR.out.own (b := b) (by simpa using hb)).2
      ·rcases List.mem_append.1 hb with hb | hb
       ·exact hb
       ·rcases hS b hb with h3 | h3
        ·exact List.mem_range.2 (own_blk HR.out.own (b := b) (by simpa using h3)).2
        ·omega
     ·rintro vcs V V' ⟨⟨d2, h1⟩, h2⟩ hz ho; exact ⟨⟨d2, (Enc.lit d2).mono ho.size (ho.kept (T := List.range wr.heap.size) (fun b hb _ => List.mem_range.2 (own_blk HR.out.own (b := b) (by simpa using hb)).2) (fun b hb hl => hb)) h1⟩, h2.out ho (fun b hb _ => by have := hSn b hb; omega)⟩
     ·intro V hbV hzV; refine (HC.out V (HRd.out.on hbV)).mono ?_; rintro r V' ⟨d2, a2, p2, q2, rfl, h1, h2, h3⟩; rw [hzV] at h3; exact ⟨litC z.2 a2 p2 q2, rfl, rfl, by simp [Value.oneCell'], ⟨⟨d2, a2, p2, q2, rfl, h3⟩, h1⟩, h2⟩
     ·rintro u V vcs A2 c2 hl ⟨hx, hrd⟩ hown hblk ho hrow; have hJ2 := RuJ.push Hrb.out HHJ.out HR.out HLl.out HAa.out hrd hdz hx hown hblk ho hrow; have HJ2 := hZ9 hJ2; clear hJ2 hx hrd hown hblk ho hrow HHJ HR HLl HAa Hrw HC hSn hnm hl; simp only [List.foldl_cons, List.foldl_nil, Act.put, List.setIfInBounds_toArray, List.set_cons_zero, List.set_cons_succ]; generalize V.setCell ⟨w1.heap.size, 4, none⟩ (.slice A2 (k + 1) c2) = V2 at *; go_wp2_with fail
      refine (HM2.out _ _ HJ2.out.rd).mono ?_; rintro e w6 ⟨rfl, hr6, ho6⟩; cases hcm : isP T E z.1 [44] with
      | true =>
        have hm6 : mayP T E z.1 [44] = z.1.up := by unfold mayP; rw [if_pos hcm]
        rw [hm6] at hr6; have HJ6 := hZ9 (RuJ.go Hrb.out HJ2.out hr6 ho6 rfl); have hL3 := HL2.out; rw [if_pos hcm] at hL3; have HL3 := hZ9 hL3; have Hf3 : Hid (f + (k + 1) = 9 ∧ k + 1 ≤ 8) := ⟨by have := Hf.out; omega, by omega⟩
        clear hr6 ho6 hm6 HJ2 hL3 HL2 hcm; go_wp2_with fail
        go_roundg (f + 1)
        case measure => omega
        case rel => exact ⟨f, k + 1, (z.1.up, xl ++ [z.2]), .inl ⟨rfl, rfl, Hf3, HL3.out⟩, by omega, HJ6.out⟩
      | false =>
        have hm6 : mayP T E z.1 [44] = z.1 := by unfold mayP; rw [if_neg (by rw [hcm]; decide)]
        rw [hm6] at hr6; have HJ6 := hZ9 (RuJ.go Hrb.out HJ2.out hr6 ho6 rfl); have hL3 := HL2.out; rw [if_neg (by rw [hcm]; decide)] at hL3; have HL3 := hZ9 hL3; clear hr6 ho6 hm6 HJ2 hL3 HL2 hcm; go_wp2_with fail
        go_roundg 0
        case measure => omega
        case rel => exact ⟨0, k + 1, (z.1, xl ++ [z.2]), .inr ⟨rfl, HL3.out⟩, by omega, HJ6.out⟩
end
end Go.Proofs.YtaeedepojpablaaGreatDoor
