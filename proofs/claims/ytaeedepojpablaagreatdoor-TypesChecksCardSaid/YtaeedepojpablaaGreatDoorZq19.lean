/- My own texts PaLi, as far as this claim needs them. -/
import Derived.Test.YtaeedepojpablaaGreatDoorZq18
set_option linter.unusedVariables false
set_option linter.unusedSimpArgs false
set_option maxRecDepth 1000000
set_option maxHeartbeats 16000000
namespace Go.Proofs.YtaeedepojpablaaGreatDoor
open Go.RowKit
section
variable {B g : Nat} {A : Option Addr} {c : Nat} {T : List GTok} {E : Nat}
def LitRes (B g : Nat) (A : Option Addr) (c : Nat) (T : List GTok) (E : Nat) (y : PS × GLit) (w : World) (e : Ending) (w' : World) : Prop :=
 ∃ d a p q, e = .returned (.agg (litC y.2 a p q).toArray) ∧ Rd B g A c T E y.1 w' ∧ Out [g] w w' ∧ LitAt d (sans w' (List.range w.heap.size)) w'.heap.size y.2 a p q
structure LtE (B g : Nat) (A : Option Addr) (c : Nat) (T : List GTok) (E : Nat) (w : World) (lb N : Nat) (y : PS × GLit) (W : World) : Prop where
 rd : Rd B g A c T E y.1 W
 out : Out [g] w W
 row : ∃ d a p q, W.heap[lb]? = some (.cells (litC y.2 a p q).toArray 80 (0, 0)) ∧ LitAt d (sans W (List.range N)) W.heap.size y.2 a p q
 rr : W.heap[w.heap.size]? = some (.cells zLit.toArray 80 (0, 0))
theorem LtE.fin {w W : World} {lb N : Nat} {y : PS × GLit} (h : LtE B g A c T E w lb N y W) (hB : B ≤ w.heap.size) (hN : w.heap.size < N) {d : Nat} {a p q : Hd} (hl : LitAt d (sans W (List.range N)) W.heap.size y.2 a p q) (cs : Array Value) (hcs : cs = (litC y.2 a p q).toArray) :
 LitRes B g A c T E y w (.returned (.agg cs)) (W.setRow w.heap.size cs) := by
 subst hcs; have ho : Out [w.heap.size] W (W.setRow w.heap.size (litC y.2 a p q).toArray) := ⟨rfl, rfl, rfl, by rw [setRow_size]; exact Nat.le_refl _, fun x _ hx => setRow_ne (by simpa using hx)⟩
 refine ⟨d, a, p, q, rfl, h.rd.out ho (fun b hb _ => by simp at hb; omega), h.out.trans ho (fun b hb hl => by simp at hb; omega), ?_⟩; refine hl.mono' ho.size (ho.kept (fun b hb _ => List.mem_range.2 (by simp at hb; omega)) (fun b hb _ => List.mem_range.2 (by have := List.mem_range.1 hb; omega)))
theorem lit_sizeT (x : GLit) (a p q : Hd) : (Tryz.prog.info? 80).map (·.size) = some (litC x a p q).length := by
 show _ = some 17; kernel_rfl
theorem lit_infoT : (Tryz.prog.info? 80).map (fun i => (i.zero, i.size)) = some (some (.agg zLit.toArray), zLit.toArray.size) := by kernel_rfl
theorem compared_atom (T : List GTok) (E p : Nat) (s : PS) : (comparedP T E p s).2.atom = ⟨⟨#[]⟩, []⟩ := by
 unfold comparedP; dsimp only; split <;> rfl
theorem rliteral_not {s : PS} {w : World} (h : Rd B g A c T E s w) (_hd : s.deep = 0) (hn : isP T E s [110, 111, 116] = true) : Calls Tryz.prog 90 #[.pointer (some ⟨g, 0, none⟩)] w (LitRes B g A c T E (literalP T E s) w) := by
 have hgl := h.glt; have hB := h.size; have hW := h.within; obtain ⟨q0, Hq0⟩ : ∃ q0, Hid (q0 = peekP T E s 0) := ⟨_, rfl⟩
 obtain ⟨q1, Hq1⟩ : ∃ q1, Hid (q1 = peekP T E s 1) := ⟨_, rfl⟩
 have hqa : q0.a ≤ E := by rw [Hq0.out]; exact peek_le hW s 0
 have hq4 := Nat.le_trans hqa h.elen; have fp : fits (q0.a : Int) := (fits_iff _).2 ⟨by omega, by omega⟩; have tn : (⟨#[110, 111, 116]⟩ : ByteArray).toList = [110, 111, 116] := toList_mk _; have HPl := hZ9 (fun (V : World) (hR : Rd B g A c T E s V) => rplace_any hR); rw [← Hq0.out] at HPl; have HPk0 := hZ9 (fun (V : World) (hR : Rd B g A c T E s V) => rpeek_any hR 0 (by omega)); simp only [← Hq0.out, tokC_eq] at HPk0; have HPk1 := hZ9 (fun (V : World) (hR : Rd B g A c T E s V) => rpeek_any hR 1 (by omega)); simp only [← Hq1.out, tokC_eq] at HPk1; have HM := hZ9 (fun (V : World) (hR : Rd B g A c T E s V) => rmay_any hR ⟨#[110, 111, 116]⟩); rw [tn] at HM; have HF0 := hZ9 ((Fr.start h).alloc (.cells zLit.toArray 80)); obtain ⟨P, HP⟩ : ∃ P : Ending → World → Prop, Hid (P = LitRes B g A c T E (literalP T E s) w) := ⟨_, rfl⟩
 rw [← HP.out]
 have HX1 : Hid (isP T E s [110, 111, 116] = true → literalP T E s = ((atomP T E s.up).1, ⟨2, (atomP T E s.up).2, 0, zE, zE, q0.a⟩)) := fun hn => by
  unfold literalP; dsimp only; rw [if_pos hn, Hq0.out]
 have HX2 : Hid (¬ isP T E s [110, 111, 116] = true → (q0.k = 2 ∧ q1.k = 5 ∧ q1.t = [40]) → literalP T E s = ((atomP T E s).1, ⟨1, (atomP T E s).2, 0, zE, zE, q0.a⟩)) := fun hn hc => by
  unfold literalP; dsimp only; rw [← Hq0.out, ← Hq1.out, if_neg hn, if_pos hc]
 have HX3 : Hid (¬ isP T E s [110, 111, 116] = true → ¬ (q0.k = 2 ∧ q1.k = 5 ∧ q1.t = [40]) → literalP T E s = comparedP T E q0.a s) := fun hn hc => by
  unfold literalP; dsimp only; rw [← Hq0.out, ← Hq1.out, if_neg hn, if_neg hc]
 obtain ⟨k0, t0, a0⟩ := q0; obtain ⟨k1, t1, a1⟩ := q1; dsimp only at HPl HPk0 HPk1 HX1 HX2 HX3 fp hqa hq4; clear h tn Hq0 Hq1; go_enter Tryz.func90, Tryz.ntmps90
 go_wp2_with fail
 refine (HPl.out _ HF0.out.rd).mono ?_; rintro e w1 ⟨rfl, hb1⟩; have HF1 := hZ9 (HF0.out.on hb1); clear hb1 HPl HF0; go_wp2_with (refine wpList_new rfl rfl 80 3 (.tmp 7) rfl rfl rfl rfl _ (litC ⟨1, ⟨⟨#[]⟩, []⟩, 0, zE, zE, a0⟩ nH nH nH).toArray lit_infoT rfl (lit_one _ _ _ _) rfl rfl ?_)
 have HF2 := hZ9 (HF1.out.alloc (.cells (litC ⟨1, ⟨⟨#[]⟩, []⟩, 0, zE, zE, a0⟩ nH nH nH).toArray 80)); have hz1 : w.heap.size < w1.heap.size := (glt (HF1.out.row (p := (w.heap.size, Obj.cells zLit.toArray 80 (0, 0))) (by simp)))
 clear HF1; refine (HPk1.out _ HF2.out.rd).mono ?_; rintro e w2 ⟨rfl, hb2⟩; have HF3 := hZ9 ((HF2.out.on hb2).alloc (.cells #[.int .i64 k1, .string (bytes t1), .int .i64 a1] 178)); clear hb2 HPk1 HF2; go_wp2_with fail
 refine (HM.out _ HF3.out.rd).mono ?_; rintro e w3 ⟨rfl, hr3, ho3⟩; have hF3 := HF3.out.go hr3 ho3; clear hr3 ho3 HF3; have hm : mayP T E s [110, 111, 116] = s.up := by unfold mayP; rw [if_pos hn]
 rw [hm] at hF3; have HF3 := hZ9 hF3; clear hF3 hm HM HPk0; have HA := hZ9 (fun (V : World) (hR : Rd B g A c T E s.up V) => ratom_any hR); obtain ⟨y, Hy⟩ : ∃ y, Hid (y = atomP T E s.up) := ⟨_, rfl⟩
 rw [← Hy.out] at HA; have HX := hZ9 (HX1.out hn); rw [← Hy.out] at HX; obtain ⟨ys, yr, ya⟩ := y; dsimp only at HA HX; clear Hy HX1 HX2 HX3; have hrow := HF3.out.row (p := (w1.heap.size, Obj.cells (litC ⟨1, ⟨⟨#[]⟩, []⟩, 0, zE, zE, a0⟩ nH nH nH).toArray 80 (0, 0))) (by simp); obtain ⟨c0, c1, c2, c3, c4, c5, c6, c7, c8, c9, c10, c11, c12, c13, c14, c15, c16⟩ := facts17 hrow; have cf := froz4 hrow; go_wp2_with fail
 have ho4 := set_out w3 w1.heap.size 0 (.int .i64 2)
 have HF4 := hZ9 (HF3.out.put (L' := [(w1.heap.size, Obj.cells (litC ⟨2, ⟨⟨#[]⟩, []⟩, 0, zE, zE, a0⟩ nH nH nH).toArray 80 (0, 0)), (w.heap.size, Obj.cells zLit.toArray 80 (0, 0))]) (b := w1.heap.size) (by omega) ho4 (fun p hp => by
  simp only [List.mem_cons, List.not_mem_nil, or_false] at hp; rcases hp with rfl | rfl
  ·exact .inr ⟨rfl, by simp [World.setCell, Array.getElem?_modify, hrow]⟩
  ·exact .inl ⟨by simp, by dsimp only; omega⟩) hB)
 clear c0 c1 c2 c3 c4 c5 c6 c7 c8 c9 c10 c11 c12 c13 c14 c15 c16 cf hrow ho4 HF3; generalize w3.setCell ⟨w1.heap.size, 0, none⟩ (.int .i64 2) = w4 at *; refine (HA.out _ HF4.out.rd).mono ?_; rintro e w5 ⟨A', n', c', rfl, hr5, ho5, hre, hfa⟩; have HF5 := hZ9 (HF4.out.go hr5 ho5); have Hfa := hZ9 hfa; have Hre := hZ9 hre; have Hz4 : Hid (w1.heap.size < w4.heap.size) := (glt (HF4.out.row (p := (w1.heap.size, Obj.cells (litC ⟨2, ⟨⟨#[]⟩, []⟩, 0, zE, zE, a0⟩ nH nH nH).toArray 80 (0, 0))) (by simp)))
 clear hr5 ho5 hre hfa HF4 HA; have hrow := HF5.out.row (p := (w1.heap.size, Obj.cells (litC ⟨2, ⟨⟨#[]⟩, []⟩, 0, zE, zE, a0⟩ nH nH nH).toArray 80 (0, 0))) (by simp); obtain ⟨c0, c1, c2, c3, c4, c5, c6, c7, c8, c9, c10, c11, c12, c13, c14, c15, c16⟩ := facts17 hrow; have cf := froz4 hrow; have ho6 : Out [w1.heap.size] w5 ((w5.setCell ⟨w1.heap.size, 1, none⟩ (.string yr)).setCell ⟨w1.heap.size, 2, none⟩ (.slice A' n' c')) := out_next (set_out _ _ _ _) (set_out _ _ _ _); have hrow6 : ((w5.setCell ⟨w1.heap.size, 1, none⟩ (.string yr)).setCell ⟨w1.heap.size, 2, none⟩ (.slice A' n' c')).heap[w1.heap.size]? = some (.cells (litC ⟨2, ⟨yr, ya⟩, 0, zE, zE, a0⟩ ⟨A', n', c'⟩ nH nH).toArray 80 (0, 0)) := by simp [World.setCell, Array.getElem?_modify, hrow]
 have hF6 := HF5.out.put (L' := [(w1.heap.size, Obj.cells (litC ⟨2, ⟨yr, ya⟩, 0, zE, zE, a0⟩ ⟨A', n', c'⟩ nH nH).toArray 80 (0, 0)), (w.heap.size, Obj.cells zLit.toArray 80 (0, 0))]) (b := w1.heap.size) (by omega) ho6 (fun p hp => by
  simp only [List.mem_cons, List.not_mem_nil, or_false] at hp; rcases hp with rfl | rfl
  ·exact .inr ⟨rfl, hrow6⟩
  ·exact .inl ⟨by simp, by dsimp only; omega⟩) hB
 have HE := hZ9 (And.intro hrow6 (hF6.row (p := (w.heap.size, Obj.cells zLit.toArray 80 (0, 0))) (by simp)))
 have hla : LitAt 0 (sans ((w5.setCell ⟨w1.heap.size, 1, none⟩ (.string yr)).setCell ⟨w1.heap.size, 2, none⟩ (.slice A' n' c')) (List.range w4.heap.size)) ((w5.setCell ⟨w1.heap.size, 1, none⟩ (.string yr)).setCell ⟨w1.heap.size, 2, none⟩ (.slice A' n' c')).heap.size ⟨2, ⟨yr, ya⟩, 0, zE, zE, a0⟩ ⟨A', n', c'⟩ nH nH :=
  ⟨fits_2, f_lit0, fp, Hre.out, SliceFar.out Hfa.out ho6 (fun b hb _ => List.mem_range.2 (by have := Hz4.out; simp at hb; omega)) (fun _ h _ => h), f_lit0, Nat.zero_le _, GV.ok_zero, SliceIs.nil, f_lit0, Nat.zero_le _, GV.ok_zero, SliceIs.nil⟩
 have HLt : Hid (∀ cs, cs = (litC ⟨2, ⟨yr, ya⟩, 0, zE, zE, a0⟩ ⟨A', n', c'⟩ nH nH).toArray → P (.returned (.agg cs)) (((w5.setCell ⟨w1.heap.size, 1, none⟩ (.string yr)).setCell ⟨w1.heap.size, 2, none⟩ (.slice A' n' c')).setRow w.heap.size cs)) := fun cs hcs => by
  rw [HP.out, HX.out]; exact LtE.fin (y := (ys, ⟨2, ⟨yr, ya⟩, 0, zE, zE, a0⟩)) (lb := w1.heap.size) (N := w4.heap.size) ⟨hF6.rd, hF6.out, ⟨0, ⟨A', n', c'⟩, nH, nH, hrow6, hla⟩, HE.out.2⟩ hB (by have := Hz4.out; omega) hla cs hcs
 clear ho6 hrow6 hF6 hla HF5 Hfa Hre; have hrl := HE.out.1; have hrr := HE.out.2; have Hrl := hZ9 (range_row hrl); have hS := setRow_at (cs' := (litC ⟨2, ⟨yr, ya⟩, 0, zE, zE, a0⟩ ⟨A', n', c'⟩ nH nH).toArray) hrr; obtain ⟨z0, z1, z2, z3, z4, z5, z6, z7, z8, z9, z10, z11, z12, z13, z14, z15, z16⟩ := facts17 hS
 go_wp2_with (first
  | refine wpList_load_mid rfl 80 (.tmp 3) rfl w1.heap.size 0 rfl (litC ⟨2, ⟨yr, ya⟩, 0, zE, zE, a0⟩ ⟨A', n', c'⟩ nH nH) _ Hrl.out Tryz.underlying80 rfl (lit_sizeT _ _ _ _) ?_
  | refine wpList_store_rowTo rfl 80 (.tmp 2) (.tmp 37) rfl rfl w.heap.size (litC ⟨2, ⟨yr, ya⟩, 0, zE, zE, a0⟩ ⟨A', n', c'⟩ nH nH).toArray rfl rfl 80 zLit.toArray hrr (by kernel_rfl) rfl (lit_one _ _ _ _) ?_)
 refine bodyPost_ret (v := .agg (litC ⟨2, ⟨yr, ya⟩, 0, zE, zE, a0⟩ ⟨A', n', c'⟩ nH nH).toArray) ?_ rfl (HLt.out _ rfl); simp [results, Tryz.results90, go_sem, z0, z1, z2, z3, z4, z5, z6, z7, z8, z9, z10, z11, z12, z13, z14, z15, z16]
theorem rliteral_atom {s : PS} {w : World} (h : Rd B g A c T E s w) (_hd : s.deep = 0) (hn : isP T E s [110, 111, 116] = false) (hc0 : (peekP T E s 0).k = 2 ∧ (peekP T E s 1).k = 5 ∧ (peekP T E s 1).t = [40]) : Calls Tryz.prog 90 #[.pointer (some ⟨g, 0, none⟩)] w (LitRes B g A c T E (literalP T E s) w) := by
 have hgl := h.glt; have hB := h.size; have hW := h.within; obtain ⟨q0, Hq0⟩ : ∃ q0, Hid (q0 = peekP T E s 0) := ⟨_, rfl⟩
 obtain ⟨q1, Hq1⟩ : ∃ q1, Hid (q1 = peekP T E s 1) := ⟨_, rfl⟩
 have hqa : q0.a ≤ E := by rw [Hq0.out]; exact peek_le hW s 0
 have hq4 := Nat.le_trans hqa h.elen; have fp : fits (q0.a : Int) := (fits_iff _).2 ⟨by omega, by omega⟩; have tn : (⟨#[110, 111, 116]⟩ : ByteArray).toList = [110, 111, 116] := toList_mk _; have HPl := hZ9 (fun (V : World) (hR : Rd B g A c T E s V) => rplace_any hR); rw [← Hq0.out] at HPl; have HPk0 := hZ9 (fun (V : World) (hR : Rd B g A c T E s V) => rpeek_any hR 0 (by omega)); simp only [← Hq0.out, tokC_eq] at HPk0; have HPk1 := hZ9 (fun (V : World) (hR : Rd B g A c T E s V) => rpeek_any hR 1 (by omega)); simp only [← Hq1.out, tokC_eq] at HPk1; have HM := hZ9 (fun (V : World) (hR : Rd B g A c T E s V) => rmay_any hR ⟨#[110, 111, 116]⟩); rw [tn] at HM; have HF0 := hZ9 ((Fr.start h).alloc (.cells zLit.toArray 80)); obtain ⟨P, HP⟩ : ∃ P : Ending → World → Prop, Hid (P = LitRes B g A c T E (literalP T E s) w) := ⟨_, rfl⟩
 rw [← HP.out]
 have HX1 : Hid (isP T E s [110, 111, 116] = true → literalP T E s = ((atomP T E s.up).1, ⟨2, (atomP T E s.up).2, 0, zE, zE, q0.a⟩)) := fun hn => by
  unfold literalP; dsimp only; rw [if_pos hn, Hq0.out]
 have HX2 : Hid (¬ isP T E s [110, 111, 116] = true → (q0.k = 2 ∧ q1.k = 5 ∧ q1.t = [40]) → literalP T E s = ((atomP T E s).1, ⟨1, (atomP T E s).2, 0, zE, zE, q0.a⟩)) := fun hn hc => by
  unfold literalP; dsimp only; rw [← Hq0.out, ← Hq1.out, if_neg hn, if_pos hc]
 have HX3 : Hid (¬ isP T E s [110, 111, 116] = true → ¬ (q0.k = 2 ∧ q1.k = 5 ∧ q1.t = [40]) → literalP T E s = comparedP T E q0.a s) := fun hn hc => by
  unfold literalP; dsimp only; rw [← Hq0.out, ← Hq1.out, if_neg hn, if_neg hc]
 have HCC : Hid (q0.k = 2 ∧ q1.k = 5 ∧ q1.t = [40]) := by show q0.k = 2 ∧ q1.k = 5 ∧ q1.t = [40]; rw [Hq0.out, Hq1.out]; exact hc0
 obtain ⟨k0, t0, a0⟩ := q0; obtain ⟨k1, t1, a1⟩ := q1; dsimp only at HPl HPk0 HPk1 HX1 HX2 HX3 fp hqa hq4 HCC; clear h tn Hq0 Hq1 hc0; go_enter Tryz.func90, Tryz.ntmps90
 go_wp2_with fail
 refine (HPl.out _ HF0.out.rd).mono ?_; rintro e w1 ⟨rfl, hb1⟩; have HF1 := hZ9 (HF0.out.on hb1); clear hb1 HPl HF0; go_wp2_with (refine wpList_new rfl rfl 80 3 (.tmp 7) rfl rfl rfl rfl _ (litC ⟨1, ⟨⟨#[]⟩, []⟩, 0, zE, zE, a0⟩ nH nH nH).toArray lit_infoT rfl (lit_one _ _ _ _) rfl rfl ?_)
 have HF2 := hZ9 (HF1.out.alloc (.cells (litC ⟨1, ⟨⟨#[]⟩, []⟩, 0, zE, zE, a0⟩ nH nH nH).toArray 80)); have hz1 : w.heap.size < w1.heap.size := (glt (HF1.out.row (p := (w.heap.size, Obj.cells zLit.toArray 80 (0, 0))) (by simp)))
 clear HF1; refine (HPk1.out _ HF2.out.rd).mono ?_; rintro e w2 ⟨rfl, hb2⟩; have HF3 := hZ9 ((HF2.out.on hb2).alloc (.cells #[.int .i64 k1, .string (bytes t1), .int .i64 a1] 178)); clear hb2 HPk1 HF2; go_wp2_with fail
 refine (HM.out _ HF3.out.rd).mono ?_; rintro e w3 ⟨rfl, hr3, ho3⟩; have hF3 := HF3.out.go hr3 ho3; clear hr3 ho3 HF3; have hm : mayP T E s [110, 111, 116] = s := by unfold mayP; rw [if_neg (by rw [hn]; decide)]
 rw [hm] at hF3; have HF3 := hZ9 hF3; clear hF3 hm HM; have hn2 : ¬ isP T E s [110, 111, 116] = true := by rw [hn]; decide
 have f0 := tok_field0 k0 a0 (bytes t0); go_wp2_with fail
 refine (HPk0.out _ HF3.out.rd).mono ?_; rintro e w4a ⟨rfl, hb4⟩; have HF4 := hZ9 (HF3.out.on hb4); clear hb4 HF3 HPk0; obtain ⟨g0, g1, g2⟩ := facts3 (HF4.out.row (p := (w2.heap.size, Obj.cells #[.int .i64 k1, .string (bytes t1), .int .i64 a1] 178 (0, 0))) (by simp)); have hT : (bytes t1).toList = t1 := toList_mk t1; have h40 : (⟨#[40]⟩ : ByteArray).toList = [40] := toList_mk [40]; have hc := HCC.out; have HXX := hZ9 (HX2.out hn2 hc); obtain ⟨rfl, rfl, rfl⟩ := hc; clear hn2 hn HX1 HX2 HX3 hT h40; have e3 : ((bytes [40]).toList == (⟨#[40]⟩ : ByteArray).toList) = true := by rw [show (bytes [40]).toList = [40] from toList_mk [40], show (⟨#[40]⟩ : ByteArray).toList = [40] from toList_mk [40]]; rfl
 have e4 : ((bytes [40]).toList == [40]) = true := by rw [show (bytes [40]).toList = [40] from toList_mk [40]]; rfl
 have HA := hZ9 (fun (V : World) (hR : Rd B g A c T E s V) => ratom_any hR); obtain ⟨y, Hy⟩ : ∃ y, Hid (y = atomP T E s) := ⟨_, rfl⟩
 rw [← Hy.out] at HA; have HX := hZ9 (HXX.out); rw [← Hy.out] at HX; obtain ⟨ys, yr, ya⟩ := y; dsimp only at HA HX; clear Hy; go_wp2_with fail
 have HF4 := HF4; clear HF4 g0 g1 g2 f0; generalize w4a = w4 at *; refine (HA.out _ HF4.out.rd).mono ?_; rintro e w5 ⟨A', n', c', rfl, hr5, ho5, hre, hfa⟩; have HF5 := hZ9 (HF4.out.go hr5 ho5); have Hfa := hZ9 hfa; have Hre := hZ9 hre; have Hz4 : Hid (w1.heap.size < w4.heap.size) := (glt (HF4.out.row (p := (w1.heap.size, Obj.cells (litC ⟨1, ⟨⟨#[]⟩, []⟩, 0, zE, zE, a0⟩ nH nH nH).toArray 80 (0, 0))) (by simp)))
 clear hr5 ho5 hre hfa HF4 HA; have hrow := HF5.out.row (p := (w1.heap.size, Obj.cells (litC ⟨1, ⟨⟨#[]⟩, []⟩, 0, zE, zE, a0⟩ nH nH nH).toArray 80 (0, 0))) (by simp); obtain ⟨c0, c1, c2, c3, c4, c5, c6, c7, c8, c9, c10, c11, c12, c13, c14, c15, c16⟩ := facts17 hrow; have cf := froz4 hrow; have ho6 : Out [w1.heap.size] w5 ((w5.setCell ⟨w1.heap.size, 1, none⟩ (.string yr)).setCell ⟨w1.heap.size, 2, none⟩ (.slice A' n' c')) := out_next (set_out _ _ _ _) (set_out _ _ _ _); have hrow6 : ((w5.setCell ⟨w1.heap.size, 1, none⟩ (.string yr)).setCell ⟨w1.heap.size, 2, none⟩ (.slice A' n' c')).heap[w1.heap.size]? = some (.cells (litC ⟨1, ⟨yr, ya⟩, 0, zE, zE, a0⟩ ⟨A', n', c'⟩ nH nH).toArray 80 (0, 0)) := by simp [World.setCell, Array.getElem?_modify, hrow]
 have hF6 := HF5.out.put (L' := [(w1.heap.size, Obj.cells (litC ⟨1, ⟨yr, ya⟩, 0, zE, zE, a0⟩ ⟨A', n', c'⟩ nH nH).toArray 80 (0, 0)), (w.heap.size, Obj.cells zLit.toArray 80 (0, 0))]) (b := w1.heap.size) (by omega) ho6 (fun p hp => by
  simp only [List.mem_cons, List.not_mem_nil, or_false] at hp; rcases hp with rfl | rfl
  ·exact .inr ⟨rfl, hrow6⟩
  ·exact .inl ⟨by simp, by dsimp only; omega⟩) hB
 have HE := hZ9 (And.intro hrow6 (hF6.row (p := (w.heap.size, Obj.cells zLit.toArray 80 (0, 0))) (by simp)))
 have hla : LitAt 0 (sans ((w5.setCell ⟨w1.heap.size, 1, none⟩ (.string yr)).setCell ⟨w1.heap.size, 2, none⟩ (.slice A' n' c')) (List.range w4.heap.size)) ((w5.setCell ⟨w1.heap.size, 1, none⟩ (.string yr)).setCell ⟨w1.heap.size, 2, none⟩ (.slice A' n' c')).heap.size ⟨1, ⟨yr, ya⟩, 0, zE, zE, a0⟩ ⟨A', n', c'⟩ nH nH :=
  ⟨fits_1, f_lit0, fp, Hre.out, SliceFar.out Hfa.out ho6 (fun b hb _ => List.mem_range.2 (by have := Hz4.out; simp at hb; omega)) (fun _ h _ => h), f_lit0, Nat.zero_le _, GV.ok_zero, SliceIs.nil, f_lit0, Nat.zero_le _, GV.ok_zero, SliceIs.nil⟩
 have HLt : Hid (∀ cs, cs = (litC ⟨1, ⟨yr, ya⟩, 0, zE, zE, a0⟩ ⟨A', n', c'⟩ nH nH).toArray → P (.returned (.agg cs)) (((w5.setCell ⟨w1.heap.size, 1, none⟩ (.string yr)).setCell ⟨w1.heap.size, 2, none⟩ (.slice A' n' c')).setRow w.heap.size cs)) := fun cs hcs => by
  rw [HP.out, HX.out]; exact LtE.fin (y := (ys, ⟨1, ⟨yr, ya⟩, 0, zE, zE, a0⟩)) (lb := w1.heap.size) (N := w4.heap.size) ⟨hF6.rd, hF6.out, ⟨0, ⟨A', n', c'⟩, nH, nH, hrow6, hla⟩, HE.out.2⟩ hB (by have := Hz4.out; omega) hla cs hcs
 clear ho6 hrow6 hF6 hla HF5 Hfa Hre; have hrl := HE.out.1; have hrr := HE.out.2; have Hrl := hZ9 (range_row hrl); have hS := setRow_at (cs' := (litC ⟨1, ⟨yr, ya⟩, 0, zE, zE, a0⟩ ⟨A', n', c'⟩ nH nH).toArray) hrr; obtain ⟨z0, z1, z2, z3, z4, z5, z6, z7, z8, z9, z10, z11, z12, z13, z14, z15, z16⟩ := facts17 hS
 go_wp2_with (first
  | refine wpList_load_mid rfl 80 (.tmp 3) rfl w1.heap.size 0 rfl (litC ⟨1, ⟨yr, ya⟩, 0, zE, zE, a0⟩ ⟨A', n', c'⟩ nH nH) _ Hrl.out Tryz.underlying80 rfl (lit_sizeT _ _ _ _) ?_
  | refine wpList_store_rowTo rfl 80 (.tmp 2) (.tmp 37) rfl rfl w.heap.size (litC ⟨1, ⟨yr, ya⟩, 0, zE, zE, a0⟩ ⟨A', n', c'⟩ nH nH).toArray rfl rfl 80 zLit.toArray hrr (by kernel_rfl) rfl (lit_one _ _ _ _) ?_)
 refine bodyPost_ret (v := .agg (litC ⟨1, ⟨yr, ya⟩, 0, zE, zE, a0⟩ ⟨A', n', c'⟩ nH nH).toArray) ?_ rfl (HLt.out _ rfl); simp [results, Tryz.results90, go_sem, z0, z1, z2, z3, z4, z5, z6, z7, z8, z9, z10, z11, z12, z13, z14, z15, z16]
theorem rliteral_c1 {s : PS} {w : World} (h : Rd B g A c T E s w) (hd : s.deep = 0) (hn : isP T E s [110, 111, 116] = false) (hc0 : (peekP T E s 0).k ≠ 2) : Calls Tryz.prog 90 #[.pointer (some ⟨g, 0, none⟩)] w (LitRes B g A c T E (literalP T E s) w) := by
 have hgl := h.glt; have hB := h.size; have hW := h.within; obtain ⟨q0, Hq0⟩ : ∃ q0, Hid (q0 = peekP T E s 0) := ⟨_, rfl⟩
 obtain ⟨q1, Hq1⟩ : ∃ q1, Hid (q1 = peekP T E s 1) := ⟨_, rfl⟩
 have hqa : q0.a ≤ E := by rw [Hq0.out]; exact peek_le hW s 0
 have hq4 := Nat.le_trans hqa h.elen; have fp : fits (q0.a : Int) := (fits_iff _).2 ⟨by omega, by omega⟩; have tn : (⟨#[110, 111, 116]⟩ : ByteArray).toList = [110, 111, 116] := toList_mk _; have HPl := hZ9 (fun (V : World) (hR : Rd B g A c T E s V) => rplace_any hR); rw [← Hq0.out] at HPl; have HPk0 := hZ9 (fun (V : World) (hR : Rd B g A c T E s V) => rpeek_any hR 0 (by omega)); simp only [← Hq0.out, tokC_eq] at HPk0; have HPk1 := hZ9 (fun (V : World) (hR : Rd B g A c T E s V) => rpeek_any hR 1 (by omega)); simp only [← Hq1.out, tokC_eq] at HPk1; have HM := hZ9 (fun (V : World) (hR : Rd B g A c T E s V) => rmay_any hR ⟨#[110, 111, 116]⟩); rw [tn] at HM; have HF0 := hZ9 ((Fr.start h).alloc (.cells zLit.toArray 80)); obtain ⟨P, HP⟩ : ∃ P : Ending → World → Prop, Hid (P = LitRes B g A c T E (literalP T E s) w) := ⟨_, rfl⟩
 rw [← HP.out]
 have HX1 : Hid (isP T E s [110, 111, 116] = true → literalP T E s = ((atomP T E s.up).1, ⟨2, (atomP T E s.up).2, 0, zE, zE, q0.a⟩)) := fun hn => by
  unfold literalP; dsimp only; rw [if_pos hn, Hq0.out]
 have HX2 : Hid (¬ isP T E s [110, 111, 116] = true → (q0.k = 2 ∧ q1.k = 5 ∧ q1.t = [40]) → literalP T E s = ((atomP T E s).1, ⟨1, (atomP T E s).2, 0, zE, zE, q0.a⟩)) := fun hn hc => by
  unfold literalP; dsimp only; rw [← Hq0.out, ← Hq1.out, if_neg hn, if_pos hc]
 have HX3 : Hid (¬ isP T E s [110, 111, 116] = true → ¬ (q0.k = 2 ∧ q1.k = 5 ∧ q1.t = [40]) → literalP T E s = comparedP T E q0.a s) := fun hn hc => by
  unfold literalP; dsimp only; rw [← Hq0.out, ← Hq1.out, if_neg hn, if_neg hc]
 have HCC : Hid (q0.k ≠ 2) := by show q0.k ≠ 2; rw [Hq0.out]; exact hc0
 obtain ⟨k0, t0, a0⟩ := q0; obtain ⟨k1, t1, a1⟩ := q1; dsimp only at HPl HPk0 HPk1 HX1 HX2 HX3 fp hqa hq4 HCC; clear h tn Hq0 Hq1 hc0; go_enter Tryz.func90, Tryz.ntmps90
 go_wp2_with fail
 refine (HPl.out _ HF0.out.rd).mono ?_; rintro e w1 ⟨rfl, hb1⟩; have HF1 := hZ9 (HF0.out.on hb1); clear hb1 HPl HF0; go_wp2_with (refine wpList_new rfl rfl 80 3 (.tmp 7) rfl rfl rfl rfl _ (litC ⟨1, ⟨⟨#[]⟩, []⟩, 0, zE, zE, a0⟩ nH nH nH).toArray lit_infoT rfl (lit_one _ _ _ _) rfl rfl ?_)
 have HF2 := hZ9 (HF1.out.alloc (.cells (litC ⟨1, ⟨⟨#[]⟩, []⟩, 0, zE, zE, a0⟩ nH nH nH).toArray 80)); have hz1 : w.heap.size < w1.heap.size := (glt (HF1.out.row (p := (w.heap.size, Obj.cells zLit.toArray 80 (0, 0))) (by simp)))
 clear HF1; refine (HPk1.out _ HF2.out.rd).mono ?_; rintro e w2 ⟨rfl, hb2⟩; have HF3 := hZ9 ((HF2.out.on hb2).alloc (.cells #[.int .i64 k1, .string (bytes t1), .int .i64 a1] 178)); clear hb2 HPk1 HF2; go_wp2_with fail
 refine (HM.out _ HF3.out.rd).mono ?_; rintro e w3 ⟨rfl, hr3, ho3⟩; have hF3 := HF3.out.go hr3 ho3; clear hr3 ho3 HF3; have hm : mayP T E s [110, 111, 116] = s := by unfold mayP; rw [if_neg (by rw [hn]; decide)]
 rw [hm] at hF3; have HF3 := hZ9 hF3; clear hF3 hm HM; have hn2 : ¬ isP T E s [110, 111, 116] = true := by rw [hn]; decide
 have f0 := tok_field0 k0 a0 (bytes t0); go_wp2_with fail
 refine (HPk0.out _ HF3.out.rd).mono ?_; rintro e w4a ⟨rfl, hb4⟩; have HF4 := hZ9 (HF3.out.on hb4); clear hb4 HF3 HPk0; obtain ⟨g0, g1, g2⟩ := facts3 (HF4.out.row (p := (w2.heap.size, Obj.cells #[.int .i64 k1, .string (bytes t1), .int .i64 a1] 178 (0, 0))) (by simp)); have hT : (bytes t1).toList = t1 := toList_mk t1; have h40 : (⟨#[40]⟩ : ByteArray).toList = [40] := toList_mk [40]; have h1 := HCC.out; have hc : ¬ (k0 = 2 ∧ k1 = 5 ∧ t1 = [40]) := fun h => h1 h.1
 have HXX := hZ9 (HX3.out hn2 hc); clear hn2 hn HX1 HX2 HX3 hc HCC; have e1 : (k0 == 2) = false := by simp [h1]
 clear h1 hT h40; go_wp2_with fail
 refine (rcompared_any (p := a0) HF4.out.rd (show B ≤ w1.heap.size by omega) (show w1.heap.size ≠ g by omega) hqa hd (HF4.out.row (p := (w1.heap.size, Obj.cells (litC ⟨1, ⟨⟨#[]⟩, []⟩, 0, zE, zE, a0⟩ nH nH nH).toArray 80 (0, 0))) (by simp))).mono ?_; rintro e w5 ⟨rfl, pH, qH, hcm⟩; have hat := compared_atom T E a0 s; generalize hy : comparedP T E a0 s = y at *; obtain ⟨ys, ye⟩ := y; dsimp only at hcm hat; have hz4 : w1.heap.size < w4a.heap.size := (glt (HF4.out.row (p := (w1.heap.size, Obj.cells (litC ⟨1, ⟨⟨#[]⟩, []⟩, 0, zE, zE, a0⟩ nH nH nH).toArray 80 (0, 0))) (by simp)))
 have hrr5 := (hcm.out.block _ (by omega) (by simp; omega)).trans (HF4.out.row (p := (w.heap.size, Obj.cells zLit.toArray 80 (0, 0))) (by simp)); obtain ⟨dd, hda, hdb⟩ := hcm.far; have hla : LitAt dd (sans w5 (List.range w4a.heap.size)) w5.heap.size ye nH pH qH := ⟨hcm.k.1, hcm.k.2.1, hcm.k.2.2, by rw [hat]; exact Nat.zero_le _, by rw [hat]; exact SliceIs.nil, hcm.l.1, hcm.l.2.1, hcm.l.2.2, hda, hcm.r.1, hcm.r.2.1, hcm.r.2.2, hdb⟩
 have hout : Out [g] w w5 := HF4.out.out.trans hcm.out (fun b hb hl => by
  simp only [List.mem_cons, List.not_mem_nil, or_false] at hb; rcases hb with rfl | rfl
  ·simp
  ·omega)
 have HE := hZ9 (And.intro hcm.row hrr5)
 have HLt : Hid (∀ cs, cs = (litC ye nH pH qH).toArray → P (.returned (.agg cs)) (w5.setRow w.heap.size cs)) := fun cs hcs => by
  rw [HP.out, HXX.out]; exact LtE.fin (y := (ys, ye)) (lb := w1.heap.size) (N := w4a.heap.size) ⟨hcm.rd, hout, ⟨dd, nH, pH, qH, hcm.row, hla⟩, hrr5⟩ hB (by omega) hla cs hcs
 clear hcm hat hy hrr5 hda hdb hla hout HF4 HXX; have hrl := HE.out.1; have hrr := HE.out.2; have Hrl := hZ9 (range_row hrl); have hS := setRow_at (cs' := (litC ye nH pH qH).toArray) hrr; obtain ⟨z0, z1, z2, z3, z4, z5, z6, z7, z8, z9, z10, z11, z12, z13, z14, z15, z16⟩ := facts17 hS
 go_wp2_with (first
  | refine wpList_load_mid rfl 80 (.tmp 3) rfl w1.heap.size 0 rfl (litC ye nH pH qH) _ Hrl.out Tryz.underlying80 rfl (lit_sizeT _ _ _ _) ?_
  | refine wpList_store_rowTo rfl 80 (.tmp 2) (.tmp 37) rfl rfl w.heap.size (litC ye nH pH qH).toArray rfl rfl 80 zLit.toArray hrr (by kernel_rfl) rfl (lit_one _ _ _ _) ?_)
 refine bodyPost_ret (v := .agg (litC ye nH pH qH).toArray) ?_ rfl (HLt.out _ rfl); simp [results, Tryz.results90, go_sem, z0, z1, z2, z3, z4, z5, z6, z7, z8, z9, z10, z11, z12, z13, z14, z15, z16]
theorem rliteral_c2 {s : PS} {w : World} (h : Rd B g A c T E s w) (hd : s.deep = 0) (hn : isP T E s [110, 111, 116] = false) (hc0 : (peekP T E s 0).k = 2 ∧ (peekP T E s 1).k ≠ 5) : Calls Tryz.prog 90 #[.pointer (some ⟨g, 0, none⟩)] w (LitRes B g A c T E (literalP T E s) w) := by
 have hgl := h.glt; have hB := h.size; have hW := h.within; obtain ⟨q0, Hq0⟩ : ∃ q0, Hid (q0 = peekP T E s 0) := ⟨_, rfl⟩
 obtain ⟨q1, Hq1⟩ : ∃ q1, Hid (q1 = peekP T E s 1) := ⟨_, rfl⟩
 have hqa : q0.a ≤ E := by rw [Hq0.out]; exact peek_le hW s 0
 have hq4 := Nat.le_trans hqa h.elen; have fp : fits (q0.a : Int) := (fits_iff _).2 ⟨by omega, by omega⟩; have tn : (⟨#[110, 111, 116]⟩ : ByteArray).toList = [110, 111, 116] := toList_mk _; have HPl := hZ9 (fun (V : World) (hR : Rd B g A c T E s V) => rplace_any hR); rw [← Hq0.out] at HPl; have HPk0 := hZ9 (fun (V : World) (hR : Rd B g A c T E s V) => rpeek_any hR 0 (by omega)); simp only [← Hq0.out, tokC_eq] at HPk0; have HPk1 := hZ9 (fun (V : World) (hR : Rd B g A c T E s V) => rpeek_any hR 1 (by omega)); simp only [← Hq1.out, tokC_eq] at HPk1; have HM := hZ9 (fun (V : World) (hR : Rd B g A c T E s V) => rmay_any hR ⟨#[110, 111, 116]⟩); rw [tn] at HM; have HF0 := hZ9 ((Fr.start h).alloc (.cells zLit.toArray 80)); obtain ⟨P, HP⟩ : ∃ P : Ending → World → Prop, Hid (P = LitRes B g A c T E (literalP T E s) w) := ⟨_, rfl⟩
 rw [← HP.out]
 have HX1 : Hid (isP T E s [110, 111, 116] = true → literalP T E s = ((atomP T E s.up).1, ⟨2, (atomP T E s.up).2, 0, zE, zE, q0.a⟩)) := fun hn => by
  unfold literalP; dsimp only; rw [if_pos hn, Hq0.out]
 have HX2 : Hid (¬ isP T E s [110, 111, 116] = true → (q0.k = 2 ∧ q1.k = 5 ∧ q1.t = [40]) → literalP T E s = ((atomP T E s).1, ⟨1, (atomP T E s).2, 0, zE, zE, q0.a⟩)) := fun hn hc => by
  unfold literalP; dsimp only; rw [← Hq0.out, ← Hq1.out, if_neg hn, if_pos hc]
 have HX3 : Hid (¬ isP T E s [110, 111, 116] = true → ¬ (q0.k = 2 ∧ q1.k = 5 ∧ q1.t = [40]) → literalP T E s = comparedP T E q0.a s) := fun hn hc => by
  unfold literalP; dsimp only; rw [← Hq0.out, ← Hq1.out, if_neg hn, if_neg hc]
 have HCC : Hid (q0.k = 2 ∧ q1.k ≠ 5) := by show q0.k = 2 ∧ q1.k ≠ 5; rw [Hq0.out, Hq1.out]; exact hc0
 obtain ⟨k0, t0, a0⟩ := q0; obtain ⟨k1, t1, a1⟩ := q1; dsimp only at HPl HPk0 HPk1 HX1 HX2 HX3 fp hqa hq4 HCC; clear h tn Hq0 Hq1 hc0; go_enter Tryz.func90, Tryz.ntmps90
 go_wp2_with fail
 refine (HPl.out _ HF0.out.rd).mono ?_; rintro e w1 ⟨rfl, hb1⟩; have HF1 := hZ9 (HF0.out.on hb1); clear hb1 HPl HF0; go_wp2_with (refine wpList_new rfl rfl 80 3 (.tmp 7) rfl rfl rfl rfl _ (litC ⟨1, ⟨⟨#[]⟩, []⟩, 0, zE, zE, a0⟩ nH nH nH).toArray lit_infoT rfl (lit_one _ _ _ _) rfl rfl ?_)
 have HF2 := hZ9 (HF1.out.alloc (.cells (litC ⟨1, ⟨⟨#[]⟩, []⟩, 0, zE, zE, a0⟩ nH nH nH).toArray 80)); have hz1 : w.heap.size < w1.heap.size := (glt (HF1.out.row (p := (w.heap.size, Obj.cells zLit.toArray 80 (0, 0))) (by simp)))
 clear HF1; refine (HPk1.out _ HF2.out.rd).mono ?_; rintro e w2 ⟨rfl, hb2⟩; have HF3 := hZ9 ((HF2.out.on hb2).alloc (.cells #[.int .i64 k1, .string (bytes t1), .int .i64 a1] 178)); clear hb2 HPk1 HF2; go_wp2_with fail
 refine (HM.out _ HF3.out.rd).mono ?_; rintro e w3 ⟨rfl, hr3, ho3⟩; have hF3 := HF3.out.go hr3 ho3; clear hr3 ho3 HF3; have hm : mayP T E s [110, 111, 116] = s := by unfold mayP; rw [if_neg (by rw [hn]; decide)]
 rw [hm] at hF3; have HF3 := hZ9 hF3; clear hF3 hm HM; have hn2 : ¬ isP T E s [110, 111, 116] = true := by rw [hn]; decide
 have f0 := tok_field0 k0 a0 (bytes t0); go_wp2_with fail
 refine (HPk0.out _ HF3.out.rd).mono ?_; rintro e w4a ⟨rfl, hb4⟩; have HF4 := hZ9 (HF3.out.on hb4); clear hb4 HF3 HPk0; obtain ⟨g0, g1, g2⟩ := facts3 (HF4.out.row (p := (w2.heap.size, Obj.cells #[.int .i64 k1, .string (bytes t1), .int .i64 a1] 178 (0, 0))) (by simp)); have hT : (bytes t1).toList = t1 := toList_mk t1; have h40 : (⟨#[40]⟩ : ByteArray).toList = [40] := toList_mk [40]; obtain ⟨rfl, h2⟩ := HCC.out; have hc : ¬ ((2 : Int) = 2 ∧ k1 = 5 ∧ t1 = [40]) := fun h => h2 h.2.1
 have HXX := hZ9 (HX3.out hn2 hc); clear hn2 hn HX1 HX2 HX3 hc HCC; have e1 : (k1 == 5) = false := by simp [h2]
 clear h2 hT h40; go_wp2_with fail
 refine (rcompared_any (p := a0) HF4.out.rd (show B ≤ w1.heap.size by omega) (show w1.heap.size ≠ g by omega) hqa hd (HF4.out.row (p := (w1.heap.size, Obj.cells (litC ⟨1, ⟨⟨#[]⟩, []⟩, 0, zE, zE, a0⟩ nH nH nH).toArray 80 (0, 0))) (by simp))).mono ?_; rintro e w5 ⟨rfl, pH, qH, hcm⟩; have hat := compared_atom T E a0 s; generalize hy : comparedP T E a0 s = y at *; obtain ⟨ys, ye⟩ := y; dsimp only at hcm hat; have hz4 : w1.heap.size < w4a.heap.size := (glt (HF4.out.row (p := (w1.heap.size, Obj.cells (litC ⟨1, ⟨⟨#[]⟩, []⟩, 0, zE, zE, a0⟩ nH nH nH).toArray 80 (0, 0))) (by simp)))
 have hrr5 := (hcm.out.block _ (by omega) (by simp; omega)).trans (HF4.out.row (p := (w.heap.size, Obj.cells zLit.toArray 80 (0, 0))) (by simp)); obtain ⟨dd, hda, hdb⟩ := hcm.far; have hla : LitAt dd (sans w5 (List.range w4a.heap.size)) w5.heap.size ye nH pH qH := ⟨hcm.k.1, hcm.k.2.1, hcm.k.2.2, by rw [hat]; exact Nat.zero_le _, by rw [hat]; exact SliceIs.nil, hcm.l.1, hcm.l.2.1, hcm.l.2.2, hda, hcm.r.1, hcm.r.2.1, hcm.r.2.2, hdb⟩
 have hout : Out [g] w w5 := HF4.out.out.trans hcm.out (fun b hb hl => by
  simp only [List.mem_cons, List.not_mem_nil, or_false] at hb; rcases hb with rfl | rfl
  ·simp
  ·omega)
 have HE := hZ9 (And.intro hcm.row hrr5)
 have HLt : Hid (∀ cs, cs = (litC ye nH pH qH).toArray → P (.returned (.agg cs)) (w5.setRow w.heap.size cs)) := fun cs hcs => by
  rw [HP.out, HXX.out]; exact LtE.fin (y := (ys, ye)) (lb := w1.heap.size) (N := w4a.heap.size) ⟨hcm.rd, hout, ⟨dd, nH, pH, qH, hcm.row, hla⟩, hrr5⟩ hB (by omega) hla cs hcs
 clear hcm hat hy hrr5 hda hdb hla hout HF4 HXX; have hrl := HE.out.1; have hrr := HE.out.2; have Hrl := hZ9 (range_row hrl); have hS := setRow_at (cs' := (litC ye nH pH qH).toArray) hrr; obtain ⟨z0, z1, z2, z3, z4, z5, z6, z7, z8, z9, z10, z11, z12, z13, z14, z15, z16⟩ := facts17 hS
 go_wp2_with (first
  | refine wpList_load_mid rfl 80 (.tmp 3) rfl w1.heap.size 0 rfl (litC ye nH pH qH) _ Hrl.out Tryz.underlying80 rfl (lit_sizeT _ _ _ _) ?_
  | refine wpList_store_rowTo rfl 80 (.tmp 2) (.tmp 37) rfl rfl w.heap.size (litC ye nH pH qH).toArray rfl rfl 80 zLit.toArray hrr (by kernel_rfl) rfl (lit_one _ _ _ _) ?_)
 refine bodyPost_ret (v := .agg (litC ye nH pH qH).toArray) ?_ rfl (HLt.out _ rfl); simp [results, Tryz.results90, go_sem, z0, z1, z2, z3, z4, z5, z6, z7, z8, z9, z10, z11, z12, z13, z14, z15, z16]
theorem rliteral_c3 {s : PS} {w : World} (h : Rd B g A c T E s w) (hd : s.deep = 0) (hn : isP T E s [110, 111, 116] = false) (hc0 : (peekP T E s 0).k = 2 ∧ (peekP T E s 1).k = 5 ∧ (peekP T E s 1).t ≠ [40]) : Calls Tryz.prog 90 #[.pointer (some ⟨g, 0, none⟩)] w (LitRes B g A c T E (literalP T E s) w) := by
 have hgl := h.glt; have hB := h.size; have hW := h.within; obtain ⟨q0, Hq0⟩ : ∃ q0, Hid (q0 = peekP T E s 0) := ⟨_, rfl⟩
 obtain ⟨q1, Hq1⟩ : ∃ q1, Hid (q1 = peekP T E s 1) := ⟨_, rfl⟩
 have hqa : q0.a ≤ E := by rw [Hq0.out]; exact peek_le hW s 0
 have hq4 := Nat.le_trans hqa h.elen; have fp : fits (q0.a : Int) := (fits_iff _).2 ⟨by omega, by omega⟩; have tn : (⟨#[110, 111, 116]⟩ : ByteArray).toList = [110, 111, 116] := toList_mk _; have HPl := hZ9 (fun (V : World) (hR : Rd B g A c T E s V) => rplace_any hR); rw [← Hq0.out] at HPl; have HPk0 := hZ9 (fun (V : World) (hR : Rd B g A c T E s V) => rpeek_any hR 0 (by omega)); simp only [← Hq0.out, tokC_eq] at HPk0; have HPk1 := hZ9 (fun (V : World) (hR : Rd B g A c T E s V) => rpeek_any hR 1 (by omega)); simp only [← Hq1.out, tokC_eq] at HPk1; have HM := hZ9 (fun (V : World) (hR : Rd B g A c T E s V) => rmay_any hR ⟨#[110, 111, 116]⟩); rw [tn] at HM; have HF0 := hZ9 ((Fr.start h).alloc (.cells zLit.toArray 80)); obtain ⟨P, HP⟩ : ∃ P : Ending → World → Prop, Hid (P = LitRes B g A c T E (literalP T E s) w) := ⟨_, rfl⟩
 rw [← HP.out]
 have HX1 : Hid (isP T E s [110, 111, 116] = true → literalP T E s = ((atomP T E s.up).1, ⟨2, (atomP T E s.up).2, 0, zE, zE, q0.a⟩)) := fun hn => by
  unfold literalP; dsimp only; rw [if_pos hn, Hq0.out]
 have HX2 : Hid (¬ isP T E s [110, 111, 116] = true → (q0.k = 2 ∧ q1.k = 5 ∧ q1.t = [40]) → literalP T E s = ((atomP T E s).1, ⟨1, (atomP T E s).2, 0, zE, zE, q0.a⟩)) := fun hn hc => by
  unfold literalP; dsimp only; rw [← Hq0.out, ← Hq1.out, if_neg hn, if_pos hc]
 have HX3 : Hid (¬ isP T E s [110, 111, 116] = true → ¬ (q0.k = 2 ∧ q1.k = 5 ∧ q1.t = [40]) → literalP T E s = comparedP T E q0.a s) := fun hn hc => by
  unfold literalP; dsimp only; rw [← Hq0.out, ← Hq1.out, if_neg hn, if_neg hc]
 have HCC : Hid (q0.k = 2 ∧ q1.k = 5 ∧ q1.t ≠ [40]) := by show q0.k = 2 ∧ q1.k = 5 ∧ q1.t ≠ [40]; rw [Hq0.out, Hq1.out]; exact hc0
 obtain ⟨k0, t0, a0⟩ := q0; obtain ⟨k1, t1, a1⟩ := q1; dsimp only at HPl HPk0 HPk1 HX1 HX2 HX3 fp hqa hq4 HCC; clear h tn Hq0 Hq1 hc0; go_enter Tryz.func90, Tryz.ntmps90
 go_wp2_with fail
 refine (HPl.out _ HF0.out.rd).mono ?_; rintro e w1 ⟨rfl, hb1⟩; have HF1 := hZ9 (HF0.out.on hb1); clear hb1 HPl HF0; go_wp2_with (refine wpList_new rfl rfl 80 3 (.tmp 7) rfl rfl rfl rfl _ (litC ⟨1, ⟨⟨#[]⟩, []⟩, 0, zE, zE, a0⟩ nH nH nH).toArray lit_infoT rfl (lit_one _ _ _ _) rfl rfl ?_)
 have HF2 := hZ9 (HF1.out.alloc (.cells (litC ⟨1, ⟨⟨#[]⟩, []⟩, 0, zE, zE, a0⟩ nH nH nH).toArray 80)); have hz1 : w.heap.size < w1.heap.size := (glt (HF1.out.row (p := (w.heap.size, Obj.cells zLit.toArray 80 (0, 0))) (by simp)))
 clear HF1; refine (HPk1.out _ HF2.out.rd).mono ?_; rintro e w2 ⟨rfl, hb2⟩; have HF3 := hZ9 ((HF2.out.on hb2).alloc (.cells #[.int .i64 k1, .string (bytes t1), .int .i64 a1] 178)); clear hb2 HPk1 HF2; go_wp2_with fail
 refine (HM.out _ HF3.out.rd).mono ?_; rintro e w3 ⟨rfl, hr3, ho3⟩; have hF3 := HF3.out.go hr3 ho3; clear hr3 ho3 HF3; have hm : mayP T E s [110, 111, 116] = s := by unfold mayP; rw [if_neg (by rw [hn]; decide)]
 rw [hm] at hF3; have HF3 := hZ9 hF3; clear hF3 hm HM; have hn2 : ¬ isP T E s [110, 111, 116] = true := by rw [hn]; decide
 have f0 := tok_field0 k0 a0 (bytes t0); go_wp2_with fail
 refine (HPk0.out _ HF3.out.rd).mono ?_; rintro e w4a ⟨rfl, hb4⟩; have HF4 := hZ9 (HF3.out.on hb4); clear hb4 HF3 HPk0; obtain ⟨g0, g1, g2⟩ := facts3 (HF4.out.row (p := (w2.heap.size, Obj.cells #[.int .i64 k1, .string (bytes t1), .int .i64 a1] 178 (0, 0))) (by simp)); have hT : (bytes t1).toList = t1 := toList_mk t1; have h40 : (⟨#[40]⟩ : ByteArray).toList = [40] := toList_mk [40]; obtain ⟨rfl, rfl, h3⟩ := HCC.out; have hc : ¬ ((2 : Int) = 2 ∧ (5 : Int) = 5 ∧ t1 = [40]) := fun h => h3 h.2.2
 have HXX := hZ9 (HX3.out hn2 hc); clear hn2 hn HX1 HX2 HX3 hc HCC; have e1 : ((bytes t1).toList == [40]) = false := by rw [hT]; simp [h3]
 have e2 : ((bytes t1).toList == (⟨#[40]⟩ : ByteArray).toList) = false := by rw [hT, h40]; simp [h3]
 clear h3 hT; go_wp2_with fail
 refine (rcompared_any (p := a0) HF4.out.rd (show B ≤ w1.heap.size by omega) (show w1.heap.size ≠ g by omega) hqa hd (HF4.out.row (p := (w1.heap.size, Obj.cells (litC ⟨1, ⟨⟨#[]⟩, []⟩, 0, zE, zE, a0⟩ nH nH nH).toArray 80 (0, 0))) (by simp))).mono ?_; rintro e w5 ⟨rfl, pH, qH, hcm⟩; have hat := compared_atom T E a0 s; generalize hy : comparedP T E a0 s = y at *; obtain ⟨ys, ye⟩ := y; dsimp only at hcm hat; have hz4 : w1.heap.size < w4a.heap.size := (glt (HF4.out.row (p := (w1.heap.size, Obj.cells (litC ⟨1, ⟨⟨#[]⟩, []⟩, 0, zE, zE, a0⟩ nH nH nH).toArray 80 (0, 0))) (by simp)))
 have hrr5 := (hcm.out.block _ (by omega) (by simp; omega)).trans (HF4.out.row (p := (w.heap.size, Obj.cells zLit.toArray 80 (0, 0))) (by simp)); obtain ⟨dd, hda, hdb⟩ := hcm.far; have hla : LitAt dd (sans w5 (List.range w4a.heap.size)) w5.heap.size ye nH pH qH := ⟨hcm.k.1, hcm.k.2.1, hcm.k.2.2, by rw [hat]; exact Nat.zero_le _, by rw [hat]; exact SliceIs.nil, hcm.l.1, hcm.l.2.1, hcm.l.2.2, hda, hcm.r.1, hcm.r.2.1, hcm.r.2.2, hdb⟩
 have hout : Out [g] w w5 := HF4.out.out.trans hcm.out (fun b hb hl => by
  simp only [List.mem_cons, List.not_mem_nil, or_false] at hb; rcases hb with rfl | rfl
  ·simp
  ·omega)
 have HE := hZ9 (And.intro hcm.row hrr5)
 have HLt : Hid (∀ cs, cs = (litC ye nH pH qH).toArray → P (.returned (.agg cs)) (w5.setRow w.heap.size cs)) := fun cs hcs => by
  rw [HP.out, HXX.out]; exact LtE.fin (y := (ys, ye)) (lb := w1.heap.size) (N := w4a.heap.size) ⟨hcm.rd, hout, ⟨dd, nH, pH, qH, hcm.row, hla⟩, hrr5⟩ hB (by omega) hla cs hcs
 clear hcm hat hy hrr5 hda hdb hla hout HF4 HXX; have hrl := HE.out.1; have hrr := HE.out.2; have Hrl := hZ9 (range_row hrl); have hS := setRow_at (cs' := (litC ye nH pH qH).toArray) hrr; obtain ⟨z0, z1, z2, z3, z4, z5, z6, z7, z8, z9, z10, z11, z12, z13, z14, z15, z16⟩ := facts17 hS
 go_wp2_with (first
  | refine wpList_load_mid rfl 80 (.tmp 3) rfl w1.heap.size 0 rfl (litC ye nH pH qH) _ Hrl.out Tryz.underlying80 rfl (lit_sizeT _ _ _ _) ?_
  | refine wpList_store_rowTo rfl 80 (.tmp 2) (.tmp 37) rfl rfl w.heap.size (litC ye nH pH qH).toArray rfl rfl 80 zLit.toArray hrr (by kernel_rfl) rfl (lit_one _ _ _ _) ?_)
 refine bodyPost_ret (v := .agg (litC ye nH pH qH).toArray) ?_ rfl (HLt.out _ rfl); simp [results, Tryz.results90, go_sem, z0, z1, z2, z3, z4, z5, z6, z7, z8, z9, z10, z11, z12, z13, z14, z15, z16]
theorem rliteral_any {s : PS} {w : World} (h : Rd B g A c T E s w) (hd : s.deep = 0) : Calls Tryz.prog 90 #[.pointer (some ⟨g, 0, none⟩)] w (LitRes B g A c T E (literalP T E s) w) := by
 cases hn : isP T E s [110, 111, 116] with
 | true => exact rliteral_not h hd hn
 | false =>
   by_cases h1 : (peekP T E s 0).k = 2
   ·by_cases h2 : (peekP T E s 1).k = 5
    ·by_cases h3 : (peekP T E s 1).t = [40]
     ·exact rliteral_atom h hd hn ⟨h1, h2, h3⟩
     ·exact rliteral_c3 h hd hn ⟨h1, h2, h3⟩
    ·exact rliteral_c2 h hd hn ⟨h1, h2⟩
   ·exact rliteral_c1 h hd hn h1
end
end Go.Proofs.YtaeedepojpablaaGreatDoor
