/- My own texts TyCt, IdxW, TyOf, TyCo, as far as this claim needs them. -/
import Derived.Test.YtaeedepojpablaaGreatDoorZq26
set_option linter.unusedVariables false
set_option linter.unusedSimpArgs false
set_option maxRecDepth 1000000
set_option maxHeartbeats 16000000
namespace Go.Proofs.YtaeedepojpablaaGreatDoor
open Go.RowKit Go.Shelf
attribute [local go_sem] Oper.semAt_some
theorem counts_any (w0 : World) (g km : Nat) (cs : List Value) (l0 l : Kinds) (d : Nat) (e : GExp) (A : Option Addr) (n c : Nat) (w : World) (h : Scp w0 w g km cs l0 l) (hk : SliceIs (Enc.exp d) w0 w0.heap.size A n c e.kids) :
 Calls Tryz.prog 104 #[.pointer (some ⟨g, 0, none⟩), expV e A n c] w (FitsPost ((leavesE e).all (fun t => fitsK l t 1)) w) := by
 obtain ⟨w1, hw1⟩ : ∃ w1, w1 = ((w.alloc (.cells #[.pointer (some ⟨g, 0, none⟩)] 97)).alloc (.cells (expC e A n c).toArray 78)).alloc (.cells #[.bool false] 4) := ⟨_, rfl⟩
 have HVe := hZ9 hw1.symm; have hb1 : Below w.heap.size w w1 := by rw [hw1]; exact belowA (belowA (belowA (Below.refl _ _) _) _) _
 have hr0 : w1.heap[w.heap.size]? = some (.cells #[.pointer (some ⟨g, 0, none⟩)] 97 (0, 0)) := by rw [hw1]; exact heapOld (heapOld (heapNew rfl))
 have hr1 : w1.heap[w.heap.size + 1]? = some (.cells (expC e A n c).toArray 78 (0, 0)) := by rw [hw1]; exact heapOld (heapNew (by simp))
 have hr2 : w1.heap[w.heap.size + 1 + 1]? = some (.cells #[.bool false] 4 (0, 0)) := by rw [hw1]; exact heapNew (by simp)
 have hz1 : w1.heap.size = w.heap.size + 3 := by rw [hw1]; simp
 obtain ⟨c0, c1, c2, c3, c4, c5⟩ := facts6 hr1; have hs1 := h.on hb1; have hgl := h.gb; have hkl := h.kb; have h0 := h.b0.size; have Hgl := h.gl; have Hkl := h.kl; have HZ1 := hZ9 hz1; have HS1 := hZ9 hs1; have HB1 := hZ9 hb1; have HK := hZ9 hk; obtain ⟨L, HL⟩ : ∃ L, Hid (leavesE e = L) := ⟨_, rfl⟩
 obtain ⟨P, HP⟩ : ∃ P : Ending → World → Prop, Hid (P = FitsPost (L.all (fun t => fitsK l t 1)) w) := ⟨_, rfl⟩
 rw [HL.out, ← HP.out]; clear h hw1 hb1 hr1 hz1 hs1 hk; refine (callsIn_wide (n := 8)).1 ?_; refine callsIn_of_wp_marks Tryz.func104 rfl trivial ?_ rfl; simp only [Tryz.ntmps104, List.size_toArray, List.length_cons, List.length_nil, Nat.reduceAdd, Nat.reduceSub, Array.replicate_succ, Array.replicate_zero, List.push_toArray, List.append_toArray, List.nil_append, List.cons_append]; refine wpIn_wide.2 ?_; go_wp2_with (rw [HVe.out])
 refine (termsF_any w1 e A n c).mono ?_; rintro r w7 ⟨rfl, hw7⟩; have hb7 : Below w1.heap.size w1 w7 := by rw [hw7]; exact belowA (Below.refl _ _) _
 have hg7 : w7.heap[w1.heap.size]? = some (.cells #[.int .i64 e.op, .string e.t.x, .int .i64 e.t.v.k, .int .i64 e.t.v.n, .string e.t.v.s, .slice A n c] 78 (0, 0)) := by rw [hw7]; exact heapNew rfl
 have hz7 : w7.heap.size = w1.heap.size + 1 := by rw [hw7]; simp
 have hs7 := HS1.out.on hb7; have t0 := (hb7.block _ (glt hr0)).trans hr0; have t2 := (hb7.block _ (glt hr2)).trans hr2; have hz1 := HZ1.out; have hbw7 := below_next HB1.out hb7; have HQ := hZ9 (terms_seq hg7 [w.heap.size + 1 + 1] w0 (by omega) hs7.b0 HK.out (by intro b hb; simp at hb; omega)); rw [HL.out] at HQ; have hlt7 : w.heap.size + 3 < w7.heap.size := by omega
 have HS7 := hZ9 hs7; have hkl7 : km < w7.heap.size := by omega
 have h07 : w0.heap.size ≤ w7.heap.size := by omega
 clear hw7 hb7 hg7 hr0 hr2 hs7 hz7 hz1 c0 c1 c2 c3 c4 c5; go_wp2_with fail
 refine (wpIn_wide (n := 8)).1 (range_law2 (hg := rfl) (eg := enters_of Tryz.func171 (by kernel_rfl) rfl) (hseq := HQ.out) (hb0 := Below.refl _ _) ?hS (hps := fun _ => rfl)
  (I := fun N pre W => W.heap[w.heap.size]? = some (.cells #[.pointer (some ⟨g, 0, none⟩)] 97 (0, 0)) ∧ W.heap[w.heap.size + 1 + 1]? = some (.cells #[.bool false] 4 (0, 0)) ∧ Hid (Scp w0 W g km cs l0 l) ∧ Below w.heap.size w W ∧ Hid (pre.all (fun t => fitsK l t 1) = true))
  (Ix := fun cd N pre W => cd = .ret ∧ W.heap[w.heap.size + 1 + 1]? = some (.cells #[.bool false] 4 (0, 0)) ∧ Below w.heap.size w W ∧ Hid (pre.all (fun t => fitsK l t 1) = false))
  ?hI ?hIx ?h0 ?round ?done ?stop)
 case hS => intro b hb; simp at hb; omega
 case hI =>
  rintro N pre W W' ⟨h1, h2, h3, h4, h5⟩ hs'; exact ⟨hs'.row h1, hs'.row h2, h3.out.soft hs' h07 hkl7, h4.trans (hs'.below (by omega) h4.size), h5⟩
 case hIx =>
  rintro cd N pre W W' ⟨h1, h2, h4, h5⟩ hs'; exact ⟨h1, hs'.row h2, h4.trans (hs'.below (by omega) h4.size), h5⟩
 case h0 =>
  intro N W hs' _ _; exact ⟨hs'.row t0, hs'.row t2, HS7.out.soft hs' h07 hkl7, hbw7.trans (hs'.below (by omega) hbw7.size), rfl⟩
 case round =>
  rintro k N pre x W0 W1 K ⟨h1, h2, h3, h4, h5⟩ hs' hN hN2 hW01 hx hK; have HK' := hZ9 hK; have t0' := hs'.row h1; have t2' := hs'.row h2; have HS' := hZ9 (h3.out.soft hs' h07 hkl7); have hb1 : Below w.heap.size w W1 := h4.trans (hs'.below (by omega) h4.size); have hW0l := (glt h2)
  have HB1' := hZ9 hb1; clear hK hx h1 h2 h3 h4 HQ t0 t2 hs' hb1; rw [encT_eqK]; gi_wp2
  refine HK'.out _ _ (belowA (Below.refl _ _) _) (fun W2 hs2 hz2 => ?_); clear HK'; have v0 := hs2.row (heapOld (o := .cells #[.string x.x, .int .i64 x.v.k, .int .i64 x.v.n, .string x.v.s] 75) t0'); have v2 := hs2.row (heapOld (o := .cells #[.string x.x, .int .i64 x.v.k, .int .i64 x.v.n, .string x.v.s] 75) t2'); have vb := hs2.row (heapNew (w := W1) (o := .cells #[.string x.x, .int .i64 x.v.k, .int .i64 x.v.n, .string x.v.s] 75) (g := W1.heap.size) rfl); obtain ⟨x0, x1, x2, x4⟩ := facts4 vb; have p0 : W2.cell? ⟨w.heap.size, 0, none⟩ = some (.pointer (some ⟨g, 0, none⟩)) := (cell_of_row _ _ 0 _ _ _ v0).trans rfl; have hbA : Below W1.heap.size W1 (W1.alloc (.cells #[.string x.x, .int .i64 x.v.k, .int .i64 x.v.n, .string x.v.s] 75)) := belowA (Below.refl _ _) _; have HS2 := hZ9 ((HS'.out.on hbA).soft hs2 h07 hkl7); have hb2 : Below w.heap.size w W2 := (HB1'.out.trans (hbA.mono HB1'.out.size)).trans (hs2.below (by omega) (HB1'.out.trans (hbA.mono HB1'.out.size)).size); have HB2 := hZ9 hb2; have hzz : W1.heap.size < W2.heap.size := by rw [hz2]; simp
  have HT := hZ9 (fits_any w0 g km cs l0 l x.x x.v.k x.v.n x.v.s 1 W2 HS2.out); have HAll : Hid ((pre ++ [x]).all (fun t => fitsK l t 1) = fitsK l ⟨x.x, ⟨x.v.k, x.v.n, x.v.s⟩⟩ 1) := by show _ = _; rw [List.all_append, h5.out]; simp
  obtain ⟨B, hB⟩ : ∃ B, fitsK l ⟨x.x, ⟨x.v.k, x.v.n, x.v.s⟩⟩ 1 = B := ⟨_, rfl⟩
  rw [hB] at HT HAll; clear hz2 hs2 vb t0' t2' HS' hbA hb2 HB1' hB h5; gi_wp2_with fail
  refine ⟨trivial, (fun h => by cases h), (CallsIn.inRound _ (callsIn_wide.2 HT.out)).mono ?_⟩; rintro r W3 ⟨rfl, hb3⟩; have v3 := (hb3.block _ (glt v0)).trans v0; have v4 := (hb3.block _ (glt v2)).trans v2; have hz3 := hb3.size; have f4 : W3.frozen? ⟨w.heap.size + 1 + 1, 0, none⟩ = false := frozen_of_row _ _ _ _ _ v4; have e4 : W3.cell? ⟨w.heap.size + 1 + 1, 0, none⟩ = some (.bool false) := (cell_of_row _ _ 0 _ _ _ v4).trans rfl; have HB3 : Hid (Below w.heap.size w W3) := HB2.out.trans (hb3.mono HB2.out.size); have Hb3 := hZ9 hb3; cases B with
  | true =>
    have HE : Hid (Turn2 [w.heap.size + 1 + 1] N W0.heap.size W2 W3) := Turn2.of_below hb3 (by omega)
    have HF : Hid (W3.heap[w.heap.size]? = some (.cells #[.pointer (some ⟨g, 0, none⟩)] 97 (0, 0)) ∧ W3.heap[w.heap.size + 1 + 1]? = some (.cells #[.bool false] 4 (0, 0)) ∧ Hid (Scp w0 W3 g km cs l0 l) ∧ Below w.heap.size w W3 ∧ Hid ((pre ++ [x]).all (fun t => fitsK l t 1) = true)) :=
     ⟨v3, v4, HS2.out.on hb3, HB3.out, HAll⟩
    clear hb3 v3 v4 v0 v2 x0 x1 x2 x4 p0 HT HS2 HB2 f4 e4; gi_wp2_with fail
    exact ⟨HE.out, HF.out⟩
  | false =>
    have v5 := set_zero (v := .bool false) v4; have HE : Hid (Turn2 [w.heap.size + 1 + 1] N W0.heap.size W2 (W3.setCell ⟨w.heap.size + 1 + 1, 0, none⟩ (.bool false))) := Turn2.of_out (T := [w.heap.size + 1 + 1]) ((Out.of_below hb3 _).trans (set_out W3 _ 0 _) (fun b hb _ => hb)) (by omega) (fun b hb _ => ⟨.inl hb, by simp at hb; omega⟩)
    have HF : Hid ((W3.setCell ⟨w.heap.size + 1 + 1, 0, none⟩ (.bool false)).heap[w.heap.size + 1 + 1]? = some (.cells #[.bool false] 4 (0, 0)) ∧ Below w.heap.size w (W3.setCell ⟨w.heap.size + 1 + 1, 0, none⟩ (.bool false)) ∧ Hid ((pre ++ [x]).all (fun t => fitsK l t 1) = false)) :=
     ⟨v5, HB3.out.setCell (by show w.heap.size ≤ w.heap.size + 1 + 1; omega) _, HAll⟩
    clear hb3 v3 v4 v0 v2 x0 x1 x2 x4 p0 HT HS2 HB2 v5; gi_wp2_with fail
    exact ⟨HE.out, rfl, HF.out⟩
 case done =>
  rintro N xs W hxs ⟨h1, h2, h3, h4, h5⟩ hD; obtain rfl : xs = L := hxs.out; have f4 : W.frozen? ⟨w.heap.size + 1 + 1, 0, none⟩ = false := frozen_of_row _ _ _ _ _ h2; have e4 : W.cell? ⟨w.heap.size + 1 + 1, 0, none⟩ = some (.bool false) := (cell_of_row _ _ 0 _ _ _ h2).trans rfl; have HR := hZ9 h2; have HBw := hZ9 h4; have HDD := hZ9 hD; clear h1 h2 h3 h4 HQ hxs hD; go_wp2_with fail
  have v2 := set_zero (v := .bool true) HR.out; have hD2 : (W.setCell ⟨w.heap.size + 1 + 1, 0, none⟩ (.bool true)).heap[w7.heap.size]? = some (.deferred (some [])) := (World.heap_setCells_other' (by omega)).trans HDD.out; refine ⟨by simp, .inl ⟨_, _, rfl, run_takeDeferred hD2, ?_⟩⟩; have cr2 : ((W.setCell ⟨w.heap.size + 1 + 1, 0, none⟩ (.bool true)).putObj w7.heap.size (.deferred none)).cell? ⟨w.heap.size + 1 + 1, 0, none⟩ = some (.bool true) := (cell_of_row _ _ 0 _ _ _ ((World.putObj_heap_other (by omega)).trans v2)).trans rfl; have hbs : Below w.heap.size w (W.setCell ⟨w.heap.size + 1 + 1, 0, none⟩ (.bool true)) := HBw.out.setCell (by show w.heap.size ≤ w.heap.size + 1 + 1; omega) _; have hsf : Soft w7.heap.size (W.setCell ⟨w.heap.size + 1 + 1, 0, none⟩ (.bool true)) ((W.setCell ⟨w.heap.size + 1 + 1, 0, none⟩ (.bool true)).putObj w7.heap.size (.deferred none)) := Soft.putObj _ (Nat.le_refl _) hD2 rfl
  have HE : Hid (P (.returned (.bool true)) ((W.setCell ⟨w.heap.size + 1 + 1, 0, none⟩ (.bool true)).putObj w7.heap.size (.deferred none))) := by
   show P _ _; rw [HP.out]; exact ⟨by rw [h5.out], hbs.trans (hsf.below (by omega) hbs.size)⟩
  exact ⟨.bool true, by simp [results, Tryz.results104, go_sem, cr2], HE.out⟩
 case stop =>
  rintro cd N pre W hSp ⟨rfl, h2, h4, h5⟩ hD
  have hfa : L.all (fun t => fitsK l t 1) = false := by
   obtain ⟨q, hq⟩ := hSp.out; rw [← hq, List.all_append, h5.out]; rfl
  have cr : (W.putObj w7.heap.size (.deferred none)).cell? ⟨w.heap.size + 1 + 1, 0, none⟩ = some (.bool false) := (cell_of_row _ _ 0 _ _ _ ((World.putObj_heap_other (by omega)).trans h2)).trans rfl; have hsf : Soft w7.heap.size W (W.putObj w7.heap.size (.deferred none)) := Soft.putObj _ (Nat.le_refl _) hD rfl
  have HE : Hid (P (.returned (.bool false)) (W.putObj w7.heap.size (.deferred none))) := by
   show P _ _; rw [HP.out]; exact ⟨by rw [hfa], h4.trans (hsf.below (by omega) h4.size)⟩
  clear h2 h4 h5 HQ hsf hfa hSp; refine wpIn_wide.2 ?_; go_wp2_with fail
  refine ⟨by simp, .inl ⟨_, _, rfl, run_takeDeferred hD, ?_⟩⟩; exact ⟨.bool false, by simp [results, Tryz.results104, go_sem, cr], HE.out⟩
end Go.Proofs.YtaeedepojpablaaGreatDoor

namespace Go.Proofs.YtaeedepojpablaaGreatDoor
open Go.RowKit
def IdxRet (ds : List GDecl) (r : ByteArray) (w : World) (e : Ending) (w' : World) : Prop := e = .returned (.int .i64 (idxI (idxD ds r))) ∧ Below w.heap.size w w'
theorem idxRet_hit {ds : List GDecl} {r : ByteArray} {k : Nat} {d : GDecl} {w w' : World} (hk : ds[k]? = some d) (hd : d.rel = r) (hn : ∀ y ∈ ds.take k, y.rel ≠ r) (hb : Below w.heap.size w w') : IdxRet ds r w (.returned (.int .i64 (k : Int))) w' := by
 refine ⟨?_, hb⟩; rw [idxD_hit hk hd hn]; rfl
theorem idxRet_miss {ds : List GDecl} {r : ByteArray} {w w' : World} (hn : ∀ y ∈ ds, y.rel ≠ r) (hb : Below w.heap.size w w') : IdxRet ds r w (.returned (.int .i64 (-1))) w' := by
 refine ⟨?_, hb⟩; rw [idxD_miss hn]; rfl
theorem take_miss {ds : List GDecl} {r : ByteArray} {k : Nat} {d : GDecl} (hk : ds[k]? = some d) (hd : d.rel ≠ r) (hn : ∀ y ∈ ds.take k, y.rel ≠ r) : ∀ y ∈ ds.take (k + 1), y.rel ≠ r := by
 intro y hy; rw [List.take_add_one, hk] at hy; rcases List.mem_append.1 hy with hy | hy
 ·exact hn y hy
 ·simp at hy; subst hy; exact hd
theorem rel_eq {x r : ByteArray} (h : x = r) : (x.toList == r.toList) = true ∧ (x == r) = true ∧ decide (x.toList = r.toList) = true := by subst h; simp
theorem rel_ne {x r : ByteArray} (h : x ≠ r) : (x.toList == r.toList) = false ∧ (x == r) = false ∧ decide (x.toList = r.toList) = false := by
 have h1 : x.toList ≠ r.toList := fun e => h ((toList_inj _ _).1 e)
 simp [h1, h]
theorem idx1_any (x : GDecl) (a : Hd) (g : Nat) (r : ByteArray) (B : Bool) (hB : x.rel = r ↔ B = true) (w : World) (hg : w.cell? ⟨g, 0, none⟩ = some (.string r)) :
 Calls Tryz.prog 36 #[.agg #[.string x.rel, a.v, .int .i64 x.pos], .pointer (some ⟨g, 0, none⟩)] w (RetBool B w) := by
 have cg : (w.alloc (.cells #[.string x.rel, a.v, .int .i64 x.pos] 94)).cell? ⟨g, 0, none⟩ = some (.string r) := cellA hg; have hrb : (w.alloc (.cells #[.string x.rel, a.v, .int .i64 x.pos] 94)).heap[w.heap.size]? = some (.cells #[.string x.rel, a.v, .int .i64 x.pos] 94 (0, 0)) := heapNew rfl; obtain ⟨b0, b1, b2⟩ := facts3 hrb; have hbw : Below w.heap.size w (w.alloc (.cells #[.string x.rel, a.v, .int .i64 x.pos] 94)) := belowA (Below.refl _ _) _; have HB := hZ9 hbw
 have hE : (x.rel.toList == r.toList) = B ∧ (x.rel == r) = B ∧ decide (x.rel.toList = r.toList) = B := by
  cases B with
  | true => exact rel_eq (hB.2 rfl)
  | false => exact rel_ne (fun e => by have := hB.1 e; cases this)
 obtain ⟨e1, e2, e3⟩ := hE; clear hg hrb hbw hB; go_enter Tryz.func36, Tryz.ntmps36
 go_wp2_with fail
 go_ret; exact ⟨by simp_all, HB.out⟩
theorem idxF_any (A : Option Addr) (n c : Nat) (l : List GDecl) (g : Nat) (r : ByteArray) (w : World) (hl : SliceIs Enc.decl w w.heap.size A n c l) (hg : w.cell? ⟨g, 0, none⟩ = some (.string r)) :
 Calls Tryz.prog 35 #[.slice A n c, .func (.func 36) #[] #[.pointer (some ⟨g, 0, none⟩)]] w (IdxRet l r w) := by
 have hn := hl.bound; have HL := hZ9 hl; have hlen := hZ9 hl.1; have Hg := hZ9 hg; clear hl hg; go_enter Tryz.func35, Tryz.ntmps35
 go_wp2_with fail
 go_loopw [5, 8] (fun _ i wr => ∃ k : Nat, k ≤ n ∧ i = .int .i64 k ∧ Hid (∀ y ∈ l.take k, y.rel ≠ r) ∧ Below w.heap.size w wr) (fun _ i _ => n - (intOf i).toNat)
 case atStart => exact ⟨0, by omega, rfl, (fun y hy => by simp at hy), Below.refl _ _⟩
 case round =>
  obtain ⟨k, hk, rfl, hpre, hbr⟩ := hrel; by_cases hlt : k < n
  ·have HLr := (HL.out.below hbr)
   obtain ⟨b, o, x, a, rfl, hbb, hx, hat, z0, z1, z2⟩ := HLr.decl_at hlt; have i0 : (0 : Int) ≤ (k : Int) := by omega
   have i1 : (k : Int) < (n : Int) := by omega
   obtain ⟨B, hB⟩ : ∃ B : Bool, x.rel = r ↔ B = true := ⟨decide (x.rel = r), by simp⟩
   have C := hZ9 (idx1_any x a g r B hB wr (below_cell hbr Hg.out)); have HT : Hid (B = false → ∀ y ∈ l.take (k + 1), y.rel ≠ r) := fun hf => take_miss hx.out (fun e => by have := hB.1 e; rw [hf] at this; cases this) hpre.out
   have HF : Hid (B = true → ∀ w1, Below w.heap.size w w1 → IdxRet l r w (.returned (.int .i64 (k : Int))) w1) := fun ht w1 h1 => idxRet_hit hx.out (hB.2 ht) hpre.out h1
   clear HLr hat hB; cases B with
   | false =>
    have HT2 := hZ9 (HT.out rfl); clear HF HT; go_wp2_with fail
    refine C.out.mono ?_; rintro e w1 ⟨rfl, hb⟩; have Hb := hZ9 hb; clear hb; go_wp2_with fail
    go_roundw
    case rel => exact ⟨k + 1, by omega, by go_num, HT2, below_next hbr Hb.out⟩
    case measure => simp [intOf]; omega
   | true =>
    have HF2 := hZ9 (HF.out rfl); clear HF HT; go_wp2_with fail
    refine C.out.mono ?_; rintro e w1 ⟨rfl, hb⟩; have HE := hZ9 (HF2.out w1 (below_next hbr hb)); clear hb HF2; go_wp2_with fail
    go_ret; exact HE.out
  ·have i1 : ¬ (k : Int) < (n : Int) := by omega
   have HA : Hid (IdxRet l r w (.returned (.int .i64 (-1))) wr) := idxRet_miss (fun y hy => hpre.out y (by rw [List.take_of_length_le (by have := hlen.out; omega)]; exact hy)) hbr; go_wp2_with fail
   go_ret; exact HA.out
theorem tyIndex_any (aA : Option Addr) (an ac : Nat) (bv : Value) (l : List GDecl) (r : ByteArray) (w : World) (hl : SliceIs Enc.decl w w.heap.size aA an ac l) :
 Calls Tryz.prog 14 #[.agg #[.slice aA an ac, bv], .string r] w (IdxRet l r w) := by
 obtain ⟨V, hV⟩ : ∃ V, V = (w.alloc (.cells #[.slice aA an ac, bv] 26)).alloc (.cells #[.string r] 9) := ⟨_, rfl⟩
 have HVe := hZ9 hV.symm; have hb : Below w.heap.size w V := by rw [hV]; exact belowA (belowA (Below.refl _ _) _) _
 have hr0 : V.heap[w.heap.size]? = some (.cells #[.slice aA an ac, bv] 26 (0, 0)) := by rw [hV]; exact heapOld (heapNew rfl)
 have hr1 : V.heap[w.heap.size + 1]? = some (.cells #[.string r] 9 (0, 0)) := by rw [hV]; exact heapNew (by simp)
 have c0 : V.cell? ⟨w.heap.size, 0, none⟩ = some (.slice aA an ac) := (cell_of_row _ _ 0 _ _ _ hr0).trans rfl; have C := hZ9 (idxF_any aA an ac l (w.heap.size + 1) r V (hl.keep hb) ((cell_of_row _ _ 0 _ _ _ hr1).trans rfl)); have HB := hZ9 hb; clear hV hb hr0 hr1 hl; go_enter Tryz.func14, Tryz.ntmps14
 go_wp2_with (rw [HVe.out])
 refine C.out.mono ?_; rintro e w1 ⟨rfl, hb1⟩; have HE : Hid (IdxRet l r w (.returned (.int .i64 (idxI (idxD l r)))) w1) := ⟨rfl, HB.out.trans (hb1.mono HB.out.size)⟩
 clear hb1; go_wp2_with fail
 go_ret; exact HE.out
end Go.Proofs.YtaeedepojpablaaGreatDoor

namespace Go.Proofs.YtaeedepojpablaaGreatDoor
open Go.RowKit
theorem far_of_own {α : Type} {E : Enc α} {w : World} {base e : Nat} {A : Option Addr} {n c : Nat} {l : List α} (f : α → List Value) (hf : ∀ x, (f x).length = E.sz) (h : w.ownsRow base e E.sz (.slice A n c) n (l.flatMap f)) (hl : l.length = n) (hr : n ≤ reachN) (hok : ∀ x ∈ l, ∀ W B, E.ok W B (f x) x) : SliceFar E w (List.range base) A n c l := by
 have h1 := SliceIs.of_flat (E := E) f hf (own_sans (S := List.range base) h (fun b hb => List.mem_range.1 hb)) hl hr (fun x hx => hok x hx _ _); rw [sans_size] at h1; exact h1
theorem SliceFar.sub {α : Type} {E : Enc α} {w : World} {S T : List Nat} {A : Option Addr} {n c : Nat} {l : List α} (h : SliceFar E w S A n c l) (hT : ∀ b ∈ T, b < w.heap.size → b ∈ S) : SliceFar E w T A n c l := h.out (Out.refl [] w) (fun b hb _ => by cases hb) hT
def KindsPost (l : List Int) (w : World) (e : Ending) (w' : World) : Prop := ∃ A' c', e = .returned (.slice A' l.length c') ∧ SliceFar Enc.int w' (List.range w.heap.size) A' l.length c' l ∧ Below w.heap.size w w'
theorem info_kind : (Tryz.prog.info? 47).map (fun i => (i.zero, i.size, i.bytes)) = some (some (.int .i64 0), 1, 8) := by kernel_rfl
theorem cloneK_any (A : Option Addr) (m c : Nat) (l : List Int) (w : World) (h : SliceIs Enc.int w w.heap.size A m c l) (hm : m ≤ 10000) : Calls Tryz.prog 34 #[.slice A m c] w (KindsPost l w) := by
 have hlm : l.length = m := h.1; have hq := fun W => Lib.run_eql_slice_nil (P := Tryz.prog) W 40 47 A m c 0 0 Tryz.underlying40
 have hfl : ∀ x ∈ l, fits x := fun x hx => by
  obtain ⟨i, hi, rfl⟩ := List.mem_iff_getElem.1 hx; obtain ⟨b, o, y, hA, hb, hy, hc, hf⟩ := h.int_at (i := i) (by omega); have := hy.out; rw [List.getElem?_eq_getElem hi] at this; cases this
  exact hf
 cases A with
 | none =>
   have hl0 : l = [] ∧ m = 0 := by
    rcases h.2.2.2.2 with h5 | ⟨b, o, hA, _⟩
    ·exact ⟨h5, by rw [← hlm, h5]; rfl⟩
    ·cases hA
   obtain ⟨rfl, rfl⟩ := hl0; have HE : Hid (KindsPost [] w (.returned (.slice none 0 0)) w) := ⟨none, 0, rfl, SliceFar.nil, Below.refl _ _⟩
   simp only [Option.isNone_none] at hq; clear h hlm; go_enter Tryz.func34, Tryz.ntmps34
   go_wp2_with fail
   go_ret; exact HE.out
 | some a =>
   obtain ⟨v', w', h1, h2, h3, h4⟩ := run_append_slice (P := Tryz.prog) (E := Enc.int) (B := w.heap.size) (ty := 40) (fun x => [.int .i64 x]) (fun _ => rfl) (fun h => h.1) (fun x u hu => by simp at hu; subst hu; rfl) (w.alloc (.cells #[] 47)) (base := w.heap.size) Tryz.underlying40 info_kind rfl (by decide)
    (own_empty (Nat.le_refl _) (Go.heap_alloc_new w _)) (h.below (belowA (Below.refl _ _) _)) (by simp [maxLen]; omega) (by omega) (by simp)
   obtain ⟨A', c', rfl⟩ := own_form h2; rw [Nat.zero_add] at h1 h2; have U := hZ9 h1
   have HE : Hid (KindsPost l w (.returned (.slice A' m c')) w') := ⟨A', c', by rw [hlm], by
    rw [List.nil_append] at h2; rw [hlm]
    exact far_of_own (fun x => [.int .i64 x]) (fun _ => rfl) h2 hlm (by simp [reachN]; omega) (fun q hq W B => ⟨rfl, hfl q hq⟩), (belowA (Below.refl _ _) _ : Below w.heap.size w _).trans h4⟩
   simp only [Option.isNone_some] at hq; clear h h1 h2 h3 h4 hlm hfl; go_enter Tryz.func34, Tryz.ntmps34
   go_wp2_with (at_builtin; refine wpList_append_run (o := ⟨some 7, _, _, _, _, _⟩) rfl _ _ _ rfl _ _ rfl rfl U.out ?_)
   go_ret; exact HE.out
def OfPost (ds : List GDecl) (r : ByteArray) (w : World) (e : Ending) (w' : World) : Prop := ∃ A c, e = .returned (.tuple #[.slice A (kindsD ds r).length c, .bool (idxD ds r).isSome]) ∧ SliceFar Enc.int w' (List.range w.heap.size) A (kindsD ds r).length c (kindsD ds r) ∧ Below w.heap.size w w'
theorem ofK_any (aA : Option Addr) (an ac : Nat) (bv : Value) (ds : List GDecl) (r : ByteArray) (w : World) (hl : SliceIs Enc.decl w w.heap.size aA an ac ds) (hk : ∀ d ∈ ds, d.kinds.length ≤ 10000) :
 Calls Tryz.prog 12 #[.agg #[.slice aA an ac, bv], .string r] w (OfPost ds r w) := by
 obtain ⟨V, hV⟩ : ∃ V, V = w.alloc (.cells #[.slice aA an ac, bv] 26) := ⟨_, rfl⟩
 have HVe := hZ9 hV.symm; have hb : Below w.heap.size w V := by rw [hV]; exact belowA (Below.refl _ _) _
 have hr0 : V.heap[w.heap.size]? = some (.cells #[.slice aA an ac, bv] 26 (0, 0)) := by rw [hV]; exact heapNew rfl
 have hgl := (glt hr0)
 obtain ⟨c0, c1⟩ := facts2 hr0; have HL := hZ9 (hl.keep hb); have HI := hZ9 (tyIndex_any aA an ac bv ds r V HL.out); have HC : Hid (∀ W, Below V.heap.size V W → W.cell? ⟨w.heap.size, 0, none⟩ = some (.slice aA an ac)) := fun W hW => (facts2 ((hW.block _ hgl).trans hr0)).1
 have HB := hZ9 hb; have Hk := hZ9 hk; obtain ⟨P, HP⟩ : ∃ P : Ending → World → Prop, Hid (P = OfPost ds r w) := ⟨_, rfl⟩
 rw [← HP.out]; clear hl hV hb hr0 hk; go_enter Tryz.func12, Tryz.ntmps12
 go_wp2_with (rw [HVe.out])
 refine HI.out.mono ?_; rintro e w1 ⟨rfl, hb1⟩; have HB1 := hZ9 hb1; obtain ⟨fr, Hfr⟩ : ∃ fr, Hid (idxI (idxD ds r) = fr) := ⟨_, rfl⟩
 rw [Hfr.out]; clear hb1 HI c0 c1; cases hi : idxD ds r with
 | none =>
   have HE : Hid (P (.returned (.tuple #[.slice none 0 0, .bool false])) w1) := by
    show P _ _; rw [HP.out]; have h0 := kindsD_none hi; unfold OfPost; rw [h0, hi]; exact ⟨none, 0, rfl, SliceFar.nil, HB.out.trans (HB1.out.mono HB.out.size)⟩
   obtain rfl : fr = -1 := by rw [← Hfr.out, hi]; rfl
   clear hi Hfr; go_wp2_with fail
   first | exact HE.out | (go_ret; exact HE.out)
 | some i =>
   have hlt := idxD_lt hi; obtain ⟨b, o, x, a, rfl, hbb, hx, hat, z0, z1, z2⟩ := (HL.out.keep HB1.out).decl_at (i := i) (by have := HL.out.1; omega); have hkx := Hk.out x (List.mem_of_getElem? hx.out); have hxk : kindsD ds r = x.kinds := kindsD_some hi hx.out; have hn : (i : Int) < (an : Int) := by have := HL.out.1; omega
   have h0 : ¬ (i : Int) < 0 := by omega
   have h1 : (0 : Int) ≤ (i : Int) := by omega
   have d0 := HC.out w1 HB1.out; have HCl := hZ9 (cloneK_any a.A a.n a.c x.kinds w1 hat.kinds (by have := hat.kinds.1; omega))
   have HEn : Hid (∀ A' c' w', SliceFar Enc.int w' (List.range w1.heap.size) A' x.kinds.length c' x.kinds → Below w1.heap.size w1 w' → P (.returned (.tuple #[.slice A' x.kinds.length c', .bool true])) w') := fun A' c' w' h1 h2 => by
    rw [HP.out]; unfold OfPost; rw [hxk, hi]; exact ⟨A', c', rfl, h1.low (Nat.le_trans HB.out.size HB1.out.size), HB.out.trans ((HB1.out.trans (h2.mono HB1.out.size)).mono HB.out.size)⟩
   obtain ⟨aA', an', ac'⟩ := a; dsimp only [Hd.v] at z1 HCl; obtain rfl : fr = (i : Int) := by rw [← Hfr.out, hi]; rfl
   clear Hfr hi hat hx hxk hkx; go_wp2_with fail
   refine HCl.out.mono ?_; rintro e w2 ⟨A', c', rfl, hs2, hb2⟩; have HE := hZ9 (HEn.out A' c' w2 hs2 hb2); clear hs2 hb2 HEn; go_wp2_with fail
   first | exact HE.out | (go_ret; exact HE.out)
end Go.Proofs.YtaeedepojpablaaGreatDoor

namespace Go.Proofs.YtaeedepojpablaaGreatDoor
open Go.RowKit
theorem argsK_snoc {ks : List Int} {but : Int} : ∀ (l : Kinds) (r : List GTold) (t : GTold) (i : Nat), argsK ks but l (r ++ [t]) i = if ((i + r.length : Nat) : Int) ≠ but ∧ i + r.length < ks.length then kput (argsK ks but l r i) t.x (ks.getD (i + r.length) 0) else argsK ks but l r i
 | l, [], t, i => by
   rw [List.nil_append, argsK, argsK, argsK]; simp only [List.length_nil, Nat.add_zero]
 | l, u :: r, t, i => by
   rw [List.cons_append, argsK, argsK, argsK_snoc _ r t (i + 1)]; simp only [List.length_cons]; rw [show i + 1 + r.length = i + (r.length + 1) by omega]
theorem argsK_take {ks : List Int} {but : Int} (l : Kinds) {r : List GTold} {k : Nat} {t : GTold} (hk : r[k]? = some t) : argsK ks but l (r.take (k + 1)) 0 = if (k : Int) ≠ but ∧ k < ks.length then kput (argsK ks but l (r.take k) 0) t.x (ks.getD k 0) else argsK ks but l (r.take k) 0 := by
 have hlt := (List.getElem?_eq_some_iff.1 hk).1; rw [List.take_add_one, hk, Option.toList_some, argsK_snoc, List.length_take, Nat.zero_add, Nat.min_eq_left (by omega)]
theorem columns_any (w0 : World) (g km : Nat) (aA : Option Addr) (an ac : Nat) (bv : Value) (rest : List Value) (l0 l : Kinds) (ds : List GDecl) (hD : SliceIs Enc.decl w0 w0.heap.size aA an ac ds) (hk : ∀ d ∈ ds, d.kinds.length ≤ 10000)
 (rel : ByteArray) (A : Option Addr) (n c : Nat) (args : List GTold) (ha : SliceIs Enc.told w0 w0.heap.size A n c args) (but : Int) (w : World) (h : Scp w0 w g km (.slice aA an ac :: bv :: rest) l0 l) :
 Calls Tryz.prog 60 #[.pointer (some ⟨g, 0, none⟩), .agg #[.string rel, .slice A n c], .int .i64 but] w (TellPost w0 g km (.slice aA an ac :: bv :: rest) l0 (argsK (kindsD ds rel) but l args 0) w) := by
 have mixed : Tryz.prog.follows .mixedOrders = true := by kernel_rfl
 obtain ⟨V, hV⟩ : ∃ V, V = w.alloc (.cells #[.string rel, .slice A n c] 53) := ⟨_, rfl⟩
 have HVe := hZ9 hV.symm; have hr : V.heap[w.heap.size]? = some (.cells #[.string rel, .slice A n c] 53 (0, 0)) := by rw [hV]; exact heapNew rfl
 have hb : Below w.heap.size w V := by rw [hV]; exact belowA (Below.refl _ _) _
 have hgl := (glt hr)
 have hs := h.on hb; obtain ⟨c0, c1⟩ := facts2 hr; have x0 := hs.cell (i := 0) rfl; have x1 := hs.cell (i := 1) rfl; have HS := hZ9 hs; have HB := hZ9 hb; have hbd : Below V.heap.size V V.drew := (Below.refl _ _).drew; have HO := hZ9 (ofK_any aA an ac bv ds rel V.drew (hD.mono' (hs.on hbd).b0.size (Kept.of (hs.on hbd).b0.block)) hk); have HA : Hid (∀ W, Below V.heap.size V W → W.cell? ⟨w.heap.size, 1, none⟩ = some (.slice A n c)) := fun W hW => (facts2 ((hW.block _ hgl).trans hr)).2
 have HArg := hZ9 ha; have hn := ha.bound; have Hlen := hZ9 ha.1; have Hgk := hZ9 (And.intro h.gb h.kb); obtain ⟨P, HP⟩ : ∃ P : Ending → World → Prop, Hid (P = TellPost w0 g km (.slice aA an ac :: bv :: rest) l0 (argsK (kindsD ds rel) but l args 0) w) := ⟨_, rfl⟩
 rw [← HP.out]; obtain ⟨cs, hcs⟩ : ∃ cs, Hid (Value.slice aA an ac :: bv :: rest = cs) := ⟨_, rfl⟩
 rw [hcs.out] at HS HP; obtain ⟨ks, hks⟩ : ∃ ks, Hid (kindsD ds rel = ks) := ⟨_, rfl⟩
 obtain ⟨nk, Hnk⟩ : ∃ nk, Hid (ks.length = nk) := ⟨_, rfl⟩
 obtain ⟨bo, Hbo⟩ : ∃ bo, Hid ((idxD ds rel).isSome = bo) := ⟨_, rfl⟩
 unfold OfPost at HO; rw [hks.out, Hnk.out, Hbo.out] at HO; rw [hks.out] at HP; have Hbd := hZ9 hbd; clear h hV hr hb hs hD hk ha hbd; go_enter Tryz.func60, Tryz.ntmps60
 go_wp2_with (rw [HVe.out])
 go_region_held3 (fun W => W.cell? ⟨w.heap.size, 0, none⟩ = some (.string rel) ∧ W.cell? ⟨g, 0, none⟩ = some (.slice aA an ac) ∧ W.cell? ⟨g, 1, none⟩ = some bv)
  (go_keep)
  ((first
    | (go_at_call 12
       refine HO.out.mono ?_; rintro e w1 ⟨A1, c1', rfl, hs1, hb1⟩; have HK1 := hZ9 hs1; have HB1 := hZ9 hb1; have k0 : w1.cell? ⟨w.heap.size, 0, none⟩ = some (.string rel) := below_cell hb1 (show V.drew.cell? _ = _ from c0); have k1 : w1.cell? ⟨g, 0, none⟩ = some (.slice aA an ac) := below_cell hb1 (show V.drew.cell? _ = _ from x0); have k2 : w1.cell? ⟨g, 1, none⟩ = some bv := below_cell hb1 (show V.drew.cell? _ = _ from x1)
       clear hs1 hb1)))
 all_goals
  have hs1 := (HS.out.on Hbd.out).on HB1.out; have hb1 : Below V.heap.size V w1 := Hbd.out.trans HB1.out; have hbw := HB.out.trans (hb1.mono HB.out.size); have HS1 : Hid (Scp w0 w1 g km cs l0 (argsK ks but l (args.take 0) 0)) := hs1; have HO1 : Hid (Out [g, km] w w1) := Out.of_below hbw _
  have HK2 : Hid (SliceFar Enc.int w1 [g, km] A1 nk c1' ks) := HK1.out.sub (fun b hb _ => List.mem_range.2 (by
   have h1 := Hgk.out.1; have h2 := Hgk.out.2; have h3 : w.heap.size ≤ V.drew.heap.size := HB.out.size
   simp at hb; omega))
  have d1 := HA.out w1 hb1; have hwl : Hid (w.heap.size < w1.heap.size) := Nat.lt_of_lt_of_le hgl hb1.size; clear hs1 hb1 hbw c0 c1 x0 x1 HK1 k0 k1 k2; go_wp2_with fail
  clear d1; go_loopw [8, 9, 23] (fun _ _ i wr => ∃ k : Nat, k ≤ n ∧ i = .int .i64 (k : Int) ∧ Hid (Scp w0 wr g km cs l0 (argsK ks but l (args.take k) 0)) ∧ Hid (Out [g, km] w wr) ∧ Hid (SliceFar Enc.int wr [g, km] A1 nk c1' ks)) (fun _ _ i _ => n - (intOf i).toNat)
  case atStart => exact ⟨0, by omega, rfl, HS1, HO1, HK2⟩
  case round =>
   clear HS1 HO1 HK2 HO HB1 Hbd HB HS; obtain ⟨k, hk, rfl, HSk, HOk, HKk⟩ := hrel; by_cases hlt : k < n
   ·have i0 : (0 : Int) ≤ (k : Int) := by omega
    have i1 : (k : Int) < (n : Int) := by omega
    have hb0 := HSk.out.b0; obtain ⟨b, o, x, rfl, hbb, hx, z0, z1, z2, z3, -, -⟩ := (HArg.out.mono' hb0.size (Kept.of hb0.block)).told_at hlt; obtain ⟨Q, hQ⟩ : ∃ Q, Q = wr.alloc (.cells #[.string x.x, .int .i64 x.v.k, .int .i64 x.v.n, .string x.v.s] 75) := ⟨_, rfl⟩
    have HQe := hZ9 hQ.symm; have hbQ : Below wr.heap.size wr Q := by rw [hQ]; exact belowA (Below.refl _ _) _
    have hrQ : Q.heap[wr.heap.size]? = some (.cells #[.string x.x, .int .i64 x.v.k, .int .i64 x.v.n, .string x.v.s] 75 (0, 0)) := by rw [hQ]; exact heapNew rfl
    have y0 := (facts4 hrQ).1; have HSQ := hZ9 (HSk.out.on hbQ); have HOQ : Hid (Out [g, km] w Q) := HOk.out.trans (Out.of_below hbQ []) (by simp); have HKQ := hZ9 (HKk.out.on hbQ); have HTk := hZ9 (argsK_take (ks := ks) (but := but) l hx.out); have Hx := hZ9 hx.out; clear hb0 hx hbQ hrQ hQ; by_cases hbut : (k : Int) = but
    ·have e1 : ((k : Int) != but) = false := by simpa using hbut
     have HTn : Hid (argsK ks but l (args.take (k + 1)) 0 = argsK ks but l (args.take k) 0) := HTk.out.trans (if_neg (fun q => q.1 hbut)); have HS3 : Hid (Scp w0 Q g km cs l0 (argsK ks but l (args.take (k + 1)) 0)) := by show Scp _ _ _ _ _ _ _; rw [HTn.out]; exact HSQ.out
     clear hbut HTk HTn HSQ; go_wp2_with (rw [HQe.out])
     go_roundw
     case rel => exact ⟨k + 1, by omega, by go_num, HS3, HOQ, HKQ⟩
     case measure => simp [intOf]; omega
    ·have e1 : ((k : Int) != but) = true := by simpa using hbut
     by_cases hlk : k < nk
     ·have e2 : (k : Int) < (nk : Int) := by omega
      obtain ⟨b2, o2, kk, rfl, hbb2, hkk, u0, -⟩ := HKQ.out.is.int_at hlk
      have HTn : Hid (argsK ks but l (args.take (k + 1)) 0 = kput (argsK ks but l (args.take k) 0) x.x kk) := by
       show _ = _; rw [HTk.out, if_pos ⟨hbut, by rw [Hnk.out]; exact hlk⟩, List.getD_eq_getElem?_getD, hkk.out]; rfl
      have HT := hZ9 (tell_any w0 g km cs l0 (argsK ks but l (args.take k) 0) x.x kk Q.drew (HSQ.out.on (Below.refl _ _).drew)); have HOd : Hid (Out [g, km] w Q.drew) := HOQ.out.trans (Out.of_below (Below.refl _ _).drew []) (by simp); have HKd := hZ9 (HKQ.out.on (Below.refl _ _).drew); clear hbut HTk HSQ HOQ HKQ hkk Hx; go_wp2_with (rw [HQe.out])
      refine drawnM mixed _ (fun W => W = Q.drew) rfl (by kernel_rfl) rfl rfl ?_
      iterate 7
       apply seqL_op
       ·rintro W rfl; go_wp2_with fail
        exact ⟨rfl, rfl, fun d hd => by cases hd; simp only [List.getElem?_toArray, List.getElem?_cons_succ, List.getElem?_cons_zero]; rfl, rfl⟩
       simp only [Act.put, List.setIfInBounds_toArray, List.set_cons_succ, List.set_cons_zero]
      apply seqL_end; rintro W rfl; go_wp2_with fail
      refine HT.out.mono ?_; rintro e w3 ⟨rfl, hs3, ho3⟩; have HS3 : Hid (Scp w0 w3 g km cs l0 (argsK ks but l (args.take (k + 1)) 0)) := by show Scp _ _ _ _ _ _ _; rw [HTn.out]; exact hs3
      have HO3 : Hid (Out [g, km] w w3) := HOd.out.trans ho3 (fun b hb _ => hb); have HK3 := hZ9 (HKd.out.out (U := [g, km]) ho3 (fun b hb _ => hb) (fun b hb _ => hb)); clear hs3 ho3 HT HOd HKd HTn y0 u0; go_wp2_with fail
      go_roundw
      case rel => exact ⟨k + 1, by omega, by go_num, HS3, HO3, HK3⟩
      case measure => simp [intOf]; omega
     ·have e2 : ¬ (k : Int) < (nk : Int) := by omega
      have HTn : Hid (argsK ks but l (args.take (k + 1)) 0 = argsK ks but l (args.take k) 0) := HTk.out.trans (if_neg (fun q => hlk (by rw [← Hnk.out]; exact q.2))); have HS3 : Hid (Scp w0 Q g km cs l0 (argsK ks but l (args.take (k + 1)) 0)) := by show Scp _ _ _ _ _ _ _; rw [HTn.out]; exact HSQ.out
      clear hbut HTk HTn HSQ hlk; go_wp2_with (rw [HQe.out])
      go_roundw
      case rel => exact ⟨k + 1, by omega, by go_num, HS3, HOQ, HKQ⟩
      case measure => simp [intOf]; omega
   ·have i1 : ¬ (k : Int) < (n : Int) := by omega
    have HE : Hid (P (.returned (.tuple #[])) wr) := by
     show P _ _; rw [HP.out]; have h2 := HSk.out; rw [List.take_of_length_le (by have := Hlen.out; omega)] at h2; exact ⟨rfl, h2, HOk.out⟩
    clear HSk HOk HKk; go_wp2_with fail
    refine bodyPost_end (results_none rfl _ _ _) rfl HE.out
end Go.Proofs.YtaeedepojpablaaGreatDoor
