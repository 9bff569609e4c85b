/- My own texts CpDoc, as far as this claim needs them. -/
import Derived.Test.YtaeedepojpablaaGreatDoorZqb5
set_option linter.unusedVariables false
set_option linter.unusedSimpArgs false
set_option maxRecDepth 1000000
set_option maxHeartbeats 16000000
namespace Go.Proofs.YtaeedepojpablaaGreatDoor
open Go.RowKit
def CopyProg (d : Nat) (x : GProg) (w : World) (r : Ending) (w' : World) : Prop :=
 ∃ a b : Hd, r = .returned (.agg (progC a b).toArray) ∧ ProgAt d w' w'.heap.size x a b ∧ Below w.heap.size w w'
theorem rows_is {α : Type} {E : Enc α} {w : World} {base e : Nat} {A : Option Addr} {k c : Nat} {L : List (α × List Value)} (h : w.ownsRow base e E.sz (.slice A k c) k (L.flatMap (·.2))) (hl : L.length = k) (hk : k ≤ reachN) (hf : ∀ p ∈ L, E.ok w w.heap.size p.2 p.1) : SliceIs E w w.heap.size A k c (L.map (·.1)) :=
 SliceIs.of_own (E := E) (l := L.map (·.1)) h (by simp [hl]) hk (fun i x hx => by
  rw [List.getElem?_map, Option.map_eq_some_iff] at hx; obtain ⟨p, hp, rfl⟩ := hx; rw [flat_piece2 E.sz L i p (fun q hq => E.len (hf q hq)) hp]
  exact hf p (List.mem_of_getElem? hp))
theorem decl_info : (Tryz.prog.info? 46).map (fun i => (i.zero, i.size, i.bytes)) = some (some (.agg #[.string ⟨#[]⟩, .slice none 0 0, .int .i64 0]), 3, 48) := by kernel_rfl
theorem decl_push {W : World} {base : Nat} {A : Option Addr} {c k : Nat} {xs : List Value} (hown : W.ownsRow base 46 3 (.slice A k c) k xs) (q : GDecl) (aA : Option Addr) (an ac : Nat) (hn : k + 1 ≤ 1000000) (hb : base ≤ W.heap.size) :
 ∃ A' c' w', (∀ ty, (Builtin.append_ #[31, 31] ty #[.slice A k c, .slice (some ⟨W.heap.size, 0, none⟩) 1 1]).run Tryz.prog (W.alloc (.cells #[.string q.rel, .slice aA an ac, .int .i64 q.pos] 46)) = .ok (.slice A' (k + 1) c') w') ∧
   w'.ownsRow base 46 3 (.slice A' (k + 1) c') (k + 1) (xs ++ declC q ⟨aA, an, ac⟩) ∧ Below base W w' ∧ KeepsT 46 W w' := by
 have ho : (W.alloc (.cells #[.string q.rel, .slice aA an ac, .int .i64 q.pos] 46)).ownsRow base 46 3 (.slice A k c) k xs := own_below hown (belowA (Below.refl _ _) _)
 obtain ⟨v', w', h1, h2, h3, h4⟩ := run_push_at (P := Tryz.prog) (ty := 31) (W.alloc (.cells #[.string q.rel, .slice aA an ac, .int .i64 q.pos] 46)) (base := base) Tryz.underlying31 decl_info rfl (by decide) ho W.heap.size (declC q ⟨aA, an, ac⟩) rfl (heapNew rfl) (by intro u hu; simp at hu; rcases hu with rfl | rfl | rfl <;> rfl)
  (by simp [maxLen]; omega) (by omega) (by simp; omega)
 obtain ⟨A', c', rfl⟩ := own_form h2; refine ⟨A', c', w', fun _ => h1, h2, ?_, ?_⟩
 ·exact ((Below.refl base W).alloc hb _).trans h4
 ·have k1 : KeepsT 46 W (W.alloc (.cells #[.string q.rel, .slice aA an ac, .int .i64 q.pos] 46)) := KeepsT.of_below (belowA (Below.refl _ _) _); refine k1.trans ?_; intro b cs t fr hbb ht; refine ((grown_out h3).block b (glt hbb) (fun hbo => ?_)).trans hbb; obtain ⟨cur, hc⟩ := own_type ho (b := b) (by simpa using hbo); rw [hc] at hbb; injection hbb with hbb; injection hbb with _ h5 _; exact ht h5.symm
theorem set_first {W : World} {g e : Nat} {a b v : Value} (h : W.heap[g]? = some (.cells #[a, b] e (0, 0))) : (W.setCell ⟨g, 0, none⟩ v).heap[g]? = some (.cells #[v, b] e (0, 0)) := by
 simp [World.setCell, Array.getElem?_modify, h]
theorem copyProg_any (d : Nat) (x : GProg) (a b : Hd) (w : World) (hk : ProgAt d w w.heap.size x a b) (hs : NarProg x) :
 Calls Tryz.prog 9 #[.agg (progC a b).toArray] w (CopyProg d x w) := by
 have mixed : Tryz.prog.follows .mixedOrders = true := by kernel_rfl
 have hn := hk.decls.bound; have hm := hk.rules.bound; have Hlen := hZ9 hk.decls.1; have Hlen2 := hZ9 hk.rules.1; have HS := hZ9 hs; have HK := hZ9 hk; obtain ⟨P, HP⟩ : ∃ P : Ending → World → Prop, Hid (P = CopyProg d x w) := ⟨_, rfl⟩
 rw [← HP.out]; obtain ⟨A, n, c⟩ := a; obtain ⟨B, m, e⟩ := b; have hg0 : (((w.alloc (.cells (progC ⟨A, n, c⟩ ⟨B, m, e⟩).toArray 26)).alloc (.cells #[.slice none 0 0, .slice none 0 0] 34)).alloc (.cells #[.slice none 0 0, .slice none 0 0] 34)).heap[w.heap.size]? = some (.cells (progC ⟨A, n, c⟩ ⟨B, m, e⟩).toArray 26 (0, 0)) := heapOld (heapOld (heapNew rfl)); have hg1 : (((w.alloc (.cells (progC ⟨A, n, c⟩ ⟨B, m, e⟩).toArray 26)).alloc (.cells #[.slice none 0 0, .slice none 0 0] 34)).alloc (.cells #[.slice none 0 0, .slice none 0 0] 34)).heap[w.heap.size + 1]? = some (.cells #[.slice none 0 0, .slice none 0 0] 34 (0, 0)) := heapOld (heapNew (by simp)); have hg2 : (((w.alloc (.cells (progC ⟨A, n, c⟩ ⟨B, m, e⟩).toArray 26)).alloc (.cells #[.slice none 0 0, .slice none 0 0] 34)).alloc (.cells #[.slice none 0 0, .slice none 0 0] 34)).heap[w.heap.size + 2]? = some (.cells #[.slice none 0 0, .slice none 0 0] 34 (0, 0)) := heapNew (by simp); have hbw : Below w.heap.size w (((w.alloc (.cells (progC ⟨A, n, c⟩ ⟨B, m, e⟩).toArray 26)).alloc (.cells #[.slice none 0 0, .slice none 0 0] 34)).alloc (.cells #[.slice none 0 0, .slice none 0 0] 34)) := belowA (belowA (belowA (Below.refl _ _) _) _) _; have hzw : (((w.alloc (.cells (progC ⟨A, n, c⟩ ⟨B, m, e⟩).toArray 26)).alloc (.cells #[.slice none 0 0, .slice none 0 0] 34)).alloc (.cells #[.slice none 0 0, .slice none 0 0] 34)).heap.size = w.heap.size + 3 := by simp
 obtain ⟨b0, b1⟩ := facts2 hg0; dsimp only [Hd.v] at b0 b1; clear hk hs; show Calls Tryz.prog 9 #[.agg #[.slice A n c, .slice B m e]] w P; go_enter Tryz.func9, Tryz.ntmps9
 go_wp2_with fail
 try simp only [Nat.add_assoc, Nat.reduceAdd]
 generalize hw3 : ((w.alloc _).alloc _).alloc _ = w3; rw [hw3] at hg0 hg1 hg2 hbw hzw; have HZ : Hid (w.heap.size + 3 ≤ w3.heap.size) := by show _ ≤ _; omega
 clear hzw hw3 b0 b1
 go_loopw [12] (fun i wr => ∃ (j c' : Nat) (A' : Option Addr) (L : List (GDecl × List Value)), j ≤ n ∧ i = .int .i64 j ∧ Hid (L.map (·.1) = x.decls.take j) ∧ Hid (∀ p ∈ L, Enc.decl.ok w w.heap.size p.2 p.1) ∧ Hid (wr.ownsRow (w.heap.size + 3) 46 3 (.slice A' j c') j (L.flatMap (·.2))) ∧ Hid (wr.heap[w.heap.size + 2]? = some (.cells #[.slice A' j c', .slice none 0 0] 34 (0, 0))) ∧ Hid (wr.heap[w.heap.size + 1]? = some (.cells #[.slice none 0 0, .slice none 0 0] 34 (0, 0))) ∧
  Hid (wr.heap[w.heap.size]? = some (.cells (progC ⟨A, n, c⟩ ⟨B, m, e⟩).toArray 26 (0, 0))) ∧ Hid (Below w.heap.size w wr) ∧ w.heap.size + 3 ≤ wr.heap.size) (fun i _ => n - (intOf i).toNat)
 case atStart => exact ⟨0, 0, none, [], by omega, rfl, rfl, fun _ h => by (cases h), World.ownsRow_nil _ _ _ _, hg2, hg1, hg0, hbw, HZ.out⟩
 case round =>
  clear hg0 hg1 hg2 hbw; obtain ⟨j, c', A', L, hj, rfl, HL, HF, HO, HG2, HG1, HG0, HB, hzr⟩ := hrel; have i0 : (0 : Int) ≤ (j : Int) := by omega
  by_cases hlt : j < n
  ·have i1 : (j : Int) < (n : Int) := by omega
   obtain ⟨b, o, t, aa, hAA, hb, ht, hat, v0, v1, v2⟩ := HK.out.decls.decl_at hlt; try simp only at hAA
   subst hAA; obtain ⟨aA, an, ac⟩ := aa; dsimp only [Hd.v] at v0 v1 v2; have x0 := below_cell HB.out v0; have x1 := below_cell HB.out v1; have x2 := below_cell HB.out v2; have HT : Hid (x.decls.take (j + 1) = x.decls.take j ++ [t]) := by show _ = _; rw [List.take_add_one, ht.out]; rfl
   have hba : Below wr.heap.size wr (wr.alloc (.cells #[.string t.rel, .slice aA an ac, .int .i64 t.pos] 94)) := belowA (Below.refl _ _) _; have hn1 : j + 1 ≤ 1500 := by have := HS.out.decls; have := Hlen.out; omega
   have hgA := heapOld (o := .cells #[.string t.rel, .slice aA an ac, .int .i64 t.pos] 94) HG2.out; have hg1A := heapOld (o := .cells #[.string t.rel, .slice aA an ac, .int .i64 t.pos] 94) HG1.out; have hg0A := heapOld (o := .cells #[.string t.rel, .slice aA an ac, .int .i64 t.pos] 94) HG0.out; have hxA : (wr.alloc (.cells #[.string t.rel, .slice aA an ac, .int .i64 t.pos] 94)).heap[wr.heap.size]? = some (.cells #[.string t.rel, .slice aA an ac, .int .i64 t.pos] 94 (0, 0)) := heapNew rfl; obtain ⟨r0, r1⟩ := facts2 hgA; obtain ⟨z0, z1, z2⟩ := facts3 hxA; have HOA := own_below HO.out hba; obtain ⟨A2, c2, w4, hrun, hown2, hb4, hk4⟩ := decl_push HOA t aA an ac (by omega) (by simp; omega); simp only [World.size_alloc] at hrun; have HRun := hZ9 hrun; have hbA := below_next HB.out hba; have hgB := hk4 _ _ _ _ hgA (by decide); have hg1B := hk4 _ _ _ _ hg1A (by decide); have hg0B := hk4 _ _ _ _ hg0A (by decide); have hz4 : wr.heap.size + 1 ≤ w4.heap.size := by have := hb4.size; simp at this; exact this
   have HB2 : Hid (Below w.heap.size w (w4.setCell ⟨w.heap.size + 2, 0, none⟩ (.slice A2 (j + 1) c2))) := (hbA.trans (hb4.mono (by omega))).setCell (by show w.heap.size ≤ w.heap.size + 2; omega) _
   have HO2 : Hid ((w4.setCell ⟨w.heap.size + 2, 0, none⟩ (.slice A2 (j + 1) c2)).ownsRow (w.heap.size + 3) 46 3 (.slice A2 (j + 1) c2) (j + 1) ((L ++ [(t, declC t ⟨aA, an, ac⟩)]).flatMap (·.2))) := by
    have h9 := own_out' hown2 (set_out w4 (w.heap.size + 2) 0 (.slice A2 (j + 1) c2)) (fun b hb hb' => by have := (own_blk hown2 hb).1; simp at hb'; omega); show World.ownsRow _ _ _ _ _ _ _; simpa using h9
   have HL2 : Hid ((L ++ [(t, declC t ⟨aA, an, ac⟩)]).map (·.1) = x.decls.take (j + 1)) := by show _ = _; rw [HT.out, List.map_append, HL.out]; rfl
   have HF2 : Hid (∀ p ∈ L ++ [(t, declC t ⟨aA, an, ac⟩)], Enc.decl.ok w w.heap.size p.2 p.1) := fun p hp => by
    rcases List.mem_append.1 hp with hp | hp
    ·exact HF.out p hp
    ·obtain rfl : p = (t, declC t ⟨aA, an, ac⟩) := by simpa using hp
     exact ⟨_, rfl, hat⟩
   have HGa := hZ9 (set_first (v := .slice A2 (j + 1) c2) hgB); have HGb := hZ9 ((World.heap_setCells_other' (W := w4) (g := w.heap.size + 2) (i := 0) (v := .slice A2 (j + 1) c2) (by omega)).trans hg1B); have HGc := hZ9 ((World.heap_setCells_other' (W := w4) (g := w.heap.size + 2) (i := 0) (v := .slice A2 (j + 1) c2) (by omega)).trans hg0B); have hzs : (w4.setCell ⟨w.heap.size + 2, 0, none⟩ (.slice A2 (j + 1) c2)).heap.size = w4.heap.size := World.size_setCell'; have HZ2 : Hid (w.heap.size + 3 ≤ (w4.setCell ⟨w.heap.size + 2, 0, none⟩ (.slice A2 (j + 1) c2)).heap.size) := by show _ ≤ _; rw [hzs]; omega
   have k1 : w4.cell? ⟨w.heap.size + 2, 0, none⟩ = some (.slice A' j c') := (cell_of_row _ _ 0 _ _ _ hgB).trans rfl; have k2 : w4.frozen? ⟨w.heap.size + 2, 0, none⟩ = false := frozen_of_row _ _ _ _ _ hgB; clear hrun hown2 hk4 hgA hg1A hg0A hgB hg1B hg0B hb4 hba hbA HOA HO ht hzs hxA HG0 HG1 HG2 hat v0 v1 v2 HB; go_wp2_with (at_builtin; refine wpList_append_run (o := ⟨some 26, _, _, _, _, _⟩) rfl _ _ _ rfl _ _ rfl rfl (HRun.out _) ?_)
   go_roundw
   case rel => exact ⟨j + 1, c2, A2, _, by omega, by go_num, HL2, HF2, HO2, HGa, HGb, HGc, HB2, HZ2.out⟩
   case measure => simp [intOf]; omega
  ·have i1 : ¬ (j : Int) < (n : Int) := by omega
   have hjn : j = n := by omega
   subst hjn; have hll := Hlen.out; have HDl : Hid (L.map (·.1) = x.decls) := by show _ = _; rw [HL.out, List.take_of_length_le (by omega)]
   have HLl : Hid (L.length = j) := by
    have h9 := congrArg List.length HDl.out; simp at h9
    show _ = _; omega
   obtain ⟨r0, r1⟩ := facts2 HG0.out; dsimp only [Hd.v] at r0 r1; have HG1' := HG1; obtain ⟨b1z, Hb1⟩ : ∃ b1z, Hid (wr.heap.size = b1z) := ⟨_, rfl⟩
   have HDb : Hid (∀ bb, (Value.slice A' j c').ownBlock = some bb → w.heap.size + 3 ≤ bb ∧ bb < b1z) := fun bb hbb => by
    have h9 := own_blk HO.out hbb; have := Hb1.out; omega
   have hz1 : w.heap.size + 3 ≤ b1z := by have := Hb1.out; omega
   have HzW : Hid (b1z ≤ wr.heap.size) := by show _ ≤ _; rw [Hb1.out]; exact Nat.le_refl _
   clear HL HG0 hll; go_wp2_with fail
   go_loopw [32] (fun i wr => ∃ (j2 c2 : Nat) (A2 : Option Addr) (L2 : List (GRule × List Value)), j2 ≤ m ∧ i = .int .i64 j2 ∧ Hid (L2.map (·.1) = x.rules.take j2) ∧ Hid (Rows (Enc.rule d) b1z 65 wr A2 j2 c2 L2) ∧ wr.heap[w.heap.size + 2]? = some (.cells #[.slice A' j c', .slice A2 j2 c2] 34 (0, 0)) ∧ wr.heap[w.heap.size + 1]? = some (.cells #[.slice none 0 0, .slice none 0 0] 34 (0, 0)) ∧
    Hid (wr.ownsRow (w.heap.size + 3) 46 3 (.slice A' j c') j (L.flatMap (·.2))) ∧ Below w.heap.size w wr ∧ b1z ≤ wr.heap.size) (fun i _ => m - (intOf i).toNat)
   case atStart => exact ⟨0, 0, none, [], by omega, rfl, rfl, Rows.nil _ _ _, HG2.out, HG1.out, HO, HB.out, HzW.out⟩
   case round =>
    clear HG1 HG2 HB HO HzW; obtain ⟨j2, c2, A2, L2, hj2, rfl, HL, HR, hg, hg1, HOd, hbr, hzr2⟩ := hrel; have q0 : (0 : Int) ≤ (j2 : Int) := by omega
    by_cases hlt2 : j2 < m
    ·have q1 : (j2 : Int) < (m : Int) := by omega
     obtain ⟨bb, o, k, ak, bk, hAA, hbb, hk', hkl, y0, y1, y2, y3, y4, y5⟩ := (HK.out.keep hbr).rules.rule_at hlt2; try simp only at hAA
     subst hAA; have hkm := hZ9 (List.mem_of_getElem? hk'.out); have HT : Hid (x.rules.take (j2 + 1) = x.rules.take j2 ++ [k]) := by show _ = _; rw [List.take_add_one, hk'.out]; rfl
     have hba : Below wr.heap.size wr (wr.alloc (.cells (ruleC k ak bk).toArray 56)) := belowA (Below.refl _ _) _; have HC := hZ9 (fun (W : World) (h : Below (wr.alloc (.cells (ruleC k ak bk).toArray 56)).heap.size (wr.alloc (.cells (ruleC k ak bk).toArray 56)) W) => copyRule_any d k ak bk W ((hkl.keep hba).keep h) (HS.out.each k hkm.out)); have hn1 : j2 + 1 ≤ 1500 := by have := HS.out.rules; have := Hlen2.out; omega
     have hx2 : (wr.alloc (.cells (ruleC k ak bk).toArray 56)).heap[wr.heap.size]? = some (.cells (ruleC k ak bk).toArray 56 (0, 0)) := heapNew rfl; have hgA := heapOld (o := .cells (ruleC k ak bk).toArray 56) hg; have hg1A := heapOld (o := .cells (ruleC k ak bk).toArray 56) hg1; have HRA := hZ9 (HR.out.out (Out.of_below hba []) (fun _ h _ => by cases h)); have hbA := below_next hbr hba; have HOdA := hZ9 (own_below HOd.out hba)
     have HoG : Hid (w.heap.size + 2 ∉ (Value.slice A2 j2 c2).ownBlock.toList) := fun hm => by
      have := (own_blk HR.out.own (b := w.heap.size + 2) (by simpa using hm)).1; omega
     have HoX : Hid (wr.heap.size ∉ (Value.slice A2 j2 c2).ownBlock.toList) := fun hm => by
      have := (own_blk HR.out.own (b := wr.heap.size) (by simpa using hm)).2; omega
     have HOr : Hid ((wr.alloc (.cells (ruleC k ak bk).toArray 56)).ownsRow b1z 65 6 (.slice A2 j2 c2) j2 (L2.flatMap (·.2))) := HRA.out.own; have hrs : (Tryz.prog.info? 56).map (·.size) = some (ruleC k ak bk).length := by show _ = some 6; kernel_rfl
     have Hrs := hZ9 hrs; clear hk' hba hkl HR hg hg1 HOd hrs; go_wp2_with fail
     refine push_region (n := 45) mixed rfl rfl (by kernel_rfl) (by kernel_rfl) (by kernel_rfl) (w.heap.size + 2) wr.heap.size 1 b1z 65 6 88 j2 (.agg zrC.toArray) A2 c2 (L2.flatMap (·.2)) (ruleC k ak bk) #[.slice A' j c', .slice A2 j2 c2]
      (fun vcs W => (Enc.rule d).ok (sans W (List.range (wr.heap.size + 1))) W.heap.size vcs k) (fun S vcs W => (Enc.rule d).ok (sans W (List.range (wr.heap.size + 1) ++ S)) W.heap.size vcs k) _
      rfl rfl hgA hx2 rfl (fun w => by simp [go_sem]) Tryz.underlying32 (by kernel_rfl) Tryz.underlying56 rfl Hrs.out (by kernel_rfl) rfl (by decide) (by decide) HOr.out HoG.out HoX.out (by simp [maxLen]; omega) (by omega) (by simp; omega) _ Tryz.func27 (by kernel_rfl) (by kernel_rfl) ?_ ?_ ?_ ?_ ?_ ?_
     ·intro vcs W W' h hb; exact (Enc.rule d).mono hb.size ((Out.of_below hb []).kept (fun _ h _ => by cases h) (fun _ h _ => h)) h
     ·intro S vcs W W' h hb; exact (Enc.rule d).mono hb.size ((Out.of_below hb []).kept (fun _ h _ => by cases h) (fun _ h _ => h)) h
     ·intro S vcs W W' h hz ho hS; refine (Enc.rule d).mono ho.size (ho.kept (T := List.range (wr.heap.size + 1)) (fun b hb _ => ?_) (fun b hb hl => ?_)) h
      ·have := (own_blk HOr.out (b := b) (by simpa using hb)).2; simp at this
       exact List.mem_range.2 this
      ·rcases List.mem_append.1 hb with hb | hb
       ·exact hb
       ·rcases hS b hb with h1 | h1
        ·have := (own_blk HOr.out (b := b) (by simpa using h1)).2; simp at this
         exact List.mem_range.2 this
        ·omega
     ·intro vcs W W' h hz ho; refine (Enc.rule d).mono ho.size (ho.kept (T := List.range (wr.heap.size + 1)) (fun b hb _ => ?_) (fun b hb hl => hb)) h; have := (own_blk HOr.out (b := b) (by simpa using hb)).2; simp at this
      exact List.mem_range.2 this
     ·intro W hb; refine (HC.out W hb).mono ?_; rintro r w' ⟨a2, p2, rfl, hs, hb2⟩; refine ⟨ruleC k a2 p2, rfl, rfl, by simp [Value.oneCell'], ?_, hb2⟩; refine ⟨a2, p2, rfl, hs.mono' (Nat.le_refl _) ((Out.refl [] w').kept (fun _ h _ => by cases h) (fun b hb' _ => List.mem_range.2 ?_))⟩; have h1 := List.mem_range.1 hb'; have h2 := hb.size; simp at h2
      omega
     ·intro u W vcs A3 c3 hl hfar hown hblk ho hgW; have hsA : (wr.alloc (.cells (ruleC k ak bk).toArray 56)).heap.size = wr.heap.size + 1 := by simp
      have hR2 := HRA.out.push (by rw [hsA]; omega) hown hblk ho (by rw [hsA]; exact hfar); have HR2 := hZ9 (hR2.out (set_out W (w.heap.size + 2) 1 (.slice A3 (j2 + 1) c3)) (fun b hb _ => by simp at hb; omega)); have HL2 : Hid ((L2 ++ [(k, vcs)]).map (·.1) = x.rules.take (j2 + 1)) := by show _ = _; rw [HT.out, List.map_append, HL.out]; rfl
      have hG2 : (W.setCell ⟨w.heap.size + 2, 1, none⟩ (.slice A3 (j2 + 1) c3)).heap[w.heap.size + 2]? = some (.cells #[.slice A' j c', .slice A3 (j2 + 1) c3] 34 (0, 0)) := set_one hgW
      have hnot : ∀ bb, bb < b1z → bb ∉ (Value.slice A2 j2 c2).ownBlock.toList := fun bb hbb hm => by
       have := (own_blk HOr.out (b := bb) (by simpa using hm)).1; omega
      have hG1 : (W.setCell ⟨w.heap.size + 2, 1, none⟩ (.slice A3 (j2 + 1) c3)).heap[w.heap.size + 1]? = some (.cells #[.slice none 0 0, .slice none 0 0] 34 (0, 0)) :=
       (World.heap_setCells_other' (by omega)).trans ((ho.block _ (glt hg1A) (hnot _ (by omega))).trans hg1A)
      have HOd2 : Hid ((W.setCell ⟨w.heap.size + 2, 1, none⟩ (.slice A3 (j2 + 1) c3)).ownsRow (w.heap.size + 3) 46 3 (.slice A' j c') j (L.flatMap (·.2))) :=
       own_out' (own_out' HOdA.out ho (fun b hb => hnot b (HDb.out b hb).2)) (set_out W (w.heap.size + 2) 1 _) (fun b hb hb' => by have := (HDb.out b hb).1; simp at hb'; omega)
      have hzz : wr.heap.size + 1 ≤ W.heap.size := by rw [← hsA]; exact ho.size
      have hB2 : Below w.heap.size w (W.setCell ⟨w.heap.size + 2, 1, none⟩ (.slice A3 (j2 + 1) c3)) :=
       (hbA.trans (ho.below (B := w.heap.size) (fun b hb => by
        have := (own_blk HOr.out (b := b) (by simpa using hb)).1
        omega) (by rw [hsA]; omega))).setCell (by show w.heap.size ≤ w.heap.size + 2; omega) _
      have hzs : (W.setCell ⟨w.heap.size + 2, 1, none⟩ (.slice A3 (j2 + 1) c3)).heap.size = W.heap.size := World.size_setCell'; have HZ2 := hZ9 hzs; clear hR2 hgW hfar hown hblk ho hsA hgA hg1A hx2 hzs hnot; simp only [List.foldl_cons, List.foldl_nil, Act.put, List.setIfInBounds_toArray, List.set_cons_zero, List.set_cons_succ]; generalize W.setCell ⟨w.heap.size + 2, 1, none⟩ (.slice A3 (j2 + 1) c3) = W3 at *; go_wp2_with fail
      go_roundw
      case rel => exact ⟨j2 + 1, c3, A3, _, by omega, by go_num, HL2, HR2, hG2, hG1, HOd2, hB2, by rw [HZ2.out]; omega⟩
      case measure => simp [intOf]; omega
    ·have q1 : ¬ (j2 : Int) < (m : Int) := by omega
     have hjn : j2 = m := by omega
     subst hjn; have hll := Hlen2.out; obtain ⟨c0, c1⟩ := facts2 hg; have hSr := setRow_at (cs' := #[.slice A' j c', .slice A2 j2 c2]) hg1; obtain ⟨s0, s1⟩ := facts2 hSr; have hbS : Below w.heap.size w (wr.setRow (w.heap.size + 1) #[.slice A' j c', .slice A2 j2 c2]) := ⟨hbr.os, hbr.tape, hbr.output, by rw [setRow_size]; exact hbr.size, fun x hx => (setRow_ne (by omega)).trans (hbr.block x hx)⟩
     have hoS : Out [w.heap.size + 1] wr (wr.setRow (w.heap.size + 1) #[.slice A' j c', .slice A2 j2 c2]) := ⟨rfl, rfl, rfl, by rw [setRow_size]; exact Nat.le_refl _, fun x _ hx => setRow_ne (by simpa using hx)⟩
     have hR3 := HR.out.out hoS (fun b hb _ => by simp at hb; omega); have hR2 := (hR3.is (base := w.heap.size) (by simpa [reachN] using hm) (by omega)).is; rw [HL.out, List.take_of_length_le (by omega)] at hR2; have hO3 := own_out' HOd.out hoS (fun b hb hb' => by have := (HDb.out b hb).1; simp at hb'; omega); have hD3 := rows_is (E := Enc.decl) hO3 HLl.out (by have := HLl.out; simpa [reachN] using hn) (fun p hp => Enc.decl.mono hbS.size (Kept.of hbS.block) (HF.out p hp)); rw [HDl.out] at hD3
     have hpost : P (.returned (.agg #[.slice A' j c', .slice A2 j2 c2])) (wr.setRow (w.heap.size + 1) #[.slice A' j c', .slice A2 j2 c2]) := by
      rw [HP.out]; exact ⟨⟨A', j, c'⟩, ⟨A2, j2, c2⟩, rfl, ⟨hD3, hR2⟩, hbS⟩
     have HPo := hZ9 hpost; clear hR2 hR3 HR HL hll hpost hoS hbS hSr HP hO3 hD3; go_wp2_with (refine wpList_store_rowTo rfl 34 (.tmp 2) (.tmp 44) rfl rfl (w.heap.size + 1) #[.slice A' j c', .slice A2 j2 c2] rfl rfl 34 #[.slice none 0 0, .slice none 0 0] hg1 (by kernel_rfl) rfl (by simp [Value.oneCell']) ?_)
     refine bodyPost_ret (v := .agg #[.slice A' j c', .slice A2 j2 c2]) ?_ rfl HPo.out; simp [results, Tryz.results9, go_sem, s0, s1]
end Go.Proofs.YtaeedepojpablaaGreatDoor
