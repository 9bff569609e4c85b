/- My own texts CpRule, TyPl, IdxW, TyLw, TyRp, TyRs, as far as this claim needs them. -/
import Derived.Test.YtaeedepojpablaaGreatDoorZq29
import Derived.Test.YtaeedepojpablaaGreatDoorZqb4
set_option linter.unusedVariables false
set_option linter.unusedSimpArgs false
set_option maxRecDepth 1000000
set_option maxHeartbeats 16000000
namespace Go.Proofs.YtaeedepojpablaaGreatDoor
open Go.RowKit
def CopyRule (d : Nat) (x : GRule) (w : World) (r : Ending) (w' : World) : Prop :=
 ∃ a b : Hd, r = .returned (.agg (ruleC x a b).toArray) ∧ RuleAt d (sans w' (List.range w.heap.size)) w'.heap.size x a b ∧ Below w.heap.size w w'
def rulF (x : GRule) (a : Hd) (_b : Hd) (g n0 : Nat) (i : Nat) (v : Value) (W : World) : Prop := match i with
 | 0 => v = .pointer (some ⟨g, 0, none⟩)
 | 1 => v = .agg (atomC x.head a).toArray
 | 2 => ∃ (A : Option Addr) (c : Nat), v = .agg (atomC x.head ⟨A, x.head.args.length, c⟩).toArray ∧ W.ownsRow n0 102 4 (.slice A x.head.args.length c) x.head.args.length (x.head.args.flatMap GTold.cells)
 | 3 => v = .pointer (some ⟨g, 2, none⟩)
 | 4 => v = .int .i64 x.agg
 | 5 => v = .pointer (some ⟨g, 3, none⟩)
 | 6 => v = .int .i64 x.col
 | 7 => v = .pointer (some ⟨g, 5, none⟩)
 | 8 => v = .int .i64 x.pos
 | 9 => ∃ (A : Option Addr) (c : Nat), v = .agg (ruleC x ⟨A, x.head.args.length, c⟩ ⟨none, 0, 0⟩).toArray ∧ W.ownsRow n0 102 4 (.slice A x.head.args.length c) x.head.args.length (x.head.args.flatMap GTold.cells)
 | 10 => ∃ (b : Nat) (cs : List Value), v = .pointer (some ⟨b, 0, none⟩) ∧ n0 ≤ b ∧ cs.length = 6 ∧ W.heap[b]? = some (.cells cs.toArray 65 (0, 0))
 | _ => True
theorem rulF_keep {x : GRule} {a b : Hd} {g n0 i : Nat} {v : Value} {W W' : World} (h : rulF x a b g n0 i v W) (hb : Below W.heap.size W W') : rulF x a b g n0 i v W' := by
 match i, h with
 | 0, h => exact h
 | 1, h => exact h
 | 2, ⟨A, c, h1, h2⟩ => exact ⟨A, c, h1, own_below h2 hb⟩
 | 3, h => exact h
 | 4, h => exact h
 | 5, h => exact h
 | 6, h => exact h
 | 7, h => exact h
 | 8, h => exact h
 | 9, ⟨A, c, h1, h2⟩ => exact ⟨A, c, h1, own_below h2 hb⟩
 | 10, ⟨b, cs, h1, h2, h3, h4⟩ => exact ⟨b, cs, h1, h2, h3, (hb.block _ (glt h4)).trans h4⟩
 | _ + 11, _ => exact trivial
theorem own_lowR {W : World} {base base' : Nat} {e : TypeId} {size : Nat} {v : Value} {k : Nat} {xs : List Value} (h : W.ownsRow base e size v k xs) (hb : base' ≤ base) : W.ownsRow base' e size v k xs := by
 refine ⟨h.1, ?_⟩; rcases h.2 with hn | ⟨g, cap, cur, hv, hbg, rest⟩
 ·exact .inl hn
 ·exact .inr ⟨g, cap, cur, hv, by omega, rest⟩
theorem copyRule_any (d : Nat) (x : GRule) (a b : Hd) (w : World) (hk : RuleAt d w w.heap.size x a b) (hs : NarRule x) :
 Calls Tryz.prog 27 #[.agg (ruleC x a b).toArray] w (CopyRule d x w) := by
 have mixed : Tryz.prog.follows .mixedOrders = true := by kernel_rfl
 have hn := hk.body.bound; have Hlen := hZ9 hk.body.1; have HS := hZ9 hs; obtain ⟨P, HP⟩ : ∃ P : Ending → World → Prop, Hid (P = CopyRule d x w) := ⟨_, rfl⟩
 rw [← HP.out]; have HKw := hZ9 hk; obtain ⟨aA, an, ac⟩ := a; obtain ⟨A, n, c⟩ := b; have hg0 : ((w.alloc (.cells (ruleC x ⟨aA, an, ac⟩ ⟨A, n, c⟩).toArray 56)).alloc (.cells zrC.toArray 65)).heap[w.heap.size]? = some (.cells (ruleC x ⟨aA, an, ac⟩ ⟨A, n, c⟩).toArray 56 (0, 0)) := heapOld (heapNew rfl); have hg1 : ((w.alloc (.cells (ruleC x ⟨aA, an, ac⟩ ⟨A, n, c⟩).toArray 56)).alloc (.cells zrC.toArray 65)).heap[w.heap.size + 1]? = some (.cells zrC.toArray 65 (0, 0)) := heapNew (by simp); have hbw : Below w.heap.size w ((w.alloc (.cells (ruleC x ⟨aA, an, ac⟩ ⟨A, n, c⟩).toArray 56)).alloc (.cells zrC.toArray 65)) := belowA (belowA (Below.refl _ _) _) _; have hzw : ((w.alloc (.cells (ruleC x ⟨aA, an, ac⟩ ⟨A, n, c⟩).toArray 56)).alloc (.cells zrC.toArray 65)).heap.size = w.heap.size + 2 := by simp
 clear hk hs; show Calls Tryz.prog 27 #[.agg #[.string x.head.rel, .slice aA an ac, .int .i64 x.agg, .int .i64 x.col, .slice A n c, .int .i64 x.pos]] w P; go_enter Tryz.func27, Tryz.ntmps27
 go_wp2_with fail
 generalize hwb : (w.alloc _).alloc _ = wb; rw [hwb] at hg0 hg1 hbw hzw; clear hwb; have HK := hZ9 (HKw.out.keep hbw); have C1 := hZ9 (fun (W : World) (h : Below wb.heap.size wb W) => copyAtom_any x.head ⟨aA, an, ac⟩ W ((HK.out.keep h).args) HKw.out.rel HS.out.args); refine drawn2 mixed 11 32 [6, 7, 8, 9, 10, 11, 12, 13, 14, 15, 3] (fun _ W => Below wb.heap.size wb W) (rulF x ⟨aA, an, ac⟩ ⟨A, n, c⟩ w.heap.size wb.heap.size) (fun _ W W' => Below W.heap.size W W') rfl (by kernel_rfl) (by kernel_rfl) rfl (fun j _ => below_drewN _ 1 _) (fun i j v W W' _ _ _ h h' => rulF_keep h h') (fun _ _ _ _ _ _ _ _ h h' => below_next h h') ?_ ?_
 ·intro i o2 a2 W hi ho hd hold hG _ hw; have hr1 : a2.tmps[1]? = some (.pointer (some ⟨w.heap.size, 0, none⟩)) := hold 1 (by kernel_rfl); have hgW := (hG.block _ (glt hg0)).trans hg0; have k2 : W.cell? ⟨w.heap.size, 2, none⟩ = some (.int .i64 x.agg) := (cell_of_row _ _ 2 _ _ _ hgW).trans rfl; have k3 : W.cell? ⟨w.heap.size, 3, none⟩ = some (.int .i64 x.col) := (cell_of_row _ _ 3 _ _ _ hgW).trans rfl; have k5 : W.cell? ⟨w.heap.size, 5, none⟩ = some (.int .i64 x.pos) := (cell_of_row _ _ 5 _ _ _ hgW).trans rfl; have hWz := hG.size; clear hold; match i, hi, ho with
  | 0, _, ho =>
    injection ho with ho; subst ho
    exact op_val _ (by simp [execOp, Act.eval, hr1, go_sem]) ⟨_, rfl, Below.refl _ _, rfl⟩
  | 1, _, ho =>
    injection ho with ho; subst ho
    obtain ⟨v0, h0, e0⟩ := hw 0 6 (by kernel_rfl); obtain rfl : v0 = _ := e0; exact wp_load_mid 53 (.tmp 6) rfl _ _ (eval_tmp h0) (atomC x.head ⟨aA, an, ac⟩) _ (range_off hgW rfl) Tryz.underlying53 rfl (atom_size _ _) ⟨_, rfl, Below.refl _ _, rfl⟩
  | 2, _, ho =>
    injection ho with ho; subst ho
    obtain ⟨v0, h0, e0⟩ := hw 1 7 (by kernel_rfl); obtain rfl : v0 = _ := e0; refine op_call 55 _ rfl rfl #[.agg (atomC x.head ⟨aA, an, ac⟩).toArray] (by simp [Act.eval, h0]) _ Tryz.func55 (by kernel_rfl) (by kernel_rfl) ((C1.out W hG).mono ?_); rintro r w' ⟨A', c', rfl, hs', hb⟩; exact ⟨_, rfl, _, rfl, hb, A', c', rfl, own_lowR hs' hWz⟩
  | 3, _, ho =>
    injection ho with ho; subst ho
    exact op_val _ (by simp [execOp, Act.eval, hr1, go_sem]) ⟨_, rfl, Below.refl _ _, rfl⟩
  | 4, _, ho =>
    injection ho with ho; subst ho
    obtain ⟨v0, h0, e0⟩ := hw 3 9 (by kernel_rfl); obtain rfl : v0 = _ := e0; exact op_val _ (by simp [execOp, Act.eval, h0, go_sem, k2]) ⟨_, rfl, Below.refl _ _, rfl⟩
  | 5, _, ho =>
    injection ho with ho; subst ho
    exact op_val _ (by simp [execOp, Act.eval, hr1, go_sem]) ⟨_, rfl, Below.refl _ _, rfl⟩
  | 6, _, ho =>
    injection ho with ho; subst ho
    obtain ⟨v0, h0, e0⟩ := hw 5 11 (by kernel_rfl); obtain rfl : v0 = _ := e0; exact op_val _ (by simp [execOp, Act.eval, h0, go_sem, k3]) ⟨_, rfl, Below.refl _ _, rfl⟩
  | 7, _, ho =>
    injection ho with ho; subst ho
    exact op_val _ (by simp [execOp, Act.eval, hr1, go_sem]) ⟨_, rfl, Below.refl _ _, rfl⟩
  | 8, _, ho =>
    injection ho with ho; subst ho
    obtain ⟨v0, h0, e0⟩ := hw 7 13 (by kernel_rfl); obtain rfl : v0 = _ := e0; exact op_val _ (by simp [execOp, Act.eval, h0, go_sem, k5]) ⟨_, rfl, Below.refl _ _, rfl⟩
  | 9, _, ho =>
    injection ho with ho; subst ho
    obtain ⟨v2, h2, A2, c2, e2, f2⟩ := hw 2 8 (by kernel_rfl); obtain ⟨v4, h4, e4⟩ := hw 4 10 (by kernel_rfl); obtain ⟨v6, h6, e6⟩ := hw 6 12 (by kernel_rfl); obtain ⟨v8, h8, e8⟩ := hw 8 14 (by kernel_rfl); obtain rfl : v2 = _ := e2; obtain rfl : v4 = _ := e4; obtain rfl : v6 = _ := e6; obtain rfl : v8 = _ := e8; exact op_build 65 _ rfl [(0, .agg (atomC x.head ⟨A2, x.head.args.length, c2⟩).toArray), (1, .int .i64 x.agg), (2, .int .i64 x.col), (4, .int .i64 x.pos)] (ruleC x ⟨A2, x.head.args.length, c2⟩ ⟨none, 0, 0⟩).toArray (by simp [Act.eval, h2, h4, h6, h8]) (by kernel_rfl) ⟨_, rfl, Below.refl _ _, A2, c2, rfl, f2⟩
  | 10, _, ho =>
    injection ho with ho; subst ho
    exact op_alloc 65 rfl zrC.toArray 6 (by kernel_rfl) ⟨_, rfl, belowA (Below.refl _ _) _, _, zrC, rfl, hWz, rfl, heapNew rfl⟩
  | n + 11, hi, _ => omega
 ·intro o2 u W ho hG hw; obtain ⟨hA, hc, e0, h1⟩ := hw 9 15 (by decide) (by kernel_rfl); obtain ⟨g, cs, e1, hgn, hcs, hgg⟩ := hw 10 3 (by decide) (by kernel_rfl); have hgW := (hG.block _ (glt hg1)).trans hg1; injection ho with ho; subst ho
  simp only [List.foldl_cons, List.foldl_nil, Act.put, List.setIfInBounds_toArray, List.set_cons_zero, List.set_cons_succ]; rw [e0, e1]; refine wp_store_row 65 (.tmp 3) (.tmp 15) rfl g (ruleC x ⟨hA, x.head.args.length, hc⟩ ⟨none, 0, 0⟩).toArray rfl rfl 65 cs.toArray hgg (by kernel_rfl) (by simp [hcs]) (by simp [Value.oneCell']) ?_; have hS := setRow_at (cs' := (ruleC x ⟨hA, x.head.args.length, hc⟩ ⟨none, 0, 0⟩).toArray) hgg; have hoS : Out [g] W (W.setRow g (ruleC x ⟨hA, x.head.args.length, hc⟩ ⟨none, 0, 0⟩).toArray) := ⟨rfl, rfl, rfl, by rw [setRow_size]; exact Nat.le_refl _, fun x _ hx => setRow_ne (by simpa using hx)⟩
  have hgl := (glt hgg)
  have hzz := hG.size
  have hO2 := own_out' h1 hoS (fun b hb hb' => by
   obtain ⟨cur, hcur⟩ := own_typeR h1 hb; simp at hb'
   subst hb'; rw [hgg] at hcur; injection hcur with hcur
   injection hcur with _ h3 _
   exact absurd h3 (by decide))
  have hr1 := (hoS.block _ (glt hgW) (by simp; omega)).trans hgW; have hr0 := (hoS.block _ (glt ((hG.block _ (glt hg0)).trans hg0)) (by simp; omega)).trans ((hG.block _ (glt hg0)).trans hg0); have hbW : Below w.heap.size w (W.setRow g (ruleC x ⟨hA, x.head.args.length, hc⟩ ⟨none, 0, 0⟩).toArray) := (hbw.trans (hG.mono (by omega))).trans (hoS.below (fun b hb => by simp at hb; omega) (by omega)); have hsz : (W.setRow g (ruleC x ⟨hA, x.head.args.length, hc⟩ ⟨none, 0, 0⟩).toArray).heap.size = W.heap.size := setRow_size; clear hw C1 hoS hgg hcs h1 hgW hg0 hg1 hG HK hbw e0 e1; generalize W.setRow g _ = W2 at *; obtain ⟨b0, b1, b2, b3, b4, b5⟩ := facts6 hr0; dsimp only [Hd.v] at b0 b1 b2 b3 b4 b5; obtain ⟨b1z, Hb1⟩ : ∃ b1z, Hid (W2.heap.size = b1z) := ⟨_, rfl⟩
  have HKe := hZ9 (fun (W : World) (h : Below w.heap.size w W) => (HKw.out.keep h).body); simp only [Act.put]; go_wp2_with fail
  have HO0 := hZ9 (own_lowR hO2 (base' := w.heap.size) (by omega)); have hzb : w.heap.size + 2 ≤ b1z := by have := Hb1.out; omega
  have hgb : g < b1z := by have := Hb1.out; omega
  have hgw : w.heap.size + 2 ≤ g := by omega
  have hHO : Hid (∀ bb, (Value.slice hA x.head.args.length hc).ownBlock = some bb → bb < b1z ∧ bb ≠ g) := fun bb hbb => by
   have h9 := (own_blk hO2 hbb).2; refine ⟨by have := Hb1.out; omega, fun e => ?_⟩; obtain ⟨cur, hcur⟩ := own_typeR hO2 hbb; rw [e, hS] at hcur; injection hcur with hcur
   injection hcur with _ h3 _
   exact absurd h3 (by decide)
  have HzW : Hid (b1z ≤ W2.heap.size) := by show _ ≤ _; rw [Hb1.out]; exact Nat.le_refl _
  clear hO2 hr0 b0 b1 b2 b3 b4 b5 Hb1 hsz hzw hgl hgn hzz
  go_loopw [19] (fun i wr => ∃ (j c' : Nat) (A' : Option Addr) (L : List (GLit × List Value)), j ≤ n ∧ i = .int .i64 j ∧ Hid (L.map (·.1) = x.body.take j) ∧ Hid (Rows (Enc.lit d) b1z 107 wr A' j c' L) ∧ wr.heap[g]? = some (.cells (ruleC x ⟨hA, x.head.args.length, hc⟩ ⟨A', j, c'⟩).toArray 65 (0, 0)) ∧ wr.heap[w.heap.size + 1]? = some (.cells zrC.toArray 65 (0, 0)) ∧
   Hid (wr.ownsRow w.heap.size 102 4 (.slice hA x.head.args.length hc) x.head.args.length (x.head.args.flatMap GTold.cells)) ∧ Below w.heap.size w wr ∧ b1z ≤ wr.heap.size) (fun i _ => n - (intOf i).toNat)
  case atStart => exact ⟨0, 0, none, [], by omega, rfl, rfl, Rows.nil _ _ _, hS, hr1, HO0, hbW, HzW.out⟩
  case round =>
   clear hS hr1 hbW; obtain ⟨j, c', A', L, hj, rfl, HL, HR, hg, hg1, HOh, hbr, hzr⟩ := hrel; have i0 : (0 : Int) ≤ (j : Int) := by omega
   by_cases hlt : j < n
   ·have i1 : (j : Int) < (n : Int) := by omega
    obtain ⟨bb, o, k, ak, pk, qk, hAA, hbb, hk', hkl, hr⟩ := (HKe.out wr hbr).lit_range hlt; try simp only at hAA
    subst hAA; have hkm := hZ9 (List.mem_of_getElem? hk'.out); have HT : Hid (x.body.take (j + 1) = x.body.take j ++ [k]) := by show _ = _; rw [List.take_add_one, hk'.out]; rfl
    have hba : Below wr.heap.size wr (wr.alloc (.cells (litC k ak pk qk).toArray 80)) := belowA (Below.refl _ _) _; have HC := hZ9 (fun (W : World) (h : Below (wr.alloc (.cells (litC k ak pk qk).toArray 80)).heap.size (wr.alloc (.cells (litC k ak pk qk).toArray 80)) W) => copyLit_any d k ak pk qk W ((hkl.keep hba).keep h) (HS.out.lits k hkm.out)); have hn1 : j + 1 ≤ 1500 := by have := HS.out.body; have := Hlen.out; omega
    have hx2 : (wr.alloc (.cells (litC k ak pk qk).toArray 80)).heap[wr.heap.size]? = some (.cells (litC k ak pk qk).toArray 80 (0, 0)) := heapNew rfl; have hgA := heapOld (o := .cells (litC k ak pk qk).toArray 80) hg; have hg1A := heapOld (o := .cells (litC k ak pk qk).toArray 80) hg1; have HRA := hZ9 (HR.out.out (Out.of_below hba []) (fun _ h _ => by cases h)); have hbA := below_next hbr hba; have HOhA := hZ9 (own_below HOh.out hba)
    have HoG : Hid (g ∉ (Value.slice A' j c').ownBlock.toList) := fun hm => by
     have := (own_blk HR.out.own (b := g) (by simpa using hm)).1; omega
    have HoX : Hid (wr.heap.size ∉ (Value.slice A' j c').ownBlock.toList) := fun hm => by
     have := (own_blk HR.out.own (b := wr.heap.size) (by simpa using hm)).2; omega
    have HO : Hid ((wr.alloc (.cells (litC k ak pk qk).toArray 80)).ownsRow b1z 107 17 (.slice A' j c') j (L.flatMap (·.2))) := HRA.out.own; clear hk' hba hkl HR hg hg1 HOh
    go_wp2_with (first
     | refine wpList_load_mid rfl 80 (.tmp 21) rfl bb (o + j * 17) rfl (litC k ak pk qk) _ hr.out Tryz.underlying80 rfl (lit_size k ak pk qk) ?_
     | refine wpList_new rfl rfl 80 5 (.tmp 22) rfl rfl rfl rfl _ (litC k ak pk qk).toArray lit_info rfl (lit_one k ak pk qk) rfl rfl ?_)
    refine push_region (n := 32) mixed rfl rfl (by kernel_rfl) (by kernel_rfl) (by kernel_rfl) g wr.heap.size 4 b1z 107 17 224 j (.agg zlC.toArray) A' c' (L.flatMap (·.2)) (litC k ak pk qk) (ruleC x ⟨hA, x.head.args.length, hc⟩ ⟨A', j, c'⟩).toArray
     (fun vcs W => (Enc.lit d).ok (sans W (List.range (wr.heap.size + 1))) W.heap.size vcs k) (fun S vcs W => (Enc.lit d).ok (sans W (List.range (wr.heap.size + 1) ++ S)) W.heap.size vcs k) _
     rfl rfl hgA hx2 rfl (fun w => by simp [go_sem]) Tryz.underlying63 (by kernel_rfl) Tryz.underlying80 rfl (lit_size k ak pk qk) (by kernel_rfl) rfl (by decide) (by decide) HO.out HoG.out HoX.out (by simp [maxLen]; omega) (by omega) (by simp; omega) _ Tryz.func56 (by kernel_rfl) (by kernel_rfl) ?_ ?_ ?_ ?_ ?_ ?_
    ·intro vcs W W' h hb; exact (Enc.lit d).mono hb.size ((Out.of_below hb []).kept (fun _ h _ => by cases h) (fun _ h _ => h)) h
    ·intro S vcs W W' h hb; exact (Enc.lit d).mono hb.size ((Out.of_below hb []).kept (fun _ h _ => by cases h) (fun _ h _ => h)) h
    ·intro S vcs W W' h hz ho hS; refine (Enc.lit d).mono ho.size (ho.kept (T := List.range (wr.heap.size + 1)) (fun b hb _ => ?_) (fun b hb hl => ?_)) h
     ·have := (own_blk HO.out (b := b) (by simpa using hb)).2; simp at this
      exact List.mem_range.2 this
     ·rcases List.mem_append.1 hb with hb | hb
      ·exact hb
      ·rcases hS b hb with h1 | h1
       ·have := (own_blk HO.out (b := b) (by simpa using h1)).2; simp at this
        exact List.mem_range.2 this
       ·omega
    ·intro vcs W W' h hz ho; refine (Enc.lit d).mono ho.size (ho.kept (T := List.range (wr.heap.size + 1)) (fun b hb _ => ?_) (fun b hb hl => hb)) h; have := (own_blk HO.out (b := b) (by simpa using hb)).2; simp at this
     exact List.mem_range.2 this
    ·intro W hb; refine (HC.out W hb).mono ?_; rintro r w' ⟨a2, p2, q2, rfl, hs, hb2⟩; refine ⟨litC k a2 p2 q2, rfl, rfl, by simp [Value.oneCell'], ?_, hb2⟩; refine ⟨a2, p2, q2, rfl, hs.mono' (Nat.le_refl _) ((Out.refl [] w').kept (fun _ h _ => by cases h) (fun b hb' _ => List.mem_range.2 ?_))⟩; have h1 := List.mem_range.1 hb'; have h2 := hb.size; simp at h2
     omega
    ·intro u W vcs A2 c2 hl hfar hown hblk ho hgW; have hsA : (wr.alloc (.cells (litC k ak pk qk).toArray 80)).heap.size = wr.heap.size + 1 := by simp
     have hR2 := HRA.out.push (by rw [hsA]; omega) hown hblk ho (by rw [hsA]; exact hfar); have HR2 := hZ9 (hR2.out (set_out W g 4 (.slice A2 (j + 1) c2)) (fun b hb _ => by simp at hb; omega)); have HL2 : Hid ((L ++ [(k, vcs)]).map (·.1) = x.body.take (j + 1)) := by show _ = _; rw [HT.out, List.map_append, HL.out]; rfl
     have hG2 : (W.setCell ⟨g, 4, none⟩ (.slice A2 (j + 1) c2)).heap[g]? = some (.cells (ruleC x ⟨hA, x.head.args.length, hc⟩ ⟨A2, j + 1, c2⟩).toArray 65 (0, 0)) := by
      simp [World.setCell, Array.getElem?_modify, hgW]
     have hnot : ∀ bb, bb < b1z → bb ∉ (Value.slice A' j c').ownBlock.toList := fun bb hbb hm => by
      have := (own_blk HO.out (b := bb) (by simpa using hm)).1; omega
     have hG1 : (W.setCell ⟨g, 4, none⟩ (.slice A2 (j + 1) c2)).heap[w.heap.size + 1]? = some (.cells zrC.toArray 65 (0, 0)) :=
      (World.heap_setCells_other' (by omega)).trans ((ho.block _ (glt hg1A) (hnot _ (by omega))).trans hg1A)
     have HOh2 : Hid ((W.setCell ⟨g, 4, none⟩ (.slice A2 (j + 1) c2)).ownsRow w.heap.size 102 4 (.slice hA x.head.args.length hc) x.head.args.length (x.head.args.flatMap GTold.cells)) :=
      own_out' (own_out' HOhA.out ho (fun b hb => hnot b (hHO.out b hb).1)) (set_out W g 4 _) (fun b hb => by simpa using (hHO.out b hb).2)
     have hzz : wr.heap.size + 1 ≤ W.heap.size := by rw [← hsA]; exact ho.size
     have hB2 : Below w.heap.size w (W.setCell ⟨g, 4, none⟩ (.slice A2 (j + 1) c2)) :=
      (hbA.trans (ho.below (B := w.heap.size) (fun b hb => by
       have := (own_blk HO.out (b := b) (by simpa using hb)).1
       omega) (by rw [hsA]; omega))).setCell (by show w.heap.size ≤ g; omega) _
     have hzs : (W.setCell ⟨g, 4, none⟩ (.slice A2 (j + 1) c2)).heap.size = W.heap.size := World.size_setCell'; have HZ2 := hZ9 hzs; clear hR2 hgW hfar hown hblk ho hsA hgA hg1A hx2 hzs hnot; simp only [List.foldl_cons, List.foldl_nil, Act.put, List.setIfInBounds_toArray, List.set_cons_zero, List.set_cons_succ]; generalize W.setCell ⟨g, 4, none⟩ (.slice A2 (j + 1) c2) = W3 at *; go_wp2_with fail
     go_roundw
     case rel => exact ⟨j + 1, c2, A2, _, by omega, by go_num, HL2, HR2, hG2, hG1, HOh2, hB2, by rw [HZ2.out]; omega⟩
     case measure => simp [intOf]; omega
   ·have i1 : ¬ (j : Int) < (n : Int) := by omega
    have hjn : j = n := by omega
    subst hjn; have hll := Hlen.out; obtain ⟨c0, c1, c2, c3, c4, c5⟩ := facts6 hg; have hS := setRow_at (cs' := (ruleC x ⟨hA, x.head.args.length, hc⟩ ⟨A', j, c'⟩).toArray) hg1; obtain ⟨s0, s1, s2, s3, s4, s5⟩ := facts6 hS; have hbS : Below w.heap.size w (wr.setRow (w.heap.size + 1) (ruleC x ⟨hA, x.head.args.length, hc⟩ ⟨A', j, c'⟩).toArray) := ⟨hbr.os, hbr.tape, hbr.output, by rw [setRow_size]; exact hbr.size, fun x hx => (setRow_ne (by omega)).trans (hbr.block x hx)⟩
    have hoS : Out [w.heap.size + 1] wr (wr.setRow (w.heap.size + 1) (ruleC x ⟨hA, x.head.args.length, hc⟩ ⟨A', j, c'⟩).toArray) := ⟨rfl, rfl, rfl, by rw [setRow_size]; exact Nat.le_refl _, fun x _ hx => setRow_ne (by simpa using hx)⟩
    have hR3 := HR.out.out hoS (fun b hb _ => by simp at hb; omega); have hR2 := hR3.is (base := w.heap.size) (by simpa [reachN] using hn) (by omega); rw [HL.out, List.take_of_length_le (by omega)] at hR2
    have hO3 := own_out' HOh.out hoS (fun b hb hb' => by
     simp at hb'
     obtain ⟨cur, hcur⟩ := own_typeR HOh.out hb; rw [hb', hg1] at hcur; injection hcur with hcur
     injection hcur with _ h3 _
     exact absurd h3 (by decide))
    have hpost : P (.returned (.agg (ruleC x ⟨hA, x.head.args.length, hc⟩ ⟨A', j, c'⟩).toArray)) (wr.setRow (w.heap.size + 1) (ruleC x ⟨hA, x.head.args.length, hc⟩ ⟨A', j, c'⟩).toArray) := by
     rw [HP.out]; exact ⟨_, _, rfl, ⟨HKw.out.rel, own_far (n := x.head.args.length) (l := x.head.args) hO3 rfl (Nat.le_trans HS.out.args (by decide)) (told_okA HKw.out.args), HKw.out.agg, HKw.out.col, hR2, HKw.out.pos⟩, hbS⟩
    have HPo := hZ9 hpost; clear hR2 hR3 HR HL hll hpost hoS hbS hS HP hO3; go_wp2_with (refine wpList_store_rowTo rfl 65 (.tmp 2) (.tmp 31) rfl rfl (w.heap.size + 1) (ruleC x ⟨hA, x.head.args.length, hc⟩ ⟨A', j, c'⟩).toArray rfl rfl 65 zrC.toArray hg1 (by kernel_rfl) rfl (by simp [Value.oneCell']) ?_)
    refine bodyPost_ret (v := .agg (ruleC x ⟨hA, x.head.args.length, hc⟩ ⟨A', j, c'⟩).toArray) ?_ rfl HPo.out; simp [results, Tryz.results27, go_sem, s0, s1, s2, s3, s4, s5]
end Go.Proofs.YtaeedepojpablaaGreatDoor

namespace Go.Proofs.YtaeedepojpablaaGreatDoor
theorem argsK_none {but : Int} : ∀ (l : Kinds) (r : List GTold) (i : Nat), argsK [] but l r i = l
 | _, [], _ => rfl
 | l, t :: r, i => by
   rw [argsK, if_neg (by simp)]; exact argsK_none l r (i + 1)
end Go.Proofs.YtaeedepojpablaaGreatDoor

namespace Go.Proofs.YtaeedepojpablaaGreatDoor
open Go.RowKit
theorem tyRefIndex_any (aA : Option Addr) (an ac : Nat) (bv : Value) (l : List GDecl) (r : ByteArray) (w : World) (hl : SliceIs Enc.decl w w.heap.size aA an ac l) :
 Calls Tryz.prog 13 #[.agg #[.slice aA an ac, bv], .string r] w (IdxRet l r w) := by
 obtain ⟨V, hV⟩ : ∃ V, V = w.alloc (.cells #[.slice aA an ac, bv] 34) := ⟨_, rfl⟩
 have HVe := hZ9 hV.symm; have hb : Below w.heap.size w V := by rw [hV]; exact belowA (Below.refl _ _) _
 have hr0 : V.heap[w.heap.size]? = some (.cells #[.slice aA an ac, bv] 34 (0, 0)) := by rw [hV]; exact heapNew rfl
 have c0 : V.cell? ⟨w.heap.size, 0, none⟩ = some (.slice aA an ac) := (cell_of_row _ _ 0 _ _ _ hr0).trans rfl; have hn := hl.bound; have hlen := hZ9 hl.1; have HL := hZ9 (hl.keep hb); have HB := hZ9 hb; clear hV hb hr0 hl; go_enter Tryz.func13, Tryz.ntmps13
 go_wp2_with (rw [HVe.out])
 go_loopw [5] (fun i wr => ∃ k : Nat, k ≤ an ∧ i = .int .i64 k ∧ Hid (∀ y ∈ l.take k, y.rel ≠ r) ∧ wr = V) (fun i _ => an - (intOf i).toNat)
 case atStart => exact ⟨0, by omega, rfl, (fun y hy => by simp at hy), rfl⟩
 case round =>
  obtain ⟨k, hk, rfl, hpre, rfl⟩ := hrel; by_cases hlt : k < an
  ·obtain ⟨b, o, x, a, rfl, hbb, hx, hat, z0, z1, z2⟩ := HL.out.decl_at hlt
   have i0 : (0 : Int) ≤ (k : Int) := by omega
   have i1 : (k : Int) < (an : Int) := by omega
   by_cases hB : x.rel = r
   ·obtain ⟨e1, e2, e3⟩ := rel_eq hB
    have HE := hZ9 (idxRet_hit hx.out hB hpre.out HB.out); clear hB hat hx; go_wp2_with fail
    go_ret; exact HE.out
   ·obtain ⟨e1, e2, e3⟩ := rel_ne hB
    have HT2 := hZ9 (take_miss hx.out hB hpre.out); clear hB hat hx; go_wp2_with fail
    go_roundw
    case rel => exact ⟨k + 1, by omega, by go_num, HT2, by trivial⟩
    case measure => simp [intOf]; omega
  ·have i1 : ¬ (k : Int) < (an : Int) := by omega
   have HA : Hid (IdxRet l r w (.returned (.int .i64 (-1))) wr) := idxRet_miss (fun y hy => hpre.out y (by rw [List.take_of_length_le (by have := hlen.out; omega)]; exact hy)) HB.out; go_wp2_with fail
   go_ret; exact HA.out
end Go.Proofs.YtaeedepojpablaaGreatDoor

namespace Go.Proofs.YtaeedepojpablaaGreatDoor
theorem kindsR_told {ds : List GDecl} {x : GRule} : Told (varsR x) [] (kindsR ds x) := Told.start.trans (Told.rounds varsR_body _ _)
end Go.Proofs.YtaeedepojpablaaGreatDoor

namespace Go.Proofs.YtaeedepojpablaaGreatDoor
open Go.RowKit
def kpC (p : ByteArray × Int) : List Value := [.string p.1, .int .i64 p.2]
def Enc.kp : Enc (ByteArray × Int) where
 sz := 2
 ok _ _ cs p := cs = kpC p
 mono _ _ h := h
 len h := by rw [h]; rfl
theorem SliceIs.kp_at {w : World} {B : Nat} {A : Option Addr} {n c : Nat} {l : Kinds} (h : SliceIs Enc.kp w B A n c l) {i : Nat} (hi : i < n) :
 ∃ b o x, A = some ⟨b, o, none⟩ ∧ b < B ∧ Hid (l[i]? = some x) ∧ w.cell? ⟨b, o + i * 2, none⟩ = some (.string x.1) ∧ w.cell? ⟨b, o + i * 2 + 1, none⟩ = some (.int .i64 x.2) := by
 obtain ⟨b, o, x, cs, hA, hb, hx, rfl, hc⟩ := h.at_ hi; exact ⟨b, o, x, hA, hb, hx, by simpa [Enc.kp] using hc 0 _ rfl, by simpa [Enc.kp] using hc 1 _ rfl⟩
theorem kp_info : (Tryz.prog.info? 121).map (fun i => (i.zero, i.size, i.bytes)) = some (some (.agg #[.string ⟨#[]⟩, .int .i64 0]), 2, 24) := by kernel_rfl
def KOwn (w : World) (base : Nat) (A : Option Addr) (c : Nat) (l : Kinds) : Prop := w.ownsRow base 121 2 (.slice A l.length c) l.length (l.flatMap kpC)
theorem KOwn.is {w : World} {base : Nat} {A : Option Addr} {c : Nat} {l : Kinds} (h : KOwn w base A c l) (hn : l.length ≤ 100000000) : SliceIs Enc.kp w w.heap.size A l.length c l :=
 SliceIs.of_flat (E := Enc.kp) kpC (fun _ => rfl) h rfl (by simp [reachN]; omega) (fun _ _ => rfl)
theorem KOwn.nil (w : World) (base : Nat) : KOwn w base none 0 [] := World.ownsRow_nil _ _ _ _
theorem KOwn.below {w w' : World} {base : Nat} {A : Option Addr} {c : Nat} {l : Kinds} (h : KOwn w base A c l) (hb : Below w.heap.size w w') : KOwn w' base A c l := own_below h hb
def RefKPost (base : Nat) (l : Kinds) (w : World) (r : Ending) (w' : World) : Prop :=
 ∃ A c, r = .returned (.slice A l.length c) ∧ KOwn w' base A c l ∧ Below base w w' ∧ w.heap.size ≤ w'.heap.size ∧ KeepsT 121 w w'
theorem kp_push {W : World} {base : Nat} {A : Option Addr} {c : Nat} {l : Kinds} (hown : KOwn W base A c l) (q : ByteArray × Int) (hn : l.length ≤ 100000000) (hb : base ≤ W.heap.size) :
 ∃ A' c' w', (∀ ty, (Builtin.append_ #[57, 57] ty #[.slice A l.length c, .slice (some ⟨W.heap.size, 0, none⟩) 1 1]).run Tryz.prog (W.alloc (.cells #[.string q.1, .int .i64 q.2] 121)) = .ok (.slice A' (l ++ [q]).length c') w') ∧
   KOwn w' base A' c' (l ++ [q]) ∧ Below base W w' ∧ W.heap.size ≤ w'.heap.size ∧ KeepsT 121 W w' := by
 have ho : (W.alloc (.cells #[.string q.1, .int .i64 q.2] 121)).ownsRow base 121 2 (.slice A l.length c) l.length (l.flatMap kpC) := own_below hown (belowA (Below.refl _ _) _)
 obtain ⟨v', w', h1, h2, h3, h4⟩ := run_push_at (P := Tryz.prog) (ty := 57) (W.alloc (.cells #[.string q.1, .int .i64 q.2] 121)) (base := base) Tryz.underlying57 kp_info rfl (by decide) ho W.heap.size (kpC q) rfl (heapNew rfl) (by intro u hu; simp [kpC] at hu; rcases hu with rfl | rfl <;> rfl)
  (by simp [maxLen]; omega) (by omega) (by simp; omega)
 obtain ⟨A', c', rfl⟩ := own_form h2; have hl : (l ++ [q]).length = l.length + 1 := by simp
 refine ⟨A', c', w', fun _ => by rw [hl]; exact h1, ?_, ?_, ?_, ?_⟩
 ·unfold KOwn; rw [hl, List.flatMap_append]; simpa using h2
 ·exact ((Below.refl base W).alloc hb _).trans h4
 ·have := h3.size; simp at this; omega
 ·have k1 : KeepsT 121 W (W.alloc (.cells #[.string q.1, .int .i64 q.2] 121)) := KeepsT.of_below (belowA (Below.refl _ _) _); refine k1.trans ?_; intro b cs t fr hbb ht; refine ((grown_out h3).block b (glt hbb) (fun hbo => ?_)).trans hbb; obtain ⟨cur, hc⟩ := own_type ho (b := b) (by simpa using hbo); rw [hc] at hbb; injection hbb with hbb; injection hbb with _ h5 _; exact ht h5.symm
theorem kget_hit {l : Kinds} {v : ByteArray} {k : Nat} {p : ByteArray × Int} (hk : l[k]? = some p) (hp : p.1 = v) (hn : ∀ y ∈ l.take k, y.1 ≠ v) : kget l v = p.2 := by
 induction l generalizing k with
 | nil => simp at hk
 | cons q l ih =>
   unfold kget at ih ⊢; rw [kvGet_cons]; cases k with
   | zero =>
     simp at hk
     subst hk; rw [if_pos hp]; rfl
   | succ k =>
     have h1 : q.1 ≠ v := hn q (by simp); rw [if_neg h1]; exact ih (by simpa using hk) (fun y hy => hn y (by simp [hy]))
theorem kget_miss {l : Kinds} {v : ByteArray} (hn : ∀ y ∈ l, y.1 ≠ v) : kget l v = 0 := by
 induction l with
 | nil => rfl
 | cons q l ih =>
   unfold kget at ih ⊢; rw [kvGet_cons, if_neg (hn q (by simp))]; exact ih (fun y hy => hn y (by simp [hy]))
theorem kmiss_take {l : Kinds} {v : ByteArray} {k : Nat} {p : ByteArray × Int} (hk : l[k]? = some p) (hp : p.1 ≠ v) (hn : ∀ y ∈ l.take k, y.1 ≠ v) : ∀ y ∈ l.take (k + 1), y.1 ≠ v := by
 intro y hy; rw [List.take_add_one, hk] at hy; rcases List.mem_append.1 hy with hy | hy
 ·exact hn y hy
 ·simp at hy; subst hy; exact hp
theorem refGet_any (A : Option Addr) (n c : Nat) (l : Kinds) (v : ByteArray) (w : World) (hl : SliceIs Enc.kp w w.heap.size A n c l) :
 Calls Tryz.prog 72 #[.slice A n c, .string v] w (fun e w' => e = .returned (.int .i64 (kget l v)) ∧ w' = w) := by
 have hn := hl.bound; have hlen := hZ9 hl.1; have HL := hZ9 hl; obtain ⟨P, HP⟩ : ∃ P : Ending → World → Prop, Hid (P = fun e w' => e = .returned (.int .i64 (kget l v)) ∧ w' = w) := ⟨_, rfl⟩
 rw [← HP.out]; clear hl; go_enter Tryz.func72, Tryz.ntmps72
 go_wp2_with fail
 go_loopw [5] (fun i wr => ∃ k : Nat, k ≤ n ∧ i = .int .i64 k ∧ Hid (∀ y ∈ l.take k, y.1 ≠ v) ∧ wr = w) (fun i _ => n - (intOf i).toNat)
 case atStart => exact ⟨0, by omega, rfl, (fun y hy => by simp at hy), rfl⟩
 case round =>
  obtain ⟨k, hk, rfl, hpre, rfl⟩ := hrel; by_cases hlt : k < n
  ·obtain ⟨b, o, x, rfl, hbb, hx, z0, z1⟩ := HL.out.kp_at hlt; have i0 : (0 : Int) ≤ (k : Int) := by omega
   have i1 : (k : Int) < (n : Int) := by omega
   by_cases hB : x.1 = v
   ·obtain ⟨e1, e2, e3⟩ := rel_eq hB
    have HE : Hid (P (.returned (.int .i64 x.2)) wr) := by
     show P _ _; rw [HP.out, kget_hit hx.out hB hpre.out]; exact ⟨rfl, rfl⟩
    clear hB hx; go_wp2_with fail
    first | exact HE.out | (go_ret; exact HE.out)
   ·obtain ⟨e1, e2, e3⟩ := rel_ne hB; have HT2 := hZ9 (kmiss_take hx.out hB hpre.out); clear hB hx; go_wp2_with fail
    go_roundw
    case rel => exact ⟨k + 1, by omega, by go_num, HT2, by trivial⟩
    case measure => simp [intOf]; omega
  ·have i1 : ¬ (k : Int) < (n : Int) := by omega
   have HE : Hid (P (.returned (.int .i64 0)) wr) := by
    show P _ _; rw [HP.out, kget_miss (l := l) (v := v) (fun y hy => hpre.out y (by rw [List.take_of_length_le (by have := hlen.out; omega)]; exact hy))]; exact ⟨rfl, rfl⟩
   go_wp2_with fail
   first | exact HE.out | (go_ret; exact HE.out)
end Go.Proofs.YtaeedepojpablaaGreatDoor

namespace Go.Proofs.YtaeedepojpablaaGreatDoor
open Go.RowKit
theorem refPutK_any (base : Nat) (A : Option Addr) (c : Nat) (l : Kinds) (x : ByteArray) (k : Int) (w : World) (hown : KOwn w base A c l) (hb : base ≤ w.heap.size) (hn : l.length < 100000000) :
 Calls Tryz.prog 42 #[.slice A l.length c, .string x, .int .i64 k] w (RefKPost base (kput l x k) w) := by
 obtain ⟨P, HP⟩ : ∃ P : Ending → World → Prop, Hid (P = RefKPost base (kput l x k) w) := ⟨_, rfl⟩
 have HSame : Hid (kput l x k = l → P (.returned (.slice A l.length c)) w) := fun h => by
  rw [HP.out, h]; exact ⟨A, c, rfl, hown, Below.refl _ _, Nat.le_refl _, KeepsT.refl _ _⟩
 obtain ⟨A2, c2, w2, hrun, ho2, hb2, hz2, hk2⟩ := kp_push hown (x, k) (by omega) hb
 have HMore : Hid (kput l x k = l ++ [(x, k)] → P (.returned (.slice A2 (l ++ [(x, k)]).length c2)) w2) := fun h => by
  rw [HP.out, h]; exact ⟨A2, c2, rfl, ho2, hb2, hz2, hk2⟩
 have HRun := hZ9 hrun; have HG := hZ9 (refGet_any A l.length c l x w (hown.is (by omega))); rw [← HP.out]; obtain ⟨g, Hg⟩ : ∃ g, Hid (kget l x = g) := ⟨_, rfl⟩
 obtain ⟨n2, Hn2⟩ : ∃ n2, Hid ((l ++ [(x, k)]).length = n2) := ⟨_, rfl⟩
 rw [Hg.out] at HG; rw [Hn2.out] at HRun HMore; have hkp : kput l x k = if x.size = 0 ∨ k = 0 ∨ g ≠ 0 then l else l ++ [(x, k)] := by unfold kput; rw [Hg.out]
 clear hrun ho2 hb2 hz2 hk2 hown HP; by_cases h1 : x.size = 0
 ·have HE := hZ9 (HSame.out (hkp.trans (if_pos (.inl h1)))); clear HSame HMore HG hkp; go_enter Tryz.func42, Tryz.ntmps42
  go_wp2_with fail
  first | exact HE.out | (go_ret2; exact HE.out)
 by_cases h2 : k = 0
 ·have HE := hZ9 (HSame.out (hkp.trans (if_pos (.inr (.inl h2))))); have e1 : ((x.size : Int) == 0) = false := by rw [beq_eq_false_iff_ne]; omega
  subst h2; clear HSame HMore HG hkp h1; go_enter Tryz.func42, Tryz.ntmps42
  go_wp2_with fail
  first | exact HE.out | (go_ret2; exact HE.out)
 have e1 : ((x.size : Int) == 0) = false := by rw [beq_eq_false_iff_ne]; omega
 have e2 : (k == 0) = false := by simpa using h2
 by_cases h3 : g = 0
 ·have HE := hZ9 (HMore.out (hkp.trans (if_neg (by rintro (h | h | h); exact h1 h; exact h2 h; exact h h3)))); have e3 : (g != 0) = false := by simpa using h3
  clear HSame HMore hkp h1 h2 h3; go_enter Tryz.func42, Tryz.ntmps42
  go_wp2_with fail
  refine HG.out.mono ?_; rintro e w1 ⟨rfl, rfl⟩; go_wp2_with (at_builtin; refine wpList_append_run rfl _ _ _ rfl _ _ rfl rfl (HRun.out _) ?_)
  first | exact HE.out | (go_ret2; exact HE.out)
 ·have HE := hZ9 (HSame.out (hkp.trans (if_pos (.inr (.inr h3))))); have e3 : (g != 0) = true := by simpa using h3
  clear HSame HMore hkp h1 h2 h3; go_enter Tryz.func42, Tryz.ntmps42
  go_wp2_with fail
  refine HG.out.mono ?_; rintro e w1 ⟨rfl, rfl⟩; go_wp2_with fail
  first | exact HE.out | (go_ret2; exact HE.out)
theorem refSide_any (Al : Option Addr) (nl cl : Nat) (l : Kinds) (e : GExp) (A : Option Addr) (n c : Nat) (w : World) (hl : SliceIs Enc.kp w w.heap.size Al nl cl l) :
 Calls Tryz.prog 43 #[.slice Al nl cl, expV e A n c] w (fun r w' => r = .returned (.int .i64 (sideK l e)) ∧ Below w.heap.size w w') := by
 obtain ⟨V, hV⟩ : ∃ V, V = w.alloc (.cells (expC e A n c).toArray 105) := ⟨_, rfl⟩
 have HVe := hZ9 hV.symm; have hb : Below w.heap.size w V := by rw [hV]; exact belowA (Below.refl _ _) _
 have hr : V.heap[w.heap.size]? = some (.cells (expC e A n c).toArray 105 (0, 0)) := by rw [hV]; exact heapNew rfl
 obtain ⟨c0, c1, c2, c3, c4, c5⟩ := facts6 hr; have HG := hZ9 (refGet_any Al nl cl l e.t.x V (hl.keep hb)); obtain ⟨P, HP⟩ : ∃ P : Ending → World → Prop, Hid (P = fun r w' => r = .returned (.int .i64 (sideK l e)) ∧ Below w.heap.size w w') := ⟨_, rfl⟩
 rw [← HP.out]; have HEnd : Hid (∀ v, sideK l e = v → P (.returned (.int .i64 v)) V) := fun v h => by rw [HP.out]; exact ⟨by rw [h], hb⟩
 clear hV hb hr hl; by_cases h0 : e.op = 0
 ·have e0 : (e.op != 0) = false := by simpa using h0
  have hsk : sideK l e = if e.t.x.size ≠ 0 then kget l e.t.x else e.t.v.k := by unfold sideK; exact if_neg (fun q => q h0)
  by_cases h1 : e.t.x.size = 0
  ·have HE := hZ9 (HEnd.out _ (hsk.trans (if_neg (fun q => q h1)))); have i1 : ¬ (0 : Int) < (e.t.x.size : Int) := by omega
   clear h0 h1 hsk HEnd HG; go_enter Tryz.func43, Tryz.ntmps43
   go_wp2_with (rw [HVe.out])
   first | exact HE.out | (go_ret2; exact HE.out)
  ·have HE := hZ9 (HEnd.out _ (hsk.trans (if_pos h1))); have i1 : (0 : Int) < (e.t.x.size : Int) := by omega
   obtain ⟨g, Hg⟩ : ∃ g, Hid (kget l e.t.x = g) := ⟨_, rfl⟩
   rw [Hg.out] at HG HE; clear h0 h1 hsk HEnd; go_enter Tryz.func43, Tryz.ntmps43
   go_wp2_with (rw [HVe.out])
   refine HG.out.mono ?_; rintro e w1 ⟨rfl, rfl⟩; go_wp2_with fail
   first | exact HE.out | (go_ret2; exact HE.out)
 ·have e0 : (e.op != 0) = true := by simpa using h0
  have HE := hZ9 (HEnd.out 1 (if_pos h0)); clear h0 HEnd HG; go_enter Tryz.func43, Tryz.ntmps43
  go_wp2_with (rw [HVe.out])
  first | exact HE.out | (go_ret2; exact HE.out)
theorem refFits_any (Al : Option Addr) (nl cl : Nat) (l : Kinds) (x : ByteArray) (vk vn : Int) (vs : ByteArray) (k : Int) (w : World) (hl : SliceIs Enc.kp w w.heap.size Al nl cl l) :
 Calls Tryz.prog 66 #[.slice Al nl cl, .agg #[.string x, .int .i64 vk, .int .i64 vn, .string vs], .int .i64 k] w (FitsPost (fitsK l ⟨x, ⟨vk, vn, vs⟩⟩ k) w) := by
 obtain ⟨V, hV⟩ : ∃ V, V = w.alloc (.cells #[.string x, .int .i64 vk, .int .i64 vn, .string vs] 102) := ⟨_, rfl⟩
 have HVe := hZ9 hV.symm; have hb : Below w.heap.size w V := by rw [hV]; exact belowA (Below.refl _ _) _
 have hr : V.heap[w.heap.size]? = some (.cells #[.string x, .int .i64 vk, .int .i64 vn, .string vs] 102 (0, 0)) := by rw [hV]; exact heapNew rfl
 obtain ⟨c0, c1, c2, c3⟩ := facts4 hr; have HG := hZ9 (refGet_any Al nl cl l x V (hl.keep hb)); obtain ⟨P, HP⟩ : ∃ P : Ending → World → Prop, Hid (P = FitsPost (fitsK l ⟨x, ⟨vk, vn, vs⟩⟩ k) w) := ⟨_, rfl⟩
 rw [← HP.out]
 have HEnd : Hid (∀ o B, (if x.size ≠ 0 then kget l x else vk) = o → (decide (o = 0) || decide (o = k)) = B → P (.returned (.bool B)) V) := fun o B h1 h2 => by
  rw [HP.out]; refine ⟨?_, hb⟩; unfold fitsK; dsimp only; rw [h1, h2]
 clear hV hb hr hl; by_cases h1 : x.size = 0
 ·have HE2 := hZ9 (fun B => HEnd.out vk B (if_neg (fun q => q h1))); have i1 : ¬ (0 : Int) < (x.size : Int) := by omega
  clear h1 HEnd HG; rcases own3 vk k with ⟨q0, q1⟩ | ⟨q0, q1, q2⟩ | ⟨q0, q1, q2⟩
  ·have HE := hZ9 (HE2.out true q1); subst q0; clear HE2 q1; go_enter Tryz.func66, Tryz.ntmps66
   go_wp2_with (rw [HVe.out])
   first | exact HE.out | (go_ret2; exact HE.out)
  ·have HE := hZ9 (HE2.out true q2); have e0 : (vk == 0) = false := by simpa using q0
   have e1 : (vk == k) = true := by simpa using q1
   clear HE2 q0 q1 q2; go_enter Tryz.func66, Tryz.ntmps66
   go_wp2_with (rw [HVe.out])
   first | exact HE.out | (go_ret2; exact HE.out)
  ·have HE := hZ9 (HE2.out false q2); have e0 : (vk == 0) = false := by simpa using q0
   have e1 : (vk == k) = false := by simpa using q1
   clear HE2 q0 q1 q2; go_enter Tryz.func66, Tryz.ntmps66
   go_wp2_with (rw [HVe.out])
   first | exact HE.out | (go_ret2; exact HE.out)
 ·obtain ⟨o, Ho⟩ : ∃ o, Hid (kget l x = o) := ⟨_, rfl⟩
  have HE2 := hZ9 (fun B => HEnd.out o B ((if_pos h1).trans Ho.out)); have i1 : (0 : Int) < (x.size : Int) := by omega
  rw [Ho.out] at HG; clear h1 HEnd; rcases own3 o k with ⟨q0, q1⟩ | ⟨q0, q1, q2⟩ | ⟨q0, q1, q2⟩
  ·have HE := hZ9 (HE2.out true q1); have e0 : (o == 0) = true := by simpa using q0
   clear HE2 q1 q0; go_enter Tryz.func66, Tryz.ntmps66
   go_wp2_with (rw [HVe.out])
   refine HG.out.mono ?_; rintro e w1 ⟨rfl, rfl⟩; go_wp2_with fail
   first | exact HE.out | (go_ret2; exact HE.out)
  ·have HE := hZ9 (HE2.out true q2); have e0 : (o == 0) = false := by simpa using q0
   have e1 : (o == k) = true := by simpa using q1
   clear HE2 q0 q1 q2; go_enter Tryz.func66, Tryz.ntmps66
   go_wp2_with (rw [HVe.out])
   refine HG.out.mono ?_; rintro e w1 ⟨rfl, rfl⟩; go_wp2_with fail
   first | exact HE.out | (go_ret2; exact HE.out)
  ·have HE := hZ9 (HE2.out false q2); have e0 : (o == 0) = false := by simpa using q0
   have e1 : (o == k) = false := by simpa using q1
   clear HE2 q0 q1 q2; go_enter Tryz.func66, Tryz.ntmps66
   go_wp2_with (rw [HVe.out])
   refine HG.out.mono ?_; rintro e w1 ⟨rfl, rfl⟩; go_wp2_with fail
   first | exact HE.out | (go_ret2; exact HE.out)
theorem refColumn_any (y : GRule) (a b : Hd) (w : World) : Calls Tryz.prog 32 #[.agg (ruleC y a b).toArray] w (fun r w' => r = .returned (.int .i64 (colK y)) ∧ w' = w.alloc (.cells (ruleC y a b).toArray 65)) := by
 obtain ⟨V, hV⟩ : ∃ V, V = w.alloc (.cells (ruleC y a b).toArray 65) := ⟨_, rfl⟩
 have HVe := hZ9 hV.symm; have hr : V.heap[w.heap.size]? = some (.cells (ruleC y a b).toArray 65 (0, 0)) := by rw [hV]; exact heapNew rfl
 obtain ⟨-, -, c2, c3, -, -⟩ := facts6 hr; rw [← hV]; clear hV hr; by_cases h : 0 < y.agg
 ·have HE : Hid (colK y = y.col) := if_pos h; rw [HE.out]; go_enter Tryz.func32, Tryz.ntmps32
  go_wp2_with (rw [HVe.out])
  go_ret; exact ⟨rfl, rfl⟩
 ·have HE : Hid (colK y = -1) := if_neg h; rw [HE.out]; go_enter Tryz.func32, Tryz.ntmps32
  go_wp2_with (rw [HVe.out])
  go_ret; exact ⟨rfl, rfl⟩
end Go.Proofs.YtaeedepojpablaaGreatDoor
