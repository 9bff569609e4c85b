/- My own texts CpRule, Idx, DgPl, IdxW, as far as this claim needs them. -/
import Derived.Test.YtgphngjniplonaaGreatDoorZp30
import Derived.Test.YtgphngjniplonaaGreatDoorZpa7
set_option linter.unusedVariables false
set_option linter.unusedSimpArgs false
set_option maxRecDepth 1000000
set_option maxHeartbeats 16000000
namespace Go.Proofs.YtgphngjniplonaaGreatDoor
open Go.RowKit
def CopyRule (d : Nat) (x : GRule) (w : World) (r : Ending) (w' : World) : Prop :=
  ∃ a b : Hd, r = .returned (.agg (ruleC x a b).toArray) ∧ RuleAt d (sans w' (List.range w.heap.size)) w'.heap.size x a b ∧ Below w.heap.size w w'
def rulF (x : GRule) (a : Hd) (_b : Hd) (g n0 : Nat) (i : Nat) (v : Value) (W : World) : Prop := match i with
  | 0 => v = .pointer (some ⟨g, 0, none⟩)
  | 1 => v = .agg (atomC x.head a).toArray
  | 2 => ∃ (A : Option Addr) (c : Nat), v = .agg (atomC x.head ⟨A, x.head.args.length, c⟩).toArray ∧ W.ownsRow n0 105 4 (.slice A x.head.args.length c) x.head.args.length (x.head.args.flatMap GTold.cells)
  | 3 => v = .pointer (some ⟨g, 2, none⟩)
  | 4 => v = .int .i64 x.agg
  | 5 => v = .pointer (some ⟨g, 3, none⟩)
  | 6 => v = .int .i64 x.col
  | 7 => v = .pointer (some ⟨g, 5, none⟩)
  | 8 => v = .int .i64 x.pos
  | 9 => ∃ (A : Option Addr) (c : Nat), v = .agg (ruleC x ⟨A, x.head.args.length, c⟩ ⟨none, 0, 0⟩).toArray ∧ W.ownsRow n0 105 4 (.slice A x.head.args.length c) x.head.args.length (x.head.args.flatMap GTold.cells)
  | 10 => ∃ (b : Nat) (cs : List Value), v = .pointer (some ⟨b, 0, none⟩) ∧ n0 ≤ b ∧ cs.length = 6 ∧ W.heap[b]? = some (.cells cs.toArray 103 (0, 0))
  | _ => True
theorem rulF_keep {x : GRule} {a b : Hd} {g n0 i : Nat} {v : Value} {W W' : World} (h : rulF x a b g n0 i v W) (hb : Below W.heap.size W W') : rulF x a b g n0 i v W' := by
  match i, h with
  | 0, h => exact h
  | 1, h => exact h
  | 2, ⟨A, c, h1, h2⟩ => exact ⟨A, c, h1, own_below h2 hb⟩
  | 3, h => exact h
  | 4, h => exact h
  | 5, h => exact h
  | 6, h => exact h
  | 7, h => exact h
  | 8, h => exact h
  | 9, ⟨A, c, h1, h2⟩ => exact ⟨A, c, h1, own_below h2 hb⟩
  | 10, ⟨b, cs, h1, h2, h3, h4⟩ => exact ⟨b, cs, h1, h2, h3, (hb.block _ (Array.getElem?_eq_some_iff.1 h4).1).trans h4⟩
  | _ + 11, _ => exact trivial
theorem own_lowR {W : World} {base base' : Nat} {e : TypeId} {size : Nat} {v : Value} {k : Nat} {xs : List Value} (h : W.ownsRow base e size v k xs) (hb : base' ≤ base) : W.ownsRow base' e size v k xs := by
  refine ⟨h.1, ?_⟩
  rcases h.2 with hn | ⟨g, cap, cur, hv, hbg, rest⟩
  · exact .inl hn
  · exact .inr ⟨g, cap, cur, hv, by omega, rest⟩
theorem copyRule_any (d : Nat) (x : GRule) (a b : Hd) (w : World) (hk : RuleAt d w w.heap.size x a b) (hs : SmRule x) :
    Calls Tryz.prog 36 #[.agg (ruleC x a b).toArray] w (CopyRule d x w) := by
  have mixed : Tryz.prog.follows .mixedOrders = true := by kernel_rfl
  have hn := hk.body.bound
  have Hlen := Lib.hid hk.body.1
  have HS := Lib.hid hs
  obtain ⟨P, HP⟩ : ∃ P : Ending → World → Prop, Hid (P = CopyRule d x w) := ⟨_, rfl⟩
  rw [← HP.out]
  have HKw := Lib.hid hk
  obtain ⟨aA, an, ac⟩ := a
  obtain ⟨A, n, c⟩ := b
  have hg0 : ((w.alloc (.cells (ruleC x ⟨aA, an, ac⟩ ⟨A, n, c⟩).toArray 83)).alloc (.cells zrC.toArray 103)).heap[w.heap.size]? = some (.cells (ruleC x ⟨aA, an, ac⟩ ⟨A, n, c⟩).toArray 83 (0, 0)) := heapOld (heapNew rfl)
  have hg1 : ((w.alloc (.cells (ruleC x ⟨aA, an, ac⟩ ⟨A, n, c⟩).toArray 83)).alloc (.cells zrC.toArray 103)).heap[w.heap.size + 1]? = some (.cells zrC.toArray 103 (0, 0)) := heapNew (by simp)
  have hbw : Below w.heap.size w ((w.alloc (.cells (ruleC x ⟨aA, an, ac⟩ ⟨A, n, c⟩).toArray 83)).alloc (.cells zrC.toArray 103)) := belowA (belowA (Below.refl _ _) _) _
  have hzw : ((w.alloc (.cells (ruleC x ⟨aA, an, ac⟩ ⟨A, n, c⟩).toArray 83)).alloc (.cells zrC.toArray 103)).heap.size = w.heap.size + 2 := by simp
  clear hk hs
  show Calls Tryz.prog 36 #[.agg #[.string x.head.rel, .slice aA an ac, .int .i64 x.agg, .int .i64 x.col, .slice A n c, .int .i64 x.pos]] w P
  go_enter Tryz.func36, Tryz.ntmps36
  go_wp2_with fail
  generalize hwb : (w.alloc _).alloc _ = wb
  rw [hwb] at hg0 hg1 hbw hzw
  clear hwb
  have HK := Lib.hid (HKw.out.keep hbw)
  have C1 := Lib.hid (fun (W : World) (h : Below wb.heap.size wb W) => copyAtom_any x.head ⟨aA, an, ac⟩ W ((HK.out.keep h).args) HKw.out.rel HS.out.args)
  refine drawn2 mixed 11 32 [6, 7, 8, 9, 10, 11, 12, 13, 14, 15, 3] (fun _ W => Below wb.heap.size wb W) (rulF x ⟨aA, an, ac⟩ ⟨A, n, c⟩ w.heap.size wb.heap.size) (fun _ W W' => Below W.heap.size W W') rfl (by kernel_rfl) (by kernel_rfl) rfl (fun j _ => below_drewN _ 1 _) (fun i j v W W' _ _ _ h h' => rulF_keep h h') (fun _ _ _ _ _ _ _ _ h h' => below_next h h') ?_ ?_
  · intro i o2 a2 W hi ho hd hold hG _ hw
    have hr1 : a2.tmps[1]? = some (.pointer (some ⟨w.heap.size, 0, none⟩)) := hold 1 (by kernel_rfl)
    have hgW := (hG.block _ (Array.getElem?_eq_some_iff.1 hg0).1).trans hg0
    have k2 : W.cell? ⟨w.heap.size, 2, none⟩ = some (.int .i64 x.agg) := (cell_of_row _ _ 2 _ _ _ hgW).trans rfl
    have k3 : W.cell? ⟨w.heap.size, 3, none⟩ = some (.int .i64 x.col) := (cell_of_row _ _ 3 _ _ _ hgW).trans rfl
    have k5 : W.cell? ⟨w.heap.size, 5, none⟩ = some (.int .i64 x.pos) := (cell_of_row _ _ 5 _ _ _ hgW).trans rfl
    have hWz := hG.size
    clear hold
    match i, hi, ho with
    | 0, _, ho =>
      injection ho with ho; subst ho
      exact op_val _ (by simp [execOp, Act.eval, hr1, go_sem]) ⟨_, rfl, Below.refl _ _, rfl⟩
    | 1, _, ho =>
      injection ho with ho; subst ho
      obtain ⟨v0, h0, e0⟩ := hw 0 6 (by kernel_rfl)
      obtain rfl : v0 = _ := e0
      exact wp_load_mid 80 (.tmp 6) rfl _ _ (eval_tmp h0) (atomC x.head ⟨aA, an, ac⟩) _ (range_off hgW rfl) Tryz.underlying80 rfl (atom_size _ _) ⟨_, rfl, Below.refl _ _, rfl⟩
    | 2, _, ho =>
      injection ho with ho; subst ho
      obtain ⟨v0, h0, e0⟩ := hw 1 7 (by kernel_rfl)
      obtain rfl : v0 = _ := e0
      refine op_call 63 _ rfl rfl #[.agg (atomC x.head ⟨aA, an, ac⟩).toArray] (by simp [Act.eval, h0]) _ Tryz.func63 (by kernel_rfl) (by kernel_rfl) ((C1.out W hG).mono ?_)
      rintro r w' ⟨A', c', rfl, hs', hb⟩
      exact ⟨_, rfl, _, rfl, hb, A', c', rfl, own_lowR hs' hWz⟩
    | 3, _, ho =>
      injection ho with ho; subst ho
      exact op_val _ (by simp [execOp, Act.eval, hr1, go_sem]) ⟨_, rfl, Below.refl _ _, rfl⟩
    | 4, _, ho =>
      injection ho with ho; subst ho
      obtain ⟨v0, h0, e0⟩ := hw 3 9 (by kernel_rfl)
      obtain rfl : v0 = _ := e0
      exact op_val _ (by simp [execOp, Act.eval, h0, go_sem, k2]) ⟨_, rfl, Below.refl _ _, rfl⟩
    | 5, _, ho =>
      injection ho with ho; subst ho
      exact op_val _ (by simp [execOp, Act.eval, hr1, go_sem]) ⟨_, rfl, Below.refl _ _, rfl⟩
    | 6, _, ho =>
      injection ho with ho; subst ho
      obtain ⟨v0, h0, e0⟩ := hw 5 11 (by kernel_rfl)
      obtain rfl : v0 = _ := e0
      exact op_val _ (by simp [execOp, Act.eval, h0, go_sem, k3]) ⟨_, rfl, Below.refl _ _, rfl⟩
    | 7, _, ho =>
      injection ho with ho; subst ho
      exact op_val _ (by simp [execOp, Act.eval, hr1, go_sem]) ⟨_, rfl, Below.refl _ _, rfl⟩
    | 8, _, ho =>
      injection ho with ho; subst ho
      obtain ⟨v0, h0, e0⟩ := hw 7 13 (by kernel_rfl)
      obtain rfl : v0 = _ := e0
      exact op_val _ (by simp [execOp, Act.eval, h0, go_sem, k5]) ⟨_, rfl, Below.refl _ _, rfl⟩
    | 9, _, ho =>
      injection ho with ho; subst ho
      obtain ⟨v2, h2, A2, c2, e2, f2⟩ := hw 2 8 (by kernel_rfl)
      obtain ⟨v4, h4, e4⟩ := hw 4 10 (by kernel_rfl)
      obtain ⟨v6, h6, e6⟩ := hw 6 12 (by kernel_rfl)
      obtain ⟨v8, h8, e8⟩ := hw 8 14 (by kernel_rfl)
      obtain rfl : v2 = _ := e2
      obtain rfl : v4 = _ := e4
      obtain rfl : v6 = _ := e6
      obtain rfl : v8 = _ := e8
      exact op_build 103 _ rfl [(0, .agg (atomC x.head ⟨A2, x.head.args.length, c2⟩).toArray), (1, .int .i64 x.agg), (2, .int .i64 x.col), (4, .int .i64 x.pos)] (ruleC x ⟨A2, x.head.args.length, c2⟩ ⟨none, 0, 0⟩).toArray (by simp [Act.eval, h2, h4, h6, h8]) (by kernel_rfl) ⟨_, rfl, Below.refl _ _, A2, c2, rfl, f2⟩
    | 10, _, ho =>
      injection ho with ho; subst ho
      exact op_alloc 103 rfl zrC.toArray 6 (by kernel_rfl) ⟨_, rfl, belowA (Below.refl _ _) _, _, zrC, rfl, hWz, rfl, heapNew rfl⟩
    | n + 11, hi, _ => omega
  · intro o2 u W ho hG hw
    obtain ⟨hA, hc, e0, h1⟩ := hw 9 15 (by decide) (by kernel_rfl)
    obtain ⟨g, cs, e1, hgn, hcs, hgg⟩ := hw 10 3 (by decide) (by kernel_rfl)
    have hgW := (hG.block _ (Array.getElem?_eq_some_iff.1 hg1).1).trans hg1
    injection ho with ho; subst ho
    simp only [List.foldl_cons, List.foldl_nil, Act.put, List.setIfInBounds_toArray, List.set_cons_zero, List.set_cons_succ]
    rw [e0, e1]
    refine wp_store_row 103 (.tmp 3) (.tmp 15) rfl g (ruleC x ⟨hA, x.head.args.length, hc⟩ ⟨none, 0, 0⟩).toArray rfl rfl 103 cs.toArray hgg (by kernel_rfl) (by simp [hcs]) (by simp [Value.oneCell']) ?_
    have hS := setRow_at (cs' := (ruleC x ⟨hA, x.head.args.length, hc⟩ ⟨none, 0, 0⟩).toArray) hgg
    have hoS : Out [g] W (W.setRow g (ruleC x ⟨hA, x.head.args.length, hc⟩ ⟨none, 0, 0⟩).toArray) := ⟨rfl, rfl, rfl, by rw [setRow_size]; exact Nat.le_refl _, fun x _ hx => setRow_ne (by simpa using hx)⟩
    have hgl := (Array.getElem?_eq_some_iff.1 hgg).1
    have hzz := hG.size
    have hO2 := own_out' h1 hoS (fun b hb hb' => by
      obtain ⟨cur, hcur⟩ := own_typeR h1 hb
      simp at hb'
      subst hb'
      rw [hgg] at hcur
      injection hcur with hcur
      injection hcur with _ h3 _
      exact absurd h3 (by decide))
    have hr1 := (hoS.block _ (Array.getElem?_eq_some_iff.1 hgW).1 (by simp; omega)).trans hgW
    have hr0 := (hoS.block _ (Array.getElem?_eq_some_iff.1 ((hG.block _ (Array.getElem?_eq_some_iff.1 hg0).1).trans hg0)).1 (by simp; omega)).trans ((hG.block _ (Array.getElem?_eq_some_iff.1 hg0).1).trans hg0)
    have hbW : Below w.heap.size w (W.setRow g (ruleC x ⟨hA, x.head.args.length, hc⟩ ⟨none, 0, 0⟩).toArray) := (hbw.trans (hG.mono (by omega))).trans (hoS.below (fun b hb => by simp at hb; omega) (by omega))
    have hsz : (W.setRow g (ruleC x ⟨hA, x.head.args.length, hc⟩ ⟨none, 0, 0⟩).toArray).heap.size = W.heap.size := setRow_size
    clear hw C1 hoS hgg hcs h1 hgW hg0 hg1 hG HK hbw e0 e1
    generalize W.setRow g _ = W2 at *
    obtain ⟨b0, b1, b2, b3, b4, b5⟩ := facts6 hr0
    dsimp only [Hd.v] at b0 b1 b2 b3 b4 b5
    obtain ⟨b1z, Hb1⟩ : ∃ b1z, Hid (W2.heap.size = b1z) := ⟨_, rfl⟩
    have HKe := Lib.hid (fun (W : World) (h : Below w.heap.size w W) => (HKw.out.keep h).body)
    simp only [Act.put]
    go_wp2_with fail
    have HO0 := Lib.hid (own_lowR hO2 (base' := w.heap.size) (by omega))
    have hzb : w.heap.size + 2 ≤ b1z := by have := Hb1.out; omega
    have hgb : g < b1z := by have := Hb1.out; omega
    have hgw : w.heap.size + 2 ≤ g := by omega
    have hHO : Hid (∀ bb, (Value.slice hA x.head.args.length hc).ownBlock = some bb → bb < b1z ∧ bb ≠ g) := fun bb hbb => by
      have h9 := (own_blk hO2 hbb).2
      refine ⟨by have := Hb1.out; omega, fun e => ?_⟩
      obtain ⟨cur, hcur⟩ := own_typeR hO2 hbb
      rw [e, hS] at hcur
      injection hcur with hcur
      injection hcur with _ h3 _
      exact absurd h3 (by decide)
    have HzW : Hid (b1z ≤ W2.heap.size) := by show _ ≤ _; rw [Hb1.out]; exact Nat.le_refl _
    clear hO2 hr0 b0 b1 b2 b3 b4 b5 Hb1 hsz hzw hgl hgn hzz
    go_loopw [19] (fun i wr => ∃ (j c' : Nat) (A' : Option Addr) (L : List (GLit × List Value)), j ≤ n ∧ i = .int .i64 j ∧ Hid (L.map (·.1) = x.body.take j) ∧ Hid (Rows (Enc.lit d) b1z 110 wr A' j c' L) ∧ wr.heap[g]? = some (.cells (ruleC x ⟨hA, x.head.args.length, hc⟩ ⟨A', j, c'⟩).toArray 103 (0, 0)) ∧ wr.heap[w.heap.size + 1]? = some (.cells zrC.toArray 103 (0, 0)) ∧
      Hid (wr.ownsRow w.heap.size 105 4 (.slice hA x.head.args.length hc) x.head.args.length (x.head.args.flatMap GTold.cells)) ∧ Below w.heap.size w wr ∧ b1z ≤ wr.heap.size) (fun i _ => n - (intOf i).toNat)
    case atStart => exact ⟨0, 0, none, [], by omega, rfl, rfl, Rows.nil _ _ _, hS, hr1, HO0, hbW, HzW.out⟩
    case round =>
      clear hS hr1 hbW
      obtain ⟨j, c', A', L, hj, rfl, HL, HR, hg, hg1, HOh, hbr, hzr⟩ := hrel
      have i0 : (0 : Int) ≤ (j : Int) := by omega
      by_cases hlt : j < n
      · have i1 : (j : Int) < (n : Int) := by omega
        obtain ⟨bb, o, k, ak, pk, qk, hAA, hbb, hk', hkl, hr⟩ := (HKe.out wr hbr).lit_range hlt
        try simp only at hAA
        subst hAA
        have hkm := Lib.hid (List.mem_of_getElem? hk'.out)
        have HT : Hid (x.body.take (j + 1) = x.body.take j ++ [k]) := by show _ = _; rw [List.take_add_one, hk'.out]; rfl
        have hba : Below wr.heap.size wr (wr.alloc (.cells (litC k ak pk qk).toArray 96)) := belowA (Below.refl _ _) _
        have HC := Lib.hid (fun (W : World) (h : Below (wr.alloc (.cells (litC k ak pk qk).toArray 96)).heap.size (wr.alloc (.cells (litC k ak pk qk).toArray 96)) W) => copyLit_any d k ak pk qk W ((hkl.keep hba).keep h) (HS.out.lits k hkm.out))
        have hn1 : j + 1 ≤ 1500 := by have := HS.out.body; have := Hlen.out; omega
        have hx2 : (wr.alloc (.cells (litC k ak pk qk).toArray 96)).heap[wr.heap.size]? = some (.cells (litC k ak pk qk).toArray 96 (0, 0)) := heapNew rfl
        have hgA := heapOld (o := .cells (litC k ak pk qk).toArray 96) hg
        have hg1A := heapOld (o := .cells (litC k ak pk qk).toArray 96) hg1
        have HRA := Lib.hid (HR.out.out (Out.of_below hba []) (fun _ h _ => by cases h))
        have hbA := below_next hbr hba
        have HOhA := Lib.hid (own_below HOh.out hba)
        have HoG : Hid (g ∉ (Value.slice A' j c').ownBlock.toList) := fun hm => by
          have := (own_blk HR.out.own (b := g) (by simpa using hm)).1
          omega
        have HoX : Hid (wr.heap.size ∉ (Value.slice A' j c').ownBlock.toList) := fun hm => by
          have := (own_blk HR.out.own (b := wr.heap.size) (by simpa using hm)).2
          omega
        have HO : Hid ((wr.alloc (.cells (litC k ak pk qk).toArray 96)).ownsRow b1z 110 17 (.slice A' j c') j (L.flatMap (·.2))) := HRA.out.own
        clear hk' hba hkl HR hg hg1 HOh
        go_wp2_with (first
          | refine wpList_load_mid rfl 96 (.tmp 21) rfl bb (o + j * 17) rfl (litC k ak pk qk) _ hr.out Tryz.underlying96 rfl (lit_size k ak pk qk) ?_
          | refine wpList_new rfl rfl 96 5 (.tmp 22) rfl rfl rfl rfl _ (litC k ak pk qk).toArray lit_info rfl (lit_one k ak pk qk) rfl rfl ?_)
        refine push_region (n := 32) mixed rfl rfl (by kernel_rfl) (by kernel_rfl) (by kernel_rfl) g wr.heap.size 4 b1z 110 17 224 j (.agg zlC.toArray) A' c' (L.flatMap (·.2)) (litC k ak pk qk) (ruleC x ⟨hA, x.head.args.length, hc⟩ ⟨A', j, c'⟩).toArray
          (fun vcs W => (Enc.lit d).ok (sans W (List.range (wr.heap.size + 1))) W.heap.size vcs k) (fun S vcs W => (Enc.lit d).ok (sans W (List.range (wr.heap.size + 1) ++ S)) W.heap.size vcs k) _
          rfl rfl hgA hx2 rfl (fun w => by simp [go_sem]) Tryz.underlying101 (by kernel_rfl) Tryz.underlying96 rfl (lit_size k ak pk qk) (by kernel_rfl) rfl (by decide) (by decide) HO.out HoG.out HoX.out (by simp [maxLen]; omega) (by omega) (by simp; omega) _ Tryz.func64 (by kernel_rfl) (by kernel_rfl) ?_ ?_ ?_ ?_ ?_ ?_
        · intro vcs W W' h hb
          exact (Enc.lit d).mono hb.size ((Out.of_below hb []).kept (fun _ h _ => by cases h) (fun _ h _ => h)) h
        · intro S vcs W W' h hb
          exact (Enc.lit d).mono hb.size ((Out.of_below hb []).kept (fun _ h _ => by cases h) (fun _ h _ => h)) h
        · intro S vcs W W' h hz ho hS
          refine (Enc.lit d).mono ho.size (ho.kept (T := List.range (wr.heap.size + 1)) (fun b hb _ => ?_) (fun b hb hl => ?_)) h
          · have := (own_blk HO.out (b := b) (by simpa using hb)).2
            simp at this
            exact List.mem_range.2 this
          · rcases List.mem_append.1 hb with hb | hb
            · exact hb
            · rcases hS b hb with h1 | h1
              · have := (own_blk HO.out (b := b) (by simpa using h1)).2
                simp at this
                exact List.mem_range.2 this
              · omega
        · intro vcs W W' h hz ho
          refine (Enc.lit d).mono ho.size (ho.kept (T := List.range (wr.heap.size + 1)) (fun b hb _ => ?_) (fun b hb hl => hb)) h
          have := (own_blk HO.out (b := b) (by simpa using hb)).2
          simp at this
          exact List.mem_range.2 this
        · intro W hb
          refine (HC.out W hb).mono ?_
          rintro r w' ⟨a2, p2, q2, rfl, hs, hb2⟩
          refine ⟨litC k a2 p2 q2, rfl, rfl, by simp [Value.oneCell'], ?_, hb2⟩
          refine ⟨a2, p2, q2, rfl, hs.mono' (Nat.le_refl _) ((Out.refl [] w').kept (fun _ h _ => by cases h) (fun b hb' _ => List.mem_range.2 ?_))⟩
          have h1 := List.mem_range.1 hb'
          have h2 := hb.size
          simp at h2
          omega
        · intro u W vcs A2 c2 hl hfar hown hblk ho hgW
          have hsA : (wr.alloc (.cells (litC k ak pk qk).toArray 96)).heap.size = wr.heap.size + 1 := by simp
          have hR2 := HRA.out.push (by rw [hsA]; omega) hown hblk ho (by rw [hsA]; exact hfar)
          have HR2 := Lib.hid (hR2.out (set_out W g 4 (.slice A2 (j + 1) c2)) (fun b hb _ => by simp at hb; omega))
          have HL2 : Hid ((L ++ [(k, vcs)]).map (·.1) = x.body.take (j + 1)) := by show _ = _; rw [HT.out, List.map_append, HL.out]; rfl
          have hG2 : (W.setCell ⟨g, 4, none⟩ (.slice A2 (j + 1) c2)).heap[g]? = some (.cells (ruleC x ⟨hA, x.head.args.length, hc⟩ ⟨A2, j + 1, c2⟩).toArray 103 (0, 0)) := by
            simp [World.setCell, Array.getElem?_modify, hgW]
          have hnot : ∀ bb, bb < b1z → bb ∉ (Value.slice A' j c').ownBlock.toList := fun bb hbb hm => by
            have := (own_blk HO.out (b := bb) (by simpa using hm)).1
            omega
          have hG1 : (W.setCell ⟨g, 4, none⟩ (.slice A2 (j + 1) c2)).heap[w.heap.size + 1]? = some (.cells zrC.toArray 103 (0, 0)) :=
            (World.heap_setCells_other' (by omega)).trans ((ho.block _ (Array.getElem?_eq_some_iff.1 hg1A).1 (hnot _ (by omega))).trans hg1A)
          have HOh2 : Hid ((W.setCell ⟨g, 4, none⟩ (.slice A2 (j + 1) c2)).ownsRow w.heap.size 105 4 (.slice hA x.head.args.length hc) x.head.args.length (x.head.args.flatMap GTold.cells)) :=
            own_out' (own_out' HOhA.out ho (fun b hb => hnot b (hHO.out b hb).1)) (set_out W g 4 _) (fun b hb => by simpa using (hHO.out b hb).2)
          have hzz : wr.heap.size + 1 ≤ W.heap.size := by rw [← hsA]; exact ho.size
          have hB2 : Below w.heap.size w (W.setCell ⟨g, 4, none⟩ (.slice A2 (j + 1) c2)) :=
            (hbA.trans (ho.below (B := w.heap.size) (fun b hb => by
              have := (own_blk HO.out (b := b) (by simpa using hb)).1
              omega) (by rw [hsA]; omega))).setCell (by show w.heap.size ≤ g; omega) _
          have hzs : (W.setCell ⟨g, 4, none⟩ (.slice A2 (j + 1) c2)).heap.size = W.heap.size := World.size_setCell'
          have HZ2 := Lib.hid hzs
          clear hR2 hgW hfar hown hblk ho hsA hgA hg1A hx2 hzs hnot
          simp only [List.foldl_cons, List.foldl_nil, Act.put, List.setIfInBounds_toArray, List.set_cons_zero, List.set_cons_succ]
          generalize W.setCell ⟨g, 4, none⟩ (.slice A2 (j + 1) c2) = W3 at *
          go_wp2_with fail
          go_roundw
          case rel => exact ⟨j + 1, c2, A2, _, by omega, by go_num, HL2, HR2, hG2, hG1, HOh2, hB2, by rw [HZ2.out]; omega⟩
          case measure => simp [intOf]; omega
      · have i1 : ¬ (j : Int) < (n : Int) := by omega
        have hjn : j = n := by omega
        subst hjn
        have hll := Hlen.out
        obtain ⟨c0, c1, c2, c3, c4, c5⟩ := facts6 hg
        have hS := setRow_at (cs' := (ruleC x ⟨hA, x.head.args.length, hc⟩ ⟨A', j, c'⟩).toArray) hg1
        obtain ⟨s0, s1, s2, s3, s4, s5⟩ := facts6 hS
        have hbS : Below w.heap.size w (wr.setRow (w.heap.size + 1) (ruleC x ⟨hA, x.head.args.length, hc⟩ ⟨A', j, c'⟩).toArray) := ⟨hbr.os, hbr.tape, hbr.output, by rw [setRow_size]; exact hbr.size, fun x hx => (setRow_ne (by omega)).trans (hbr.block x hx)⟩
        have hoS : Out [w.heap.size + 1] wr (wr.setRow (w.heap.size + 1) (ruleC x ⟨hA, x.head.args.length, hc⟩ ⟨A', j, c'⟩).toArray) := ⟨rfl, rfl, rfl, by rw [setRow_size]; exact Nat.le_refl _, fun x _ hx => setRow_ne (by simpa using hx)⟩
        have hR3 := HR.out.out hoS (fun b hb _ => by simp at hb; omega)
        have hR2 := hR3.is (base := w.heap.size) (by simpa [reachN] using hn) (by omega)
        rw [HL.out, List.take_of_length_le (by omega)] at hR2
        have hO3 := own_out' HOh.out hoS (fun b hb hb' => by
          simp at hb'
          obtain ⟨cur, hcur⟩ := own_typeR HOh.out hb
          rw [hb', hg1] at hcur
          injection hcur with hcur
          injection hcur with _ h3 _
          exact absurd h3 (by decide))
        have hpost : P (.returned (.agg (ruleC x ⟨hA, x.head.args.length, hc⟩ ⟨A', j, c'⟩).toArray)) (wr.setRow (w.heap.size + 1) (ruleC x ⟨hA, x.head.args.length, hc⟩ ⟨A', j, c'⟩).toArray) := by
          rw [HP.out]
          exact ⟨_, _, rfl, ⟨HKw.out.rel, own_far (n := x.head.args.length) (l := x.head.args) hO3 rfl (Nat.le_trans HS.out.args (by decide)) (told_okA HKw.out.args), HKw.out.agg, HKw.out.col, hR2, HKw.out.pos⟩, hbS⟩
        have HPo := Lib.hid hpost
        clear hR2 hR3 HR HL hll hpost hoS hbS hS HP hO3
        go_wp2_with (refine wpList_store_rowTo rfl 103 (.tmp 2) (.tmp 31) rfl rfl (w.heap.size + 1) (ruleC x ⟨hA, x.head.args.length, hc⟩ ⟨A', j, c'⟩).toArray rfl rfl 103 zrC.toArray hg1 (by kernel_rfl) rfl (by simp [Value.oneCell']) ?_)
        refine bodyPost_ret (v := .agg (ruleC x ⟨hA, x.head.args.length, hc⟩ ⟨A', j, c'⟩).toArray) ?_ rfl HPo.out
        simp [results, Tryz.results36, go_sem, s0, s1, s2, s3, s4, s5]
end Go.Proofs.YtgphngjniplonaaGreatDoor

namespace Go.Proofs.YtgphngjniplonaaGreatDoor
theorem idxD_lo (ds : List GDecl) (r : ByteArray) : -1 ≤ idxI (idxD ds r) ∧ idxI (idxD ds r) < (ds.length : Int) ∨ ds = [] ∧ idxI (idxD ds r) = -1 := by
  cases h : idxD ds r with
  | none =>
    cases ds with
    | nil => exact .inr ⟨rfl, rfl⟩
    | cons d ds => refine .inl ⟨by simp [idxI], by simp only [idxI, List.length_cons]; omega⟩
  | some k => have := idxD_lt h; exact .inl ⟨by simp only [idxI]; omega, by simp only [idxI]; omega⟩
theorem single_empty {k : Int} {s : ByteArray} (h : s.size = 0) : singleB k s = false := by
  have hs : s.toList = [] := str_empty.2 h
  unfold singleB
  rw [hs]
  have : lexS [] = ([], none) := by decide
  rw [this]
  simp
theorem idxD_empty {p : GProg} (h : formedB p = true) {r : ByteArray} (hr : r.size = 0) : idxD p.decls r = none := by
  refine idxD_miss fun y hy e => ?_
  have := (formed_decl h).2 y hy
  unfold declB at this
  rw [e, single_empty hr] at this
  cases this
theorem right_cmp {y : GLit} (h : rightLit y = true) (hk : ¬ (y.k = 1 ∨ y.k = 2)) : y.k = 3 ∧ y.atom.rel.size = 0 ∧ y.atom.args = [] := by
  unfold rightLit at h
  rw [if_neg hk] at h
  simp only [Bool.and_eq_true, decide_eq_true_eq] at h
  have h2 := h.2.1
  unfold cmpB2 at h2
  simp only [Bool.and_eq_true, decide_eq_true_eq] at h2
  exact ⟨h.1, h2.1.1, List.length_eq_zero_iff.1 h2.1.2⟩
end Go.Proofs.YtgphngjniplonaaGreatDoor

namespace Go.Proofs.YtgphngjniplonaaGreatDoor
theorem edgeY_cmp {p : GProg} (hf : formedB p = true) {x : GRule} (hx : x ∈ p.rules) {y : GLit} (hy : y ∈ x.body) (hk : y.k = 3) : edgeY p x y = [] := by
  refine edgeY_none (.inr (idxI_none.2 (idxD_empty hf ?_)))
  exact (right_cmp ((right_body ((formed_rules hf).2 x hx)).2 y hy) (by omega)).2.1
end Go.Proofs.YtgphngjniplonaaGreatDoor

namespace Go.Proofs.YtgphngjniplonaaGreatDoor
open Go.RowKit
theorem tyRefIndex_any (aA : Option Addr) (an ac : Nat) (bv : Value) (l : List GDecl) (r : ByteArray) (w : World) (hl : SliceIs Enc.decl w w.heap.size aA an ac l) :
  Calls Tryz.prog 35 #[.agg #[.slice aA an ac, bv], .string r] w (IdxRet l r w) := by
 obtain ⟨V, hV⟩ : ∃ V, V = w.alloc (.cells #[.slice aA an ac, bv] 40) := ⟨_, rfl⟩
 have HVe := Lib.hid hV.symm
 have hb : Below w.heap.size w V := by rw [hV]; exact belowA (Below.refl _ _) _
 have hr0 : V.heap[w.heap.size]? = some (.cells #[.slice aA an ac, bv] 40 (0, 0)) := by rw [hV]; exact heapNew rfl
 have c0 : V.cell? ⟨w.heap.size, 0, none⟩ = some (.slice aA an ac) := (cell_of_row _ _ 0 _ _ _ hr0).trans rfl
 have hn := hl.bound
 have hlen := Lib.hid hl.1
 have HL := Lib.hid (hl.keep hb)
 have HB := Lib.hid hb
 clear hV hb hr0 hl
 go_enter Tryz.func35, Tryz.ntmps35
 go_wp2_with (rw [HVe.out])
 go_loopw [5] (fun i wr => ∃ k : Nat, k ≤ an ∧ i = .int .i64 k ∧ Hid (∀ y ∈ l.take k, y.rel ≠ r) ∧ wr = V) (fun i _ => an - (intOf i).toNat)
 case atStart => exact ⟨0, by omega, rfl, (fun y hy => by simp at hy), rfl⟩
 case round =>
  obtain ⟨k, hk, rfl, hpre, rfl⟩ := hrel
  by_cases hlt : k < an
  ·obtain ⟨b, o, x, a, rfl, hbb, hx, hat, z0, z1, z2⟩ := HL.out.decl_at hlt
   have i0 : (0 : Int) ≤ (k : Int) := by omega
   have i1 : (k : Int) < (an : Int) := by omega
   by_cases hB : x.rel = r
   ·obtain ⟨e1, e2, e3⟩ := rel_eq hB
    have HE := Lib.hid (idxRet_hit hx.out hB hpre.out HB.out)
    clear hB hat hx
    go_wp2_with fail
    go_ret
    exact HE.out
   ·obtain ⟨e1, e2, e3⟩ := rel_ne hB
    have HT2 := Lib.hid (take_miss hx.out hB hpre.out)
    clear hB hat hx
    go_wp2_with fail
    go_roundw
    case rel => exact ⟨k + 1, by omega, by go_num, HT2, by trivial⟩
    case measure => simp [intOf]; omega
  ·have i1 : ¬ (k : Int) < (an : Int) := by omega
   have HA : Hid (IdxRet l r w (.returned (.int .i64 (-1))) wr) := idxRet_miss (fun y hy => hpre.out y (by rw [List.take_of_length_le (by have := hlen.out; omega)]; exact hy)) HB.out
   go_wp2_with fail
   go_ret
   exact HA.out
end Go.Proofs.YtgphngjniplonaaGreatDoor
