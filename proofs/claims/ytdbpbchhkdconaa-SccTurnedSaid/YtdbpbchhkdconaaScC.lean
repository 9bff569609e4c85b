/- slices.AppendSeq and slices.Collect at numbers, over what a node needs. -/
import Derived.Test.YtdbpbchhkdconaaScN
import Derived.Test.YtdbpbchhkdconaaPushR
namespace Go.Proofs.Ytdbpbchhkdconaa
open Go.RowKit Go.Shelf
attribute [local go_sem] Oper.semAt_some

theorem wpListIn_app {F : Fence} {n : Nat} {P : Program} {w w' : World} {ops : Array Oper} {rest : List Oper} {o : Oper} {a : Act} {Q : Exit → Act → World → Prop} {v' : Value} (hg : o.guard = none) (s x : Operand) (t : TypeId)
    (hop : o.op = .call { callee := .builtin .append, args := #[s, x], argTypes := #[t, t] }) (v xv : Value) (hs : a.eval s = v) (hx : a.eval x = xv)
    (hrun : (Builtin.append_ #[t, t] o.type #[v, xv]).run P w = .ok v' w') (h : wpListIn F n P ops Q rest (a.put o.dst v') w') : wpListIn F n P ops Q (o :: rest) a w := by
  refine wpListIn_plain hg fun K hK' => ?_
  unfold Oper.wpIn
  refine ⟨?_, ?_⟩
  · simp [Oper.about, hop, resolve, Target.leads, Sem.run_pure]
  · rw [Oper.semAt_plain F _ _ (by rw [hop]; intro c hc'; cases hc')]
    simp [execOp, hop, resolve, invoke, builtin, hs, hx, hrun, Result.andThen]
    exact hK' _ _ h
def intC (x : Int) : List Value := [.int .i64 x]
theorem int_info : (Try.prog.info? 3).map (fun i => (i.zero, i.size, i.bytes)) = some (some (.int .i64 0), 1, 8) := by kernel_rfl
theorem int_push {W : World} {base : Nat} {A : Option Addr} {c k : Nat} {xs : List Int} (hown : W.ownsRow base 3 1 (.slice A k c) k (xs.flatMap intC)) (q : Int) (hn : k + 1 ≤ 1000000) (hb : base ≤ W.heap.size) :
    ∃ A' c' w', (∀ ty, (Builtin.append_ #[29, 29] ty #[.slice A k c, .slice (some ⟨W.heap.size, 0, none⟩) 1 1]).run Try.prog (W.alloc (.cells #[.int .i64 q] 3)) = .ok (.slice A' (k + 1) c') w') ∧
      w'.ownsRow base 3 1 (.slice A' (k + 1) c') (k + 1) ((xs ++ [q]).flatMap intC) ∧ Out (Value.slice A k c).ownBlock.toList W w' ∧ Below base W w' := by
  have ho : (W.alloc (.cells #[.int .i64 q] 3)).ownsRow base 3 1 (.slice A k c) k (xs.flatMap intC) := own_below hown (belowA (Below.refl _ _) _)
  obtain ⟨v', w', h1, h2, h3, h4⟩ := run_push_at (P := Try.prog) (ty := 29) (W.alloc (.cells #[.int .i64 q] 3)) (base := base) Try.underlying29 int_info rfl (by decide) ho W.heap.size (intC q) rfl (heapNew rfl) (by intro u hu; simp [intC] at hu; subst hu; rfl)
    (by simp [maxLen]; omega) (by omega) (by simp; omega)
  obtain ⟨A', c', rfl⟩ := own_form h2
  refine ⟨A', c', w', fun _ => h1, ?_, ?_, ?_⟩
  · rw [List.flatMap_append]; simpa using h2
  · have h5 := (Out.of_below (belowA (Below.refl W.heap.size W) (.cells #[.int .i64 q] 3)) (Value.slice A k c).ownBlock.toList)
    exact h5.trans (grown_out h3) (fun b hb _ => hb)
  · exact ((Below.refl base W).alloc hb _).trans h4
def CollPost (L : List Int) (w : World) (r : Ending) (w' : World) : Prop :=
  ∃ A c, r = .returned (.slice A L.length c) ∧ w'.ownsRow w.heap.size 3 1 (.slice A L.length c) L.length (L.flatMap intC) ∧ Below w.heap.size w w'

set_option maxRecDepth 100000 in
set_option maxHeartbeats 4000000 in
theorem appendSeq_any {w0 w : World} {n : Int} {A : Option Addr} {m c : Nat} {l : List GEdge} (hl : SliceIs Enc.edge w0 w0.heap.size A m c l) (hb0 : Below w0.heap.size w0 w) {a : Int} {g g2 : Nat} (hg : w.heap[g]? = some (.cells #[.int .i64 n, .slice A m c] 24 (0, 0))) (hg2 : w.heap[g2]? = some (.cells #[.int .i64 a] 3 (0, 0))) (hm : m ≤ 10000) :
    Calls Try.prog 81 #[.slice none 0 0, .func (.func 82) #[] #[.pointer (some ⟨g, 0, none⟩), .pointer (some ⟨g2, 0, none⟩)]] w (CollPost (needsG n l a) w) := by
  have hgl := (Array.getElem?_eq_some_iff.1 hg).1
  have hgl2 := (Array.getElem?_eq_some_iff.1 hg2).1
  have HQ := Lib.hid (needs_seq hl hb0 hg hg2 [w.heap.size] (by simp; omega) (by simp; omega) (fun b hb => by have := hb0.size; simp at hb; omega))
  have hlen : (needsG n l a).length ≤ 10000 := by
    have h1 := needsF_len a l (-1)
    have h2 := hl.1
    unfold needsG
    split
    · omega
    · simp
  obtain ⟨L, hL⟩ : ∃ L, L = needsG n l a := ⟨_, rfl⟩
  rw [← hL] at HQ hlen ⊢
  obtain ⟨P, HP⟩ : ∃ P : Ending → World → Prop, Hid (P = CollPost L w) := ⟨_, rfl⟩
  rw [← HP.out]
  clear hg hg2 hb0 hl hL hgl hgl2
  refine (callsIn_wide (n := 8)).1 ?_
  refine callsIn_of_wp_marks Try.func81 rfl trivial ?_ rfl
  simp only [Try.ntmps81, List.size_toArray, List.length_cons, List.length_nil, Nat.reduceAdd, Nat.reduceSub, Array.replicate_succ, Array.replicate_zero, List.push_toArray, List.append_toArray, List.nil_append, List.cons_append]
  refine wpIn_wide.2 ?_
  go_wp2_with fail
  have hr0 : (w.alloc (.cells #[.slice none 0 0] 29)).heap[w.heap.size]? = some (.cells #[.slice none 0 0] 29 (0, 0)) := heapNew rfl
  have hbw : Below w.heap.size w (w.alloc (.cells #[.slice none 0 0] 29)) := belowA (Below.refl _ _) _
  have hz1 : (w.alloc (.cells #[.slice none 0 0] 29)).heap.size = w.heap.size + 1 := by simp
  generalize w.alloc (.cells #[.slice none 0 0] 29) = w1 at *
  refine (wpIn_wide (n := 8)).1 (range_law2 (hg := rfl) (eg := enters_of Try.func82 (by kernel_rfl) rfl) (hseq := HQ.out) (hb0 := hbw) ?hS (hps := fun _ => rfl)
    (I := fun N pre W => (∃ A c, W.heap[w.heap.size]? = some (.cells #[.slice A pre.length c] 29 (0, 0)) ∧ Hid (W.ownsRow N 3 1 (.slice A pre.length c) pre.length (pre.flatMap intC))) ∧ Below w.heap.size w W ∧ w1.heap.size ≤ N)
    (Ix := fun _ _ _ _ => False)
    ?hI ?hIx ?h0 ?round ?done ?stop)
  case hS => intro b hb; simp at hb; omega
  case hI =>
    rintro N pre W W' ⟨⟨A, c, h5, h6⟩, h7, h8⟩ hs'
    exact ⟨⟨A, c, hs'.row h5, hs'.own h6.out⟩, h7.trans (hs'.below (by omega) h7.size), h8⟩
  case hIx => exact fun _ _ _ _ _ h _ => h
  case h0 =>
    intro N W hs' hN0 _
    exact ⟨⟨none, 0, hs'.row hr0, World.ownsRow_nil _ _ _ _⟩, hbw.trans (hs'.below (by omega) hbw.size), by omega⟩
  case round =>
    rintro k N pre x W0 W1 K ⟨⟨A, c, h5, h6⟩, h7, h8⟩ hs' hN hN2 hW01 hx hK
    have HK := Lib.hid hK
    have H6 := Lib.hid h6.out
    have hps : pre.length + 1 ≤ 10000 := by
      have h9 := List.IsPrefix.length_le hx
      simp only [List.length_append, List.length_cons, List.length_nil] at h9; omega
    clear hK hx h6
    have hb1 : Below w.heap.size w W1 := h7.trans (hs'.below (by omega) h7.size)
    have t3 := hs'.row h5
    have hw00 := (Array.getElem?_eq_some_iff.1 h5).1
    have Hpl : Hid ((pre ++ [x]).length = pre.length + 1) := by show _ = _; simp
    clear h5 HQ hr0
    rw [encI_one]
    gi_wp2
    refine HK.out _ _ (Below.refl _ _) (fun W2 hs2 hz2 => ?_)
    clear HK
    have v3 := hs2.row t3
    have hb2 : Below w.heap.size w W2 := hb1.trans (hs2.below (by omega) hb1.size)
    have c3 : W2.cell? ⟨w.heap.size, 0, none⟩ = some (.slice A pre.length c) := (cell_of_row _ _ 0 _ _ _ v3).trans rfl
    have hzW : W1.heap.size ≤ W2.heap.size := by rw [hz2]; exact Nat.le_refl _
    have H62 := Lib.hid (hs2.own (hs'.own H6.out))
    have HBl : Hid (∀ b, (Value.slice A pre.length c).ownBlock = some b → N ≤ b ∧ b < W0.heap.size) := fun b hb => own_blk H6.out hb
    obtain ⟨A9, c9, w9, q1, q2, q3, q4⟩ := int_push H62.out x (by omega) (by omega)
    have r3 := (q4.block _ (by omega)).trans v3
    have y3 : w9.cell? ⟨w.heap.size, 0, none⟩ = some (.slice A pre.length c) := (cell_of_row _ _ 0 _ _ _ r3).trans rfl
    have f3 : w9.frozen? ⟨w.heap.size, 0, none⟩ = false := frozen_of_row _ _ _ _ _ r3
    have HRun := Lib.hid q1
    have Q2 := Lib.hid q2
    have HR3 := Lib.hid r3
    have hb9 : Below w.heap.size w w9 := hb2.trans (q4.mono (by omega))
    have HT : Hid (Turn2 [w.heap.size] N W0.heap.size W2 (w9.setCell ⟨w.heap.size, 0, none⟩ (.slice A9 (pre.length + 1) c9))) :=
      Turn2.of_out (T := w.heap.size :: (Value.slice A pre.length c).ownBlock.toList) ((q3.mono (fun b hb _ => List.mem_cons_of_mem _ hb)).trans (set_out w9 _ 0 _) (fun b hb _ => by simp at hb; simp [hb])) (by omega) (fun b hb _ => by
        rcases List.mem_cons.1 hb with hb | hb
        · exact ⟨.inl (by simp [hb]), by omega⟩
        · have := HBl.out b (by simpa using hb)
          exact ⟨.inr this.1, this.2⟩)
    clear t3 v3 q1 q2 q3 r3 H62 H6
    have HZ2 := Lib.hid hz2
    clear hz2
    gi_wp2_with (gi_at_builtin; refine wpListIn_app (o := ⟨some 11, _, _, _, _, _⟩) rfl _ _ _ rfl _ _ rfl rfl (HRun.out _) ?_)
    refine ⟨HT.out, ⟨A9, c9, ?_, ?_⟩, hb9.setCell (Nat.le_refl _) _, h8⟩
    · rw [Hpl.out]; exact set_zero HR3.out
    · show World.ownsRow _ _ _ _ _ _ _
      rw [Hpl.out]
      exact own_out' Q2.out (set_out w9 _ 0 _) (fun b hb hb' => by have := (own_blk Q2.out hb).1; simp at hb'; omega)
  case done =>
    rintro N xs W hxs ⟨⟨A, c, h5, h6⟩, h7, h8⟩ hD
    obtain rfl : xs = L := hxs.out
    have c3 : W.cell? ⟨w.heap.size, 0, none⟩ = some (.slice A xs.length c) := (cell_of_row _ _ 0 _ _ _ h5).trans rfl
    have HDl := (Array.getElem?_eq_some_iff.1 hD).1
    have HHD := Lib.hid hD
    have H6 := Lib.hid h6.out
    clear hxs HQ hr0 h5 h6 hD
    go_wp2_with fail
    refine ⟨by simp, .inl ⟨_, _, rfl, run_takeDeferred HHD.out, ?_⟩⟩
    have hsf : Soft w1.heap.size W (W.putObj w1.heap.size (.deferred none)) := Soft.putObj _ (Nat.le_refl _) HHD.out rfl
    have hpost : P (.returned (.slice A xs.length c)) (W.putObj w1.heap.size (.deferred none)) := by
      rw [HP.out]
      refine ⟨A, c, rfl, ?_, h7.trans (hsf.below (by omega) h7.size)⟩
      have ho := hsf.own H6.out
      refine ⟨ho.1, ?_⟩
      rcases ho.2 with hn | ⟨g, cap, cur, hv, hbg, rest⟩
      · exact .inl hn
      · exact .inr ⟨g, cap, cur, hv, by omega, rest⟩
    exact ⟨.slice A xs.length c, by simp [results, Try.results81, go_sem], hpost⟩
  case stop => exact fun _ _ _ _ _ h _ => h.elim

set_option maxRecDepth 100000 in
set_option maxHeartbeats 1000000 in
theorem collect_any {w0 w : World} {n : Int} {A : Option Addr} {m c : Nat} {l : List GEdge} (hl : SliceIs Enc.edge w0 w0.heap.size A m c l) (hb0 : Below w0.heap.size w0 w) {a : Int} {g g2 : Nat} (hg : w.heap[g]? = some (.cells #[.int .i64 n, .slice A m c] 24 (0, 0))) (hg2 : w.heap[g2]? = some (.cells #[.int .i64 a] 3 (0, 0))) (hm : m ≤ 10000) :
    Calls Try.prog 69 #[.func (.func 82) #[] #[.pointer (some ⟨g, 0, none⟩), .pointer (some ⟨g2, 0, none⟩)]] w (CollPost (needsG n l a) w) := by
  have H := Lib.hid (appendSeq_any hl hb0 hg hg2 hm)
  obtain ⟨L, HL⟩ : ∃ L, Hid (L = needsG n l a) := ⟨_, rfl⟩
  rw [← HL.out] at H ⊢
  clear hg hg2 hb0 hl hm
  go_enter Try.func69, Try.ntmps69
  go_wp2_with fail
  refine H.out.mono ?_
  rintro r w1 ⟨A1, c1, rfl, h1, h2⟩
  go_wp2_with fail
  go_ret
  exact ⟨A1, c1, rfl, h1, h2⟩
end Go.Proofs.Ytdbpbchhkdconaa
