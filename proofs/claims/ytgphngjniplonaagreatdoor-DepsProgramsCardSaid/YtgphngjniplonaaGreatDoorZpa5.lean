/- My own texts CpExp, as far as this claim needs them. -/
import Derived.Test.YtgphngjniplonaaGreatDoorZpa4
set_option linter.unusedVariables false
set_option linter.unusedSimpArgs false
set_option maxRecDepth 1000000
set_option maxHeartbeats 16000000
namespace Go.Proofs.YtgphngjniplonaaGreatDoor
open Go.RowKit
def CopyExp (d : Nat) (e : GExp) (w : World) (r : Ending) (w' : World) : Prop :=
  ∃ (A : Option Addr) (c : Nat), r = .returned (expV e A e.kids.length c) ∧ SliceFar (Enc.exp d) w' (List.range w.heap.size) A e.kids.length c e.kids ∧ Below w.heap.size w w'
theorem copyExp_any : ∀ (d : Nat) (e : GExp) (A : Option Addr) (n c : Nat) (w : World), SliceIs (Enc.exp d) w w.heap.size A n c e.kids → Sm e → fits e.op → e.t.x.size ≤ reachN → e.t.v.ok →
    Calls Tryz.prog 94 #[expV e A n c] w (CopyExp d e w) := by
  intro d
  induction d using Nat.strongRecOn with
  | ind d ih =>
    intro e A n c w hk hsm hop hx hv
    have mixed : Tryz.prog.follows .mixedOrders = true := by kernel_rfl
    have IH := Lib.hid ih
    have hn := hk.bound
    have HK := Lib.hid hk
    have Hlen := Lib.hid hk.1
    have HSm := Lib.hid hsm
    obtain ⟨P, HP⟩ : ∃ P : Ending → World → Prop, Hid (P = CopyExp d e w) := ⟨_, rfl⟩
    rw [← HP.out]
    have hrb : (w.alloc (.cells #[.int .i64 e.op, .string e.t.x, .int .i64 e.t.v.k, .int .i64 e.t.v.n, .string e.t.v.s, .slice A n c] 94)).heap[w.heap.size]? = some (.cells #[.int .i64 e.op, .string e.t.x, .int .i64 e.t.v.k, .int .i64 e.t.v.n, .string e.t.v.s, .slice A n c] 94 (0, 0)) := heapNew rfl
    obtain ⟨b0, b1, b2, b3, b4, b5⟩ := facts6 hrb
    have hr2 : (((w.alloc (.cells (expC e A n c).toArray 94)).alloc (.cells zeC.toArray 108)).alloc (.cells (expC e none 0 0).toArray 108)).heap[w.heap.size + 2]? = some (.cells (expC e none 0 0).toArray 108 (0, 0)) := heapNew (by simp)
    have hr1 : (((w.alloc (.cells (expC e A n c).toArray 94)).alloc (.cells zeC.toArray 108)).alloc (.cells (expC e none 0 0).toArray 108)).heap[w.heap.size + 1]? = some (.cells zeC.toArray 108 (0, 0)) := heapOld (heapNew (by simp))
    have hbw : Below w.heap.size w (((w.alloc (.cells (expC e A n c).toArray 94)).alloc (.cells zeC.toArray 108)).alloc (.cells (expC e none 0 0).toArray 108)) := belowA (belowA (belowA (Below.refl _ _) _) _) _
    have hzw : (((w.alloc (.cells (expC e A n c).toArray 94)).alloc (.cells zeC.toArray 108)).alloc (.cells (expC e none 0 0).toArray 108)).heap.size = w.heap.size + 3 := by simp
    clear ih hk hsm hrb
    go_enter Tryz.func94, Tryz.ntmps94
    go_wp2_with fail
    try simp only [Nat.add_assoc, Nat.reduceAdd]
    generalize hw3 : ((w.alloc _).alloc _).alloc _ = w3
    rw [hw3] at hr2 hr1 hbw hzw
    have HZ := Lib.hid hzw
    clear hzw b0 b1 b2 b3 b4 b5 hw3
    go_loopw [14] (fun i wr => ∃ (j c' : Nat) (A' : Option Addr) (L : List (GExp × List Value)), j ≤ n ∧ i = .int .i64 j ∧ Hid (L.map (·.1) = e.kids.take j) ∧ Hid (Rows (Enc.exp d) (w.heap.size + 3) 108 wr A' j c' L) ∧ wr.heap[w.heap.size + 2]? = some (.cells (expC e A' j c').toArray 108 (0, 0)) ∧ wr.heap[w.heap.size + 1]? = some (.cells zeC.toArray 108 (0, 0)) ∧ Below w.heap.size w wr ∧ w.heap.size + 3 ≤ wr.heap.size) (fun i _ => n - (intOf i).toNat)
    case atStart => exact ⟨0, 0, none, [], by omega, rfl, rfl, Rows.nil _ _ _, hr2, hr1, hbw, by have := HZ.out; omega⟩
    case round =>
      obtain ⟨j, c', A', L, hj, rfl, HL, HR, hg, hg1, hbr, hzr⟩ := hrel
      have i0 : (0 : Int) ≤ (j : Int) := by omega
      by_cases hlt : j < n
      · have i1 : (j : Int) < (n : Int) := by omega
        obtain ⟨b, o, k, Ak, nk, ck, d', rfl, hb, hk', hd, x0, x1, x2, x3, x4, x5, f0, f1, f2, hkk⟩ := (HK.out.below hbr).exp_at hlt
        have hkm := Lib.hid (List.mem_of_getElem? hk'.out)
        have HT : Hid (e.kids.take (j + 1) = e.kids.take j ++ [k]) := by show _ = _; rw [List.take_add_one, hk'.out]; rfl
        have hba : Below wr.heap.size wr (wr.alloc (.cells (expC k Ak nk ck).toArray 94)) := belowA (Below.refl _ _) _
        have HC := Lib.hid (fun (W : World) (h : Below (wr.alloc (.cells (expC k Ak nk ck).toArray 94)).heap.size (wr.alloc (.cells (expC k Ak nk ck).toArray 94)) W) => IH.out d' (by omega) k Ak nk ck W ((hkk.mono' (Nat.le_trans hbr.size hba.size) (Kept.of fun bb hbb => hba.block bb (by have := hbr.size; omega))).mono' h.size (Kept.of h.block)) (HSm.out.kids k hkm.out) f0 f1 f2)
        have hn1 : j + 1 ≤ 1500 := by have := HSm.out.len; have := Hlen.out; omega
        have hdd := Lib.hid hd
        have hx2 : (wr.alloc (.cells (expC k Ak nk ck).toArray 94)).heap[wr.heap.size]? = some (.cells (expC k Ak nk ck).toArray 94 (0, 0)) := heapNew rfl
        have hgA := heapOld (o := .cells (expC k Ak nk ck).toArray 94) hg
        have hg1A := heapOld (o := .cells (expC k Ak nk ck).toArray 94) hg1
        have HRA := Lib.hid (HR.out.out (Out.of_below hba []) (fun _ h _ => by cases h))
        have hbA := below_next hbr hba
        have HzA := Lib.hid hba.size
        have HoG : Hid (w.heap.size + 2 ∉ (Value.slice A' j c').ownBlock.toList) := fun hm => by
          have := (own_blk HR.out.own (b := w.heap.size + 2) (by simpa using hm)).1
          omega
        have HoX : Hid (wr.heap.size ∉ (Value.slice A' j c').ownBlock.toList) := fun hm => by
          have := (own_blk HR.out.own (b := wr.heap.size) (by simpa using hm)).2
          omega
        have HO : Hid ((wr.alloc (.cells (expC k Ak nk ck).toArray 94)).ownsRow (w.heap.size + 3) 108 6 (.slice A' j c') j (L.flatMap (·.2))) := by
          have := HRA.out.own
          rw [Enc.exp_sz] at this
          exact this
        clear hk' hd hba hkk HR hg hg1
        go_wp2_with fail
        try simp only [Nat.add_assoc, Nat.reduceAdd]
        refine push_region (n := 27) mixed rfl rfl (by kernel_rfl) (by kernel_rfl) (by kernel_rfl) (w.heap.size + 2) wr.heap.size 5 (w.heap.size + 3) 108 6 80 j (.agg zeC.toArray) A' c' (L.flatMap (·.2)) (expC k Ak nk ck) (expC e A' j c').toArray
          (fun vcs W => (Enc.exp d).ok (sans W (List.range (wr.heap.size + 1))) W.heap.size vcs k) (fun S vcs W => (Enc.exp d).ok (sans W (List.range (wr.heap.size + 1) ++ S)) W.heap.size vcs k) _
          rfl rfl hgA hx2 rfl (fun w => by simp [go_sem]) Tryz.underlying106 (by kernel_rfl) Tryz.underlying94 rfl (by kernel_rfl) (by kernel_rfl) rfl (by decide) (by decide) HO.out HoG.out HoX.out (by simp [maxLen]; omega) (by omega) (by simp; omega) _ Tryz.func94 (by kernel_rfl) (by kernel_rfl) ?_ ?_ ?_ ?_ ?_ ?_
        · intro vcs W W' h hb
          exact (Enc.exp d).mono hb.size ((Out.of_below hb []).kept (fun _ h _ => by cases h) (fun _ h _ => h)) h
        · intro S vcs W W' h hb
          exact (Enc.exp d).mono hb.size ((Out.of_below hb []).kept (fun _ h _ => by cases h) (fun _ h _ => h)) h
        · intro S vcs W W' h hz ho hS
          refine (Enc.exp d).mono ho.size (ho.kept (T := List.range (wr.heap.size + 1)) (fun b hb _ => ?_) (fun b hb hl => ?_)) h
          · have := (own_blk HO.out (b := b) (by simpa using hb)).2
            simp at this
            exact List.mem_range.2 this
          · rcases List.mem_append.1 hb with hb | hb
            · exact hb
            · rcases hS b hb with h1 | h1
              · have := (own_blk HO.out (b := b) (by simpa using h1)).2
                simp at this
                exact List.mem_range.2 this
              · omega
        · intro vcs W W' h hz ho
          refine (Enc.exp d).mono ho.size (ho.kept (T := List.range (wr.heap.size + 1)) (fun b hb _ => ?_) (fun b hb hl => hb)) h
          have := (own_blk HO.out (b := b) (by simpa using hb)).2
          simp at this
          exact List.mem_range.2 this
        · intro W hb
          refine (HC.out W hb).mono ?_
          rintro r w' ⟨A2, c2, rfl, hs, hb2⟩
          refine ⟨expC k A2 k.kids.length c2, rfl, rfl, by simp [Value.oneCell'], ?_, hb2⟩
          have hd2 := hdd.out
          subst hd2
          refine ⟨A2, k.kids.length, c2, rfl, f0, f1, f2, SliceIs.mono' hs (Nat.le_refl _) ((Out.refl [] w').kept (fun _ h _ => by cases h) (fun b hb' _ => List.mem_range.2 ?_))⟩
          have h1 := List.mem_range.1 hb'
          have h2 := hb.size
          simp at h2
          omega
        · intro u W vcs A2 c2 hl hfar hown hblk ho hgW
          have hsA : (wr.alloc (.cells (expC k Ak nk ck).toArray 94)).heap.size = wr.heap.size + 1 := by simp
          have hR2 := HRA.out.push (by rw [hsA]; omega) (by rw [Enc.exp_sz]; exact hown) hblk ho (by rw [hsA]; exact hfar)
          have HR2 := Lib.hid (hR2.out (set_out W (w.heap.size + 2) 5 (.slice A2 (j + 1) c2)) (fun b hb _ => by simp at hb; omega))
          have HL2 : Hid ((L ++ [(k, vcs)]).map (·.1) = e.kids.take (j + 1)) := by show _ = _; rw [HT.out, List.map_append, HL.out]; rfl
          have hG2 : (W.setCell ⟨w.heap.size + 2, 5, none⟩ (.slice A2 (j + 1) c2)).heap[w.heap.size + 2]? = some (.cells (expC e A2 (j + 1) c2).toArray 108 (0, 0)) := by
            simp [World.setCell, Array.getElem?_modify, hgW]
          have hG1 : (W.setCell ⟨w.heap.size + 2, 5, none⟩ (.slice A2 (j + 1) c2)).heap[w.heap.size + 1]? = some (.cells zeC.toArray 108 (0, 0)) :=
            (World.heap_setCells_other' (by omega)).trans ((ho.block _ (Array.getElem?_eq_some_iff.1 hg1A).1 (fun hm => by
              have := (own_blk HO.out (b := w.heap.size + 1) (by simpa using hm)).1
              omega)).trans hg1A)
          have hzz : wr.heap.size + 1 ≤ W.heap.size := by rw [← hsA]; exact ho.size
          have hB2 : Below w.heap.size w (W.setCell ⟨w.heap.size + 2, 5, none⟩ (.slice A2 (j + 1) c2)) :=
            (hbA.trans (ho.below (B := w.heap.size) (fun b hb => by
              have := (own_blk HO.out (b := b) (by simpa using hb)).1
              omega) (by rw [hsA]; omega))).setCell (by show w.heap.size ≤ w.heap.size + 2; omega) _
          have hzs : (W.setCell ⟨w.heap.size + 2, 5, none⟩ (.slice A2 (j + 1) c2)).heap.size = W.heap.size := World.size_setCell'
          have HZ2 := Lib.hid hzs
          clear hR2 hgW hfar hown hblk ho hsA hgA hg1A hx2 hzs
          simp only [List.foldl_cons, List.foldl_nil, Act.put, List.setIfInBounds_toArray, List.set_cons_zero, List.set_cons_succ]
          generalize W.setCell ⟨w.heap.size + 2, 5, none⟩ (.slice A2 (j + 1) c2) = W2 at *
          go_wp2_with fail
          go_roundw
          case rel => exact ⟨j + 1, c2, A2, _, by omega, by go_num, HL2, HR2, hG2, hG1, hB2, by rw [HZ2.out]; omega⟩
          case measure => simp [intOf]; omega
      · have i1 : ¬ (j : Int) < (n : Int) := by omega
        have hjn : j = n := by omega
        subst hjn
        have hll := Hlen.out
        obtain ⟨c0, c1, c2, c3, c4, c5⟩ := facts6 hg
        have hS := setRow_at (cs' := (expC e A' j c').toArray) hg1
        obtain ⟨s0, s1, s2, s3, s4, s5⟩ := facts6 hS
        have hbS : Below w.heap.size w (wr.setRow (w.heap.size + 1) (expC e A' j c').toArray) := ⟨hbr.os, hbr.tape, hbr.output, by rw [setRow_size]; exact hbr.size, fun x hx => (setRow_ne (by omega)).trans (hbr.block x hx)⟩
        have hoS : Out [w.heap.size + 1] wr (wr.setRow (w.heap.size + 1) (expC e A' j c').toArray) := ⟨rfl, rfl, rfl, by rw [setRow_size]; exact Nat.le_refl _, fun x _ hx => setRow_ne (by simpa using hx)⟩
        have hR3 := HR.out.out hoS (fun b hb _ => by simp at hb; omega)
        have hR2 := hR3.is (base := w.heap.size) (by simpa [reachN] using hn) (by omega)
        rw [HL.out, List.take_of_length_le (by omega)] at hR2
        have hpost : P (.returned (expV e A' j c')) (wr.setRow (w.heap.size + 1) (expC e A' j c').toArray) := by
          rw [HP.out]
          exact ⟨A', c', by rw [hll], by rw [hll]; exact hR2, hbS⟩
        have HPo := Lib.hid hpost
        clear hR2 hR3 HR HL hll hpost hoS hbS hS HP
        go_wp2_with (refine wpList_store_rowTo rfl 108 (.tmp 2) (.tmp 26) rfl rfl (w.heap.size + 1) (expC e A' j c').toArray rfl rfl 108 zeC.toArray hg1 (by kernel_rfl) rfl (by simp [Value.oneCell']) ?_)
        refine bodyPost_ret (v := expV e A' j c') ?_ rfl HPo.out
        simp [results, Tryz.results94, go_sem, s0, s1, s2, s3, s4, s5]
end Go.Proofs.YtgphngjniplonaaGreatDoor
