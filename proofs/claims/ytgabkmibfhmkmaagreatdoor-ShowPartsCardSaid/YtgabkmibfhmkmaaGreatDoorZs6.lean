/- My own texts CpExp, TSize, VTexts, ShowLaw, ShowStr, as far as this claim needs them. -/
import Derived.Test.YtgabkmibfhmkmaaGreatDoorZs1
import Derived.Test.YtgabkmibfhmkmaaGreatDoorZs2
import Derived.Test.YtgabkmibfhmkmaaGreatDoorZs3
import Derived.Test.YtgabkmibfhmkmaaGreatDoorZs4
import Derived.Test.YtgabkmibfhmkmaaGreatDoorZs5
import Derived.Lib.Join
set_option linter.unusedVariables false
set_option linter.unusedSimpArgs false
namespace Go.Proofs.YtgabkmibfhmkmaaGreatDoor
open Go.RowKit
/-- an expression whose kids lie in new rows -/
def CopyExp (d : Nat) (e : GExp) (w : World) (r : Ending) (w' : World) : Prop :=
  ∃ (A : Option Addr) (c : Nat), r = .returned (expV e A e.kids.length c) ∧ SliceFar (Enc.exp d) w' (List.range w.heap.size) A e.kids.length c e.kids ∧ Below w.heap.size w w'
abbrev zeC : List Value := [.int .i64 0, .string ⟨#[]⟩, .int .i64 0, .int .i64 0, .string ⟨#[]⟩, .slice none 0 0]
abbrev expC (e : GExp) (A : Option Addr) (n c : Nat) : List Value := [.int .i64 e.op, .string e.t.x, .int .i64 e.t.v.k, .int .i64 e.t.v.n, .string e.t.v.s, .slice A n c]
set_option maxRecDepth 100000 in
set_option maxHeartbeats 4000000 in
theorem copyExp_any : ∀ (d : Nat) (e : GExp) (A : Option Addr) (n c : Nat) (w : World), SliceIs (Enc.exp d) w w.heap.size A n c e.kids → Sm e → fits e.op → e.t.x.size ≤ reachN → e.t.v.ok →
    Calls Tryz.prog 31 #[expV e A n c] w (CopyExp d e w) := by
  intro d
  induction d using Nat.strongRecOn with
  | ind d ih =>
    intro e A n c w hk hsm hop hx hv
    have mixed : Tryz.prog.follows .mixedOrders = true := by kernel_rfl
    have IH := Lib.hid ih
    have hn := hk.bound
    have HK := Lib.hid hk
    have Hlen := Lib.hid hk.1
    have HSm := Lib.hid hsm
    obtain ⟨P, HP⟩ : ∃ P : Ending → World → Prop, Hid (P = CopyExp d e w) := ⟨_, rfl⟩
    rw [← HP.out]
    have hrb : (w.alloc (.cells #[.int .i64 e.op, .string e.t.x, .int .i64 e.t.v.k, .int .i64 e.t.v.n, .string e.t.v.s, .slice A n c] 33)).heap[w.heap.size]? = some (.cells #[.int .i64 e.op, .string e.t.x, .int .i64 e.t.v.k, .int .i64 e.t.v.n, .string e.t.v.s, .slice A n c] 33 (0, 0)) := heapNew rfl
    obtain ⟨b0, b1, b2, b3, b4, b5⟩ := facts6 hrb
    have hr2 : (((w.alloc (.cells (expC e A n c).toArray 33)).alloc (.cells zeC.toArray 49)).alloc (.cells (expC e none 0 0).toArray 49)).heap[w.heap.size + 2]? = some (.cells (expC e none 0 0).toArray 49 (0, 0)) := heapNew (by simp)
    have hr1 : (((w.alloc (.cells (expC e A n c).toArray 33)).alloc (.cells zeC.toArray 49)).alloc (.cells (expC e none 0 0).toArray 49)).heap[w.heap.size + 1]? = some (.cells zeC.toArray 49 (0, 0)) := heapOld (heapNew (by simp))
    have hbw : Below w.heap.size w (((w.alloc (.cells (expC e A n c).toArray 33)).alloc (.cells zeC.toArray 49)).alloc (.cells (expC e none 0 0).toArray 49)) := belowA (belowA (belowA (Below.refl _ _) _) _) _
    have hzw : (((w.alloc (.cells (expC e A n c).toArray 33)).alloc (.cells zeC.toArray 49)).alloc (.cells (expC e none 0 0).toArray 49)).heap.size = w.heap.size + 3 := by simp
    clear ih hk hsm hrb
    go_enter Tryz.func31, Tryz.ntmps31
    go_wp2_with fail
    try simp only [Nat.add_assoc, Nat.reduceAdd]
    generalize hw3 : ((w.alloc _).alloc _).alloc _ = w3
    rw [hw3] at hr2 hr1 hbw hzw
    have HZ := Lib.hid hzw
    clear hzw b0 b1 b2 b3 b4 b5 hw3
    go_loopw [14] (fun i wr => ∃ (j c' : Nat) (A' : Option Addr) (L : List (GExp × List Value)), j ≤ n ∧ i = .int .i64 j ∧ Hid (L.map (·.1) = e.kids.take j) ∧ Hid (Rows (Enc.exp d) (w.heap.size + 3) 49 wr A' j c' L) ∧ wr.heap[w.heap.size + 2]? = some (.cells (expC e A' j c').toArray 49 (0, 0)) ∧ wr.heap[w.heap.size + 1]? = some (.cells zeC.toArray 49 (0, 0)) ∧ Below w.heap.size w wr ∧ w.heap.size + 3 ≤ wr.heap.size) (fun i _ => n - (intOf i).toNat)
    case atStart => exact ⟨0, 0, none, [], by omega, rfl, rfl, Rows.nil _ _ _, hr2, hr1, hbw, by have := HZ.out; omega⟩
    case round =>
      obtain ⟨j, c', A', L, hj, rfl, HL, HR, hg, hg1, hbr, hzr⟩ := hrel
      have i0 : (0 : Int) ≤ (j : Int) := by omega
      by_cases hlt : j < n
      · have i1 : (j : Int) < (n : Int) := by omega
        obtain ⟨b, o, k, Ak, nk, ck, d', rfl, hb, hk', hd, x0, x1, x2, x3, x4, x5, f0, f1, f2, hkk⟩ := (HK.out.below hbr).exp_at hlt
        have hkm := Lib.hid (List.mem_of_getElem? hk'.out)
        have HT : Hid (e.kids.take (j + 1) = e.kids.take j ++ [k]) := by show _ = _; rw [List.take_add_one, hk'.out]; rfl
        have hba : Below wr.heap.size wr (wr.alloc (.cells (expC k Ak nk ck).toArray 33)) := belowA (Below.refl _ _) _
        have HC := Lib.hid (fun (W : World) (h : Below (wr.alloc (.cells (expC k Ak nk ck).toArray 33)).heap.size (wr.alloc (.cells (expC k Ak nk ck).toArray 33)) W) => IH.out d' (by omega) k Ak nk ck W ((hkk.mono' (Nat.le_trans hbr.size hba.size) (Kept.of fun bb hbb => hba.block bb (by have := hbr.size; omega))).mono' h.size (Kept.of h.block)) (HSm.out.kids k hkm.out) f0 f1 f2)
        have hn1 : j + 1 ≤ 1500 := by have := HSm.out.len; have := Hlen.out; omega
        have hdd := Lib.hid hd
        have hx2 : (wr.alloc (.cells (expC k Ak nk ck).toArray 33)).heap[wr.heap.size]? = some (.cells (expC k Ak nk ck).toArray 33 (0, 0)) := heapNew rfl
        have hgA := heapOld (o := .cells (expC k Ak nk ck).toArray 33) hg
        have hg1A := heapOld (o := .cells (expC k Ak nk ck).toArray 33) hg1
        have HRA := Lib.hid (HR.out.out (Out.of_below hba []) (fun _ h _ => by cases h))
        have hbA := below_next hbr hba
        have HzA := Lib.hid hba.size
        have HoG : Hid (w.heap.size + 2 ∉ (Value.slice A' j c').ownBlock.toList) := fun hm => by
          have := (own_blk HR.out.own (b := w.heap.size + 2) (by simpa using hm)).1
          omega
        have HoX : Hid (wr.heap.size ∉ (Value.slice A' j c').ownBlock.toList) := fun hm => by
          have := (own_blk HR.out.own (b := wr.heap.size) (by simpa using hm)).2
          omega
        have HO : Hid ((wr.alloc (.cells (expC k Ak nk ck).toArray 33)).ownsRow (w.heap.size + 3) 49 6 (.slice A' j c') j (L.flatMap (·.2))) := by
          have := HRA.out.own
          rw [Enc.exp_sz] at this
          exact this
        clear hk' hd hba hkk HR hg hg1
        go_wp2_with fail
        try simp only [Nat.add_assoc, Nat.reduceAdd]
        refine push_region (n := 27) mixed rfl rfl (by kernel_rfl) (by kernel_rfl) (by kernel_rfl) (w.heap.size + 2) wr.heap.size 5 (w.heap.size + 3) 49 6 80 j (.agg zeC.toArray) A' c' (L.flatMap (·.2)) (expC k Ak nk ck) (expC e A' j c').toArray
          (fun vcs W => (Enc.exp d).ok (sans W (List.range (wr.heap.size + 1))) W.heap.size vcs k) (fun S vcs W => (Enc.exp d).ok (sans W (List.range (wr.heap.size + 1) ++ S)) W.heap.size vcs k) _
          rfl rfl hgA hx2 rfl (fun w => by simp [go_sem]) Tryz.underlying47 (by kernel_rfl) Tryz.underlying33 rfl (by kernel_rfl) (by kernel_rfl) rfl (by decide) (by decide) HO.out HoG.out HoX.out (by simp [maxLen]; omega) (by omega) (by simp; omega) _ Tryz.func31 (by kernel_rfl) (by kernel_rfl) ?_ ?_ ?_ ?_ ?_ ?_
        · intro vcs W W' h hb
          exact (Enc.exp d).mono hb.size ((Out.of_below hb []).kept (fun _ h _ => by cases h) (fun _ h _ => h)) h
        · intro S vcs W W' h hb
          exact (Enc.exp d).mono hb.size ((Out.of_below hb []).kept (fun _ h _ => by cases h) (fun _ h _ => h)) h
        · intro S vcs W W' h hz ho hS
          refine (Enc.exp d).mono ho.size (ho.kept (T := List.range (wr.heap.size + 1)) (fun b hb _ => ?_) (fun b hb hl => ?_)) h
          · have := (own_blk HO.out (b := b) (by simpa using hb)).2
            simp at this
            exact List.mem_range.2 this
          · rcases List.mem_append.1 hb with hb | hb
            · exact hb
            · rcases hS b hb with h1 | h1
              · have := (own_blk HO.out (b := b) (by simpa using h1)).2
                simp at this
                exact List.mem_range.2 this
              · omega
        · intro vcs W W' h hz ho
          refine (Enc.exp d).mono ho.size (ho.kept (T := List.range (wr.heap.size + 1)) (fun b hb _ => ?_) (fun b hb hl => hb)) h
          have := (own_blk HO.out (b := b) (by simpa using hb)).2
          simp at this
          exact List.mem_range.2 this
        · intro W hb
          refine (HC.out W hb).mono ?_
          rintro r w' ⟨A2, c2, rfl, hs, hb2⟩
          refine ⟨expC k A2 k.kids.length c2, rfl, rfl, by simp [Value.oneCell'], ?_, hb2⟩
          have hd2 := hdd.out
          subst hd2
          refine ⟨A2, k.kids.length, c2, rfl, f0, f1, f2, SliceIs.mono' hs (Nat.le_refl _) ((Out.refl [] w').kept (fun _ h _ => by cases h) (fun b hb' _ => List.mem_range.2 ?_))⟩
          have h1 := List.mem_range.1 hb'
          have h2 := hb.size
          simp at h2
          omega
        · intro u W vcs A2 c2 hl hfar hown hblk ho hgW
          have hsA : (wr.alloc (.cells (expC k Ak nk ck).toArray 33)).heap.size = wr.heap.size + 1 := by simp
          have hR2 := HRA.out.push (by rw [hsA]; omega) (by rw [Enc.exp_sz]; exact hown) hblk ho (by rw [hsA]; exact hfar)
          have HR2 := Lib.hid (hR2.out (set_out W (w.heap.size + 2) 5 (.slice A2 (j + 1) c2)) (fun b hb _ => by simp at hb; omega))
          have HL2 : Hid ((L ++ [(k, vcs)]).map (·.1) = e.kids.take (j + 1)) := by show _ = _; rw [HT.out, List.map_append, HL.out]; rfl
          have hG2 : (W.setCell ⟨w.heap.size + 2, 5, none⟩ (.slice A2 (j + 1) c2)).heap[w.heap.size + 2]? = some (.cells (expC e A2 (j + 1) c2).toArray 49 (0, 0)) := by
            simp [World.setCell, Array.getElem?_modify, hgW]
          have hG1 : (W.setCell ⟨w.heap.size + 2, 5, none⟩ (.slice A2 (j + 1) c2)).heap[w.heap.size + 1]? = some (.cells zeC.toArray 49 (0, 0)) :=
            (World.heap_setCells_other' (by omega)).trans ((ho.block _ (Array.getElem?_eq_some_iff.1 hg1A).1 (fun hm => by
              have := (own_blk HO.out (b := w.heap.size + 1) (by simpa using hm)).1
              omega)).trans hg1A)
          have hzz : wr.heap.size + 1 ≤ W.heap.size := by rw [← hsA]; exact ho.size
          have hB2 : Below w.heap.size w (W.setCell ⟨w.heap.size + 2, 5, none⟩ (.slice A2 (j + 1) c2)) :=
            (hbA.trans (ho.below (B := w.heap.size) (fun b hb => by
              have := (own_blk HO.out (b := b) (by simpa using hb)).1
              omega) (by rw [hsA]; omega))).setCell (by show w.heap.size ≤ w.heap.size + 2; omega) _
          have hzs : (W.setCell ⟨w.heap.size + 2, 5, none⟩ (.slice A2 (j + 1) c2)).heap.size = W.heap.size := World.size_setCell'
          have HZ2 := Lib.hid hzs
          clear hR2 hgW hfar hown hblk ho hsA hgA hg1A hx2 hzs
          simp only [List.foldl_cons, List.foldl_nil, Act.put, List.setIfInBounds_toArray, List.set_cons_zero, List.set_cons_succ]
          generalize W.setCell ⟨w.heap.size + 2, 5, none⟩ (.slice A2 (j + 1) c2) = W2 at *
          go_wp2_with fail
          go_roundw
          case rel => exact ⟨j + 1, c2, A2, _, by omega, by go_num, HL2, HR2, hG2, hG1, hB2, by rw [HZ2.out]; omega⟩
          case measure => simp [intOf]; omega
      · have i1 : ¬ (j : Int) < (n : Int) := by omega
        have hjn : j = n := by omega
        subst hjn
        have hll := Hlen.out
        obtain ⟨c0, c1, c2, c3, c4, c5⟩ := facts6 hg
        have hS := setRow_at (cs' := (expC e A' j c').toArray) hg1
        obtain ⟨s0, s1, s2, s3, s4, s5⟩ := facts6 hS
        have hbS : Below w.heap.size w (wr.setRow (w.heap.size + 1) (expC e A' j c').toArray) := ⟨hbr.os, hbr.tape, hbr.output, by rw [setRow_size]; exact hbr.size, fun x hx => (setRow_ne (by omega)).trans (hbr.block x hx)⟩
        have hoS : Out [w.heap.size + 1] wr (wr.setRow (w.heap.size + 1) (expC e A' j c').toArray) := ⟨rfl, rfl, rfl, by rw [setRow_size]; exact Nat.le_refl _, fun x _ hx => setRow_ne (by simpa using hx)⟩
        have hR3 := HR.out.out hoS (fun b hb _ => by simp at hb; omega)
        have hR2 := hR3.is (base := w.heap.size) (by simpa [reachN] using hn) (by omega)
        rw [HL.out, List.take_of_length_le (by omega)] at hR2
        have hpost : P (.returned (expV e A' j c')) (wr.setRow (w.heap.size + 1) (expC e A' j c').toArray) := by
          rw [HP.out]
          exact ⟨A', c', by rw [hll], by rw [hll]; exact hR2, hbS⟩
        have HPo := Lib.hid hpost
        clear hR2 hR3 HR HL hll hpost hoS hbS hS HP
        go_wp2_with (refine wpList_store_rowTo rfl 49 (.tmp 2) (.tmp 26) rfl rfl (w.heap.size + 1) (expC e A' j c').toArray rfl rfl 49 zeC.toArray hg1 (by kernel_rfl) rfl (by simp [Value.oneCell']) ?_)
        refine bodyPost_ret (v := expV e A' j c') ?_ rfl HPo.out
        simp [results, Tryz.results31, go_sem, s0, s1, s2, s3, s4, s5]
end Go.Proofs.YtgabkmibfhmkmaaGreatDoor

namespace Go.Proofs.YtgabkmibfhmkmaaGreatDoor
open Go.RowKit
def szT : List GTold → Int → Int
  | [], l => l
  | t :: ts, l => if l - (1 + (((t.x.size + t.v.s.size) / 50 : Nat) : Int)) < 0 then -1 else szT ts (l - (1 + (((t.x.size + t.v.s.size) / 50 : Nat) : Int)))
def szA (x : GAtom) (l : Int) : Int := szT x.args (l - (1 + ((x.rel.size / 50 : Nat) : Int)))
def szLit (x : GLit) (l : Int) : Int := szE x.r (szE x.l (szA x.atom l))
def szB : List GLit → Int → Int
  | [], l => l
  | x :: xs, l => if l < 0 then -1 else szB xs (szLit x l)
def szR (x : GRule) (l : Int) : Int := szB x.body (szA x.head l)
theorem szT_le : ∀ (ts : List GTold) (l : Int), szT ts l ≤ max l (-1)
  | [], l => by rw [szT]; omega
  | t :: ts, l => by
    rw [szT]
    split
    · omega
    · have := szT_le ts (l - (1 + (((t.x.size + t.v.s.size) / 50 : Nat) : Int)))
      omega
theorem szA_le (x : GAtom) (l : Int) : szA x l ≤ max l (-1) := by
  have := szT_le x.args (l - (1 + ((x.rel.size / 50 : Nat) : Int)))
  unfold szA; omega
theorem szE_le2 (e : GExp) (l : Int) : szE e l ≤ max l (-1) := by
  rw [szE_def]
  have := szL_le e.kids (l - (1 + (((e.t.x.size + e.t.v.s.size) / 50 : Nat) : Int)))
  omega
theorem szLit_le (x : GLit) (l : Int) : szLit x l ≤ max l (-1) := by
  have h1 := szA_le x.atom l
  have h2 := szE_le2 x.l (szA x.atom l)
  have h3 := szE_le2 x.r (szE x.l (szA x.atom l))
  unfold szLit; omega
theorem szT_ge : ∀ (ts : List GTold) (l : Int), min l (-1) ≤ szT ts l
  | [], l => by rw [szT]; omega
  | t :: ts, l => by
    rw [szT]
    split
    · omega
    · have := szT_ge ts (l - (1 + (((t.x.size + t.v.s.size) / 50 : Nat) : Int)))
      omega
theorem szA_ge (x : GAtom) (l : Int) (h : x.rel.size ≤ reachN) : min (l - 2814749767106) (-1) ≤ szA x l := by
  have := szT_ge x.args (l - (1 + ((x.rel.size / 50 : Nat) : Int)))
  have h2 : x.rel.size ≤ 140737488351232 := h
  unfold szA; omega
theorem szL_ge : ∀ (ks : List GExp) (l : Int), (∀ k ∈ ks, ∀ l : Int, 0 ≤ l → -5629499534051 ≤ szE k l) → min l (-5629499534051) ≤ szL ks l
  | [], l, _ => by rw [szL]; omega
  | k :: ks, l, h => by
    rw [szL]
    split
    · omega
    · have h1 := h k (by simp) l (by omega)
      have h2 := szL_ge ks (szE k l) (fun q hq => h q (by simp [hq]))
      omega
theorem szE_ge : ∀ (d : Nat) (e : GExp) (A : Option Addr) (n c : Nat) (w : World) (B : Nat), SliceIs (Enc.exp d) w B A n c e.kids → e.t.x.size ≤ reachN → e.t.v.s.size ≤ reachN → ∀ l : Int, min (l - 5629499534051) (-5629499534051) ≤ szE e l := by
  intro d
  induction d using Nat.strongRecOn with
  | ind d ih =>
    intro e A n c w B hk hx hv l
    have hx' : e.t.x.size ≤ 140737488351232 := hx
    have hv' : e.t.v.s.size ≤ 140737488351232 := hv
    rw [szE_def]
    have := szL_ge e.kids (l - (1 + (((e.t.x.size + e.t.v.s.size) / 50 : Nat) : Int))) (fun k hk' l hl => by
      obtain ⟨i, hi⟩ := List.mem_iff_getElem?.1 hk'
      have hil : i < n := by rw [← hk.1]; exact (List.getElem?_eq_some_iff.1 hi).1
      obtain ⟨b, o, k', A', n', c', d', -, -, hk2, hd, -, -, -, -, -, -, -, f1, f2, hkk⟩ := hk.exp_at hil
      have e1 : k' = k := by have := hk2.out; rw [hi] at this; injection this with this; exact this.symm
      subst e1
      have := ih d' (by omega) k' A' n' c' w B hkk f1 f2.2.2 l
      omega)
    omega
theorem szT_len : ∀ (ts : List GTold) (l : Int), 0 ≤ szT ts l → (ts.length : Int) ≤ l - szT ts l ∧ 0 ≤ l
  | [], l, h => by rw [szT] at h ⊢; simp; exact h
  | t :: ts, l, h => by
    rw [szT] at h ⊢
    split at h
    · omega
    · rename_i hl
      rw [if_neg hl]
      have := szT_len ts _ h
      simp only [List.length_cons]
      omega
theorem szA_len {x : GAtom} {l : Int} (h : 0 ≤ szA x l) : (x.args.length : Int) + 1 ≤ l - szA x l ∧ 1 ≤ l := by
  unfold szA at h ⊢
  have := szT_len _ _ h
  omega
theorem szLit_len {x : GLit} {l : Int} (h : 0 ≤ szLit x l) : (x.atom.args.length : Int) + (leavesE x.l).length + (leavesE x.r).length + 1 ≤ l - szLit x l ∧ 1 ≤ l ∧ (∃ l', 0 ≤ szE x.l l' ∧ l' ≤ l) ∧ ∃ l', 0 ≤ szE x.r l' ∧ l' ≤ l := by
  unfold szLit at h ⊢
  have h1 := szE_pos _ _ h
  have h2 := szE_pos _ _ (by omega : 0 ≤ szE x.l (szA x.atom l))
  have h3 := szA_len (x := x.atom) (l := l) (by omega)
  have h4 := leavesE_len x.l _ (by omega : 0 ≤ szE x.l (szA x.atom l))
  have h5 := leavesE_len x.r _ h
  exact ⟨by omega, h3.2, ⟨szA x.atom l, by omega, by omega⟩, ⟨szE x.l (szA x.atom l), h, by omega⟩⟩
/-- a literal of at most 1500 things -/
structure SmLit (x : GLit) : Prop where
  args : x.atom.args.length ≤ 1500
  l : Sm x.l
  r : Sm x.r
  all : x.atom.args.length + ((leavesE x.l).length + (leavesE x.r).length) ≤ 1500
theorem szB_all : ∀ (xs : List GLit) (l : Int), 0 ≤ szB xs l → l ≤ 1500 → (xs.length : Int) + ((xs.flatMap (fun x => x.atom.args ++ (leavesE x.l ++ leavesE x.r))).length : Int) ≤ l - szB xs l ∧ 0 ≤ l ∧ ∀ x ∈ xs, SmLit x
  | [], l, h, hl => by rw [szB] at h ⊢; exact ⟨by simp, h, fun _ h => by cases h⟩
  | x :: xs, l, h, hl => by
    rw [szB] at h ⊢
    split at h
    · omega
    · rename_i hn
      rw [if_neg hn]
      have h1 := szLit_le x l
      obtain ⟨h2, h3, h4⟩ := szB_all xs _ h (by omega)
      obtain ⟨h5, h6, ⟨l1, h7, h8⟩, ⟨l2, h9, h10⟩⟩ := szLit_len h3
      refine ⟨?_, by omega, fun y hy => ?_⟩
      · simp only [List.length_cons, List.flatMap_cons, List.length_append]
        omega
      · rcases List.mem_cons.1 hy with rfl | hy
        · exact ⟨by omega, Sm.of h7 (by omega), Sm.of h9 (by omega), by omega⟩
        · exact h4 y hy
/-- a rule of at most 1500 things -/
structure SmRule (x : GRule) : Prop where
  args : x.head.args.length ≤ 1500
  body : x.body.length ≤ 1500
  lits : ∀ y ∈ x.body, SmLit y
  all : x.head.args.length + (x.body.flatMap (fun x => x.atom.args ++ (leavesE x.l ++ leavesE x.r))).length ≤ 1500
theorem szR_all {x : GRule} {l : Int} (h : 0 ≤ szR x l) (hl : l ≤ 1500) : SmRule x ∧ 1 ≤ l ∧ szR x l + 1 ≤ l := by
  unfold szR at h ⊢
  have h0 := szA_le x.head l
  obtain ⟨h1, h2, h3⟩ := szB_all _ _ h (by omega)
  have h4 := szA_len h2
  exact ⟨⟨by omega, by omega, h3, by omega⟩, h4.2, by omega⟩
abbrev atomC (x : GAtom) (a : Hd) : List Value := [.string x.rel, a.v]
set_option maxRecDepth 100000 in
set_option maxHeartbeats 2000000 in
theorem szAtom_any (x : GAtom) (a : Hd) (left : Int) (w : World) (hk : SliceIs Enc.told w w.heap.size a.A a.n a.c x.args) (hx : x.rel.size ≤ reachN) (h0 : -100000000000000 ≤ left) (h1 : left ≤ 100000) :
    Calls Tryz.prog 93 #[.agg (atomC x a).toArray, .int .i64 left] w (RetInt (szA x left) w) := by
  have hn := hk.bound
  have HK := Lib.hid hk
  have Hlen := Lib.hid hk.1
  obtain ⟨R, HR⟩ : ∃ R, Hid (R = szA x left) := ⟨_, rfl⟩
  rw [← HR.out]
  have hx' : x.rel.size ≤ 140737488351232 := hx
  obtain ⟨c0, hc0, hc1⟩ : ∃ c0 : Nat, (x.rel.size : Int).tdiv 50 = (c0 : Int) ∧ c0 = x.rel.size / 50 := ⟨x.rel.size / 50, by rw [Int.tdiv_eq_ediv_of_nonneg (by omega)]; omega, rfl⟩
  have HR2 : Hid (R = szT (x.args.drop 0) (left - (1 + (c0 : Int)))) := by show _ = _; rw [HR.out, hc1]; rfl
  have hc2 : c0 ≤ 2814749767025 := by omega
  have hrb : (w.alloc (.cells (atomC x a).toArray 25)).heap[w.heap.size]? = some (.cells (atomC x a).toArray 25 (0, 0)) := heapNew rfl
  obtain ⟨b0, b1⟩ := facts2 hrb
  have hb0 : Below w.heap.size w (w.alloc (.cells (atomC x a).toArray 25)) := belowA (Below.refl _ _) _
  obtain ⟨A, n, c⟩ := a
  simp only [Hd.v] at *
  clear hk hrb hc1 HR
  go_enter Tryz.func93, Tryz.ntmps93
  go_wp2_with fail
  go_loopw [1, 6, 17] (fun lv _ i wr => ∃ (j : Nat) (l : Int), j ≤ n ∧ i = .int .i64 j ∧ lv = .int .i64 l ∧ -1000000000000000 ≤ l ∧ l ≤ 100000 ∧ Hid (R = szT (x.args.drop j) l) ∧ (0 < j → 0 ≤ l) ∧ Below w.heap.size w wr) (fun _ _ i _ => n - (intOf i).toNat)
  case atStart => exact ⟨0, left - (1 + (c0 : Int)), by omega, rfl, by go_num, by omega, by omega, HR2, by omega, hb0⟩
  case round =>
    obtain ⟨j, l, hj, rfl, rfl, hl0, hl, HRj, hjl, hbr⟩ := hrel
    have i0 : (0 : Int) ≤ (j : Int) := by omega
    by_cases hlt : j < n
    · have i1 : (j : Int) < (n : Int) := by omega
      obtain ⟨b, o, t, rfl, hb, ht, x0, x1, x2, x3, f1, f2⟩ := (HK.out.below hbr).told_at hlt
      have hs1 : t.x.size ≤ 140737488351232 := f1
      have hs2 : t.v.s.size ≤ 140737488351232 := f2.2.2
      obtain ⟨c1, hc1, hc2'⟩ : ∃ c1 : Nat, ((t.x.size : Int) + (t.v.s.size : Int)).tdiv 50 = (c1 : Int) ∧ c1 = (t.x.size + t.v.s.size) / 50 := ⟨(t.x.size + t.v.s.size) / 50, by rw [Int.tdiv_eq_ediv_of_nonneg (by omega)]; omega, rfl⟩
      have HRk : Hid (R = if l - (1 + (c1 : Int)) < 0 then -1 else szT (x.args.drop (j + 1)) (l - (1 + (c1 : Int)))) := by
        show _ = _
        rw [HRj.out]
        obtain ⟨g1, g2⟩ := List.getElem?_eq_some_iff.1 ht.out
        rw [List.drop_eq_getElem_cons g1, g2, szT, hc2']
      have hc3 : c1 ≤ 5629499534050 := by omega
      have hba : Below w.heap.size w (wr.alloc (.cells (GTold.cells t).toArray 30)) := belowA hbr _
      clear HRj ht hc2'
      by_cases hneg : l - (1 + (c1 : Int)) < 0
      · have HR1 : Hid (R = -1) := by show _ = _; rw [HRk.out, if_pos hneg]
        clear HRk
        go_wp2_with fail
        go_ret
        exact ⟨by rw [HR1.out]; rfl, hba⟩
      · have HR1 : Hid (R = szT (x.args.drop (j + 1)) (l - (1 + (c1 : Int)))) := by show _ = _; rw [HRk.out, if_neg hneg]
        clear HRk
        go_wp2_with fail
        go_roundw
        case rel => exact ⟨j + 1, l - (1 + (c1 : Int)), by omega, by go_num, by go_num, by omega, by omega, HR1, by omega, hba⟩
        case measure => simp [intOf]; omega
    · have i1 : ¬ (j : Int) < (n : Int) := by omega
      have HR1 : Hid (R = l) := by
        show _ = _
        rw [HRj.out, List.drop_eq_nil_of_le (by have := Hlen.out; omega), szT]
      clear HRj
      go_wp2_with fail
      go_ret
      exact ⟨by rw [HR1.out]; rfl, hbr⟩
theorem range_off {w : World} {g o : Nat} {T : TypeId} {cs cs' : List Value} (h : w.heap[g]? = some (.cells cs.toArray T (0, 0))) (hc : (cs.drop o).take cs'.length = cs') : w.rangeAt g o cs' := fun j v hj => by
  rw [cell_of_row _ _ _ _ _ _ h]
  rw [← hc, List.getElem?_take] at hj
  split at hj
  · rw [List.getElem?_drop] at hj; simpa using hj
  · cases hj
theorem exp_size (e : GExp) (A : Option Addr) (n c : Nat) : (Tryz.prog.info? 33).map (·.size) = some (expC e A n c).length := by
  show _ = some 6
  kernel_rfl
theorem atom_size (x : GAtom) (a : Hd) : (Tryz.prog.info? 25).map (·.size) = some (atomC x a).length := by
  show _ = some 2
  kernel_rfl
def szF (x : GLit) (a p q : Hd) (l : Int) (g : Nat) (i : Nat) (v : Value) (_W : World) : Prop := match i with
  | 0 => v = .pointer (some ⟨g, 10, none⟩)
  | 1 => v = .agg (expC x.r q.A q.n q.c).toArray
  | 2 => v = .pointer (some ⟨g, 4, none⟩)
  | 3 => v = .agg (expC x.l p.A p.n p.c).toArray
  | 4 => v = .pointer (some ⟨g, 1, none⟩)
  | 5 => v = .agg (atomC x.atom a).toArray
  | 6 => v = .int .i64 l
  | 7 => v = .int .i64 (szA x.atom l)
  | 8 => v = .int .i64 (szE x.l (szA x.atom l))
  | 9 => v = .int .i64 (szLit x l)
  | _ => True
/-- 'x = x' as an operation -/
theorem op_assign {P : Program} {o : Oper} {a : Act} {w : World} {K : Act → World → Prop} {Q : Exit → Act → World → Prop} (x : Operand) (ho : o.op = .assign x ∨ o.op = .move x) (v : Value) (hx : a.eval x = v) (hk : K (a.put o.dst v) w) : o.wp P a w K Q := by
  refine op_val v ?_ hk
  unfold execOp
  rcases ho with ho | ho <;> simp [ho, hx]
set_option maxRecDepth 100000 in
set_option maxHeartbeats 4000000 in
theorem szRule_any (d : Nat) (x : GRule) (a b : Hd) (left : Int) (w : World) (hk : RuleAt d w w.heap.size x a b) (h0 : -100000000000 ≤ left) (h1 : left ≤ 100000) :
    Calls Tryz.prog 16 #[.agg (ruleC x a b).toArray, .int .i64 left] w (RetInt (szR x left) w) := by
  have mixed : Tryz.prog.follows .mixedOrders = true := by kernel_rfl
  have hn := hk.body.bound
  have HK := Lib.hid hk
  have Hlen := Lib.hid hk.body.1
  obtain ⟨R, HR⟩ : ∃ R, Hid (R = szR x left) := ⟨_, rfl⟩
  rw [← HR.out]
  have hrb : (w.alloc (.cells (ruleC x a b).toArray 41)).heap[w.heap.size]? = some (.cells (ruleC x a b).toArray 41 (0, 0)) := heapNew rfl
  obtain ⟨b0, b1, b2, b3, b4, b5⟩ := facts6 hrb
  have hb0 : Below w.heap.size w (w.alloc (.cells (ruleC x a b).toArray 41)) := belowA (Below.refl _ _) _
  have HA := Lib.hid (szAtom_any x.head a left _ (hk.args.mono' hb0.size (Kept.of hb0.block)) hk.rel (by omega) h1)
  have hR0 : Hid (R = szB (x.body.drop 0) (szA x.head left)) := by show _ = _; rw [HR.out]; rfl
  have hle := szA_le x.head left
  have hge : -1000000000000000 ≤ szA x.head left := by
    have h2 : x.head.rel.size ≤ 140737488351232 := hk.rel
    unfold szA
    cases hh : x.head.args with
    | nil => rw [szT]; omega
    | cons t ts => have := (show ∀ (ts : List GTold) (l : Int), -1000000000000000 ≤ l → -1000000000000000 ≤ szT ts l from fun ts => by
        induction ts with
        | nil => intro l h; rw [szT]; exact h
        | cons t ts ih => intro l h; rw [szT]; split; omega; exact ih _ (by omega)) (t :: ts) (left - (1 + ((x.head.rel.size / 50 : Nat) : Int))) (by omega)
                   exact this
  generalize szA x.head left = l0 at *
  clear hk hrb HR
  go_enter Tryz.func16, Tryz.ntmps16
  go_wp2_with fail
  refine HA.out.mono ?_
  rintro r w1 ⟨rfl, hb1⟩
  have hrb1 := (hb1.block w.heap.size (by simp)).trans (heapNew (w := w) (o := .cells (ruleC x a b).toArray 41) rfl)
  obtain ⟨c0, c1, c2, c3, c4, c5⟩ := facts6 hrb1
  have hbw1 := below_next hb0 hb1
  clear hrb1 HA hb1 hb0 b0 b1 b2 b3 b4 b5
  go_wp2_with fail
  obtain ⟨A, n, c⟩ := b
  simp only [Hd.v] at *
  go_loopw [1, 6, 14] (fun lv _ i wr => ∃ (j : Nat) (l : Int), j ≤ n ∧ i = .int .i64 j ∧ lv = .int .i64 l ∧ -1000000000000000 ≤ l ∧ l ≤ 100000 ∧ Hid (R = szB (x.body.drop j) l) ∧ Below w.heap.size w wr) (fun _ _ i _ => n - (intOf i).toNat)
  case atStart => exact ⟨0, l0, by omega, rfl, rfl, hge, by omega, hR0, hbw1⟩
  case round =>
    obtain ⟨j, l, hj, rfl, rfl, hl0, hl, HRj, hbr⟩ := hrel
    have i0 : (0 : Int) ≤ (j : Int) := by omega
    by_cases hlt : j < n
    · have i1 : (j : Int) < (n : Int) := by omega
      obtain ⟨b, o, y, a', p, q, hA, hb, hy, hl1, hr⟩ := (HK.out.keep hbr).body.lit_range hlt
      simp only at hA
      subst hA
      have HRk : Hid (R = if l < 0 then -1 else szB (x.body.drop (j + 1)) (szLit y l)) := by
        show _ = _
        rw [HRj.out]
        obtain ⟨g1, g2⟩ := List.getElem?_eq_some_iff.1 hy.out
        rw [List.drop_eq_getElem_cons g1, g2, szB]
      have hba : Below wr.heap.size wr (wr.alloc (.cells (litC y a' p q).toArray 35)) := belowA (Below.refl _ _) _
      have hgx : (wr.alloc (.cells (litC y a' p q).toArray 35)).heap[wr.heap.size]? = some (.cells (litC y a' p q).toArray 35 (0, 0)) := heapNew rfl
      have HGx := Lib.hid hgx
      have HBa := Lib.hid hba
      have HL1 := Lib.hid (hl1.keep hba)
      clear HRj hy hba hgx hl1
      by_cases hneg : l < 0
      · have HR1 : Hid (R = -1) := by show _ = _; rw [HRk.out, if_pos hneg]
        clear HRk
        go_wp2_with (first
          | refine wpList_load_mid rfl 35 (.tmp 16) rfl b (o + j * 17) rfl (litC y a' p q) _ hr.out Tryz.underlying35 rfl (lit_size y a' p q) ?_
          | refine wpList_new rfl rfl 35 6 (.tmp 17) rfl rfl rfl rfl _ (litC y a' p q).toArray lit_info rfl (lit_one y a' p q) rfl rfl ?_)
        go_ret
        exact ⟨by rw [HR1.out]; rfl, below_next hbr HBa.out⟩
      · have HR1 : Hid (R = szB (x.body.drop (j + 1)) (szLit y l)) := by show _ = _; rw [HRk.out, if_neg hneg]
        clear HRk
        go_wp2_with (first
          | refine wpList_load_mid rfl 35 (.tmp 16) rfl b (o + j * 17) rfl (litC y a' p q) _ hr.out Tryz.underlying35 rfl (lit_size y a' p q) ?_
          | refine wpList_new rfl rfl 35 6 (.tmp 17) rfl rfl rfl rfl _ (litC y a' p q).toArray lit_info rfl (lit_one y a' p q) rfl rfl ?_)
        have hA0 := szA_ge y.atom l HL1.out.rel
        have hA1 := szA_le y.atom l
        have hE0 := szE_ge d y.l p.A p.n p.c _ _ HL1.out.lk HL1.out.lx HL1.out.lv.2.2 (szA y.atom l)
        have hE1 := szE_le2 y.l (szA y.atom l)
        have hF0 := szE_ge d y.r q.A q.n q.c _ _ HL1.out.rk HL1.out.rx HL1.out.rv.2.2 (szE y.l (szA y.atom l))
        have hF1 := szE_le2 y.r (szE y.l (szA y.atom l))
        have q1 : y.l.t.x.size ≤ 140737488351232 := HL1.out.lx
        have q2 : y.l.t.v.s.size ≤ 140737488351232 := HL1.out.lv.2.2
        have q3 : y.r.t.x.size ≤ 140737488351232 := HL1.out.rx
        have q4 : y.r.t.v.s.size ≤ 140737488351232 := HL1.out.rv.2.2
        have C1 := Lib.hid (fun (W : World) (h : Below (wr.alloc (.cells (litC y a' p q).toArray 35)).heap.size (wr.alloc (.cells (litC y a' p q).toArray 35)) W) => szAtom_any y.atom a' l W ((HL1.out.keep h).args) HL1.out.rel (by omega) hl)
        have C2 := Lib.hid (fun (W : World) (h : Below (wr.alloc (.cells (litC y a' p q).toArray 35)).heap.size (wr.alloc (.cells (litC y a' p q).toArray 35)) W) => exp_any d y.l p.A p.n p.c (szA y.atom l) W ((HL1.out.keep h).lk) q1 q2 (by omega) (by omega))
        have C3 := Lib.hid (fun (W : World) (h : Below (wr.alloc (.cells (litC y a' p q).toArray 35)).heap.size (wr.alloc (.cells (litC y a' p q).toArray 35)) W) => exp_any d y.r q.A q.n q.c (szE y.l (szA y.atom l)) W ((HL1.out.keep h).rk) q3 q4 (by omega) (by omega))
        have hS0 : -1000000000000000 ≤ szLit y l := by unfold szLit; omega
        have hS1 : szLit y l ≤ 100000 := by unfold szLit; omega
        have hbS : Below w.heap.size w (wr.alloc (.cells (litC y a' p q).toArray 35)) := below_next hbr HBa.out
        clear hA0 hA1 hE0 hE1 hF0 hF1
        generalize hwx : wr.alloc (.cells (litC y a' p q).toArray 35) = wx at *
        refine drawn2 mixed 10 32 [20, 21, 22, 23, 24, 25, 26, 27, 28, 29] (fun _ W => Below wx.heap.size wx W) (szF y a' p q l wr.heap.size) (fun _ W W' => Below W.heap.size W W') rfl (by kernel_rfl) (by kernel_rfl) rfl (fun j _ => below_drewN _ 1 _) (fun i j v W W' _ _ _ h _ => by unfold szF at h ⊢; exact h) (fun _ _ _ _ _ _ _ _ h h' => below_next h h') ?_ ?_
        · intro i o2 a2 W hi ho hd hold hG _ hw
          have hr6 : a2.tmps[6]? = some (.pointer (some ⟨wr.heap.size, 0, none⟩)) := hold 6 (by kernel_rfl)
          have hr1 : a2.tmps[1]? = some (.int .i64 l) := hold 1 (by kernel_rfl)
          have hgW := (hG.block _ (Array.getElem?_eq_some_iff.1 HGx.out).1).trans HGx.out
          clear hold
          match i, hi, ho with
          | 0, _, ho =>
            injection ho with ho; subst ho
            exact op_val _ (by simp [execOp, Act.eval, hr6, go_sem]) ⟨_, rfl, Below.refl _ _, rfl⟩
          | 1, _, ho =>
            injection ho with ho; subst ho
            obtain ⟨v0, h0, e0⟩ := hw 0 20 (by kernel_rfl)
            obtain rfl : v0 = _ := e0
            exact wp_load_mid 33 (.tmp 20) rfl _ _ (eval_tmp h0) (expC y.r q.A q.n q.c) _ (range_off hgW rfl) Tryz.underlying33 rfl (exp_size _ _ _ _) ⟨_, rfl, Below.refl _ _, rfl⟩
          | 2, _, ho =>
            injection ho with ho; subst ho
            exact op_val _ (by simp [execOp, Act.eval, hr6, go_sem]) ⟨_, rfl, Below.refl _ _, rfl⟩
          | 3, _, ho =>
            injection ho with ho; subst ho
            obtain ⟨v0, h0, e0⟩ := hw 2 22 (by kernel_rfl)
            obtain rfl : v0 = _ := e0
            exact wp_load_mid 33 (.tmp 22) rfl _ _ (eval_tmp h0) (expC y.l p.A p.n p.c) _ (range_off hgW rfl) Tryz.underlying33 rfl (exp_size _ _ _ _) ⟨_, rfl, Below.refl _ _, rfl⟩
          | 4, _, ho =>
            injection ho with ho; subst ho
            exact op_val _ (by simp [execOp, Act.eval, hr6, go_sem]) ⟨_, rfl, Below.refl _ _, rfl⟩
          | 5, _, ho =>
            injection ho with ho; subst ho
            obtain ⟨v0, h0, e0⟩ := hw 4 24 (by kernel_rfl)
            obtain rfl : v0 = _ := e0
            exact wp_load_mid 25 (.tmp 24) rfl _ _ (eval_tmp h0) (atomC y.atom a') _ (range_off hgW rfl) Tryz.underlying25 rfl (atom_size _ _) ⟨_, rfl, Below.refl _ _, rfl⟩
          | 6, _, ho =>
            injection ho with ho; subst ho
            exact op_assign (.tmp 1) (.inr rfl) _ (eval_tmp hr1) ⟨_, rfl, Below.refl _ _, rfl⟩
          | 7, _, ho =>
            injection ho with ho; subst ho
            obtain ⟨v0, h0, e0⟩ := hw 5 25 (by kernel_rfl)
            obtain ⟨v1, h1, e1⟩ := hw 6 26 (by kernel_rfl)
            obtain rfl : v0 = _ := e0
            obtain rfl : v1 = _ := e1
            refine op_call 93 _ rfl rfl #[.agg (atomC y.atom a').toArray, .int .i64 l] (by simp [Act.eval, h0, h1]) _ Tryz.func93 (by kernel_rfl) (by kernel_rfl) ((C1.out W hG).mono ?_)
            rintro r w' ⟨rfl, hb⟩
            exact ⟨_, rfl, _, rfl, hb, rfl⟩
          | 8, _, ho =>
            injection ho with ho; subst ho
            obtain ⟨v0, h0, e0⟩ := hw 3 23 (by kernel_rfl)
            obtain ⟨v1, h1, e1⟩ := hw 7 27 (by kernel_rfl)
            obtain rfl : v0 = _ := e0
            obtain rfl : v1 = _ := e1
            refine op_call 94 _ rfl rfl #[expV y.l p.A p.n p.c, .int .i64 (szA y.atom l)] (by simp [Act.eval, h0, h1]) _ Tryz.func94 (by kernel_rfl) (by kernel_rfl) ((C2.out W hG).mono ?_)
            rintro r w' ⟨rfl, hb⟩
            exact ⟨_, rfl, _, rfl, hb, rfl⟩
          | 9, _, ho =>
            injection ho with ho; subst ho
            obtain ⟨v0, h0, e0⟩ := hw 1 21 (by kernel_rfl)
            obtain ⟨v1, h1, e1⟩ := hw 8 28 (by kernel_rfl)
            obtain rfl : v0 = _ := e0
            obtain rfl : v1 = _ := e1
            refine op_call 94 _ rfl rfl #[expV y.r q.A q.n q.c, .int .i64 (szE y.l (szA y.atom l))] (by simp [Act.eval, h0, h1]) _ Tryz.func94 (by kernel_rfl) (by kernel_rfl) ((C3.out W hG).mono ?_)
            rintro r w' ⟨rfl, hb⟩
            exact ⟨_, rfl, _, rfl, hb, rfl⟩
          | n + 10, hi, _ => omega
        · intro o2 u W ho hG hw
          have e0 := hw 9 29 (by decide) (by kernel_rfl)
          have hbn := below_next hbS hG
          injection ho with ho; subst ho
          simp only [List.foldl_cons, List.foldl_nil, Act.put, List.setIfInBounds_toArray, List.set_cons_zero, List.set_cons_succ]
          rw [show u 29 = Value.int .i64 (szLit y l) from e0]
          refine op_assign (.tmp 29) (.inl rfl) _ rfl ?_
          clear hw e0 C1 C2 C3 HK HL1 HGx HBa
          go_wp2_with fail
          go_roundw
          case rel => exact ⟨j + 1, szLit y l, by omega, by go_num, rfl, hS0, hS1, HR1, hbn⟩
          case measure => simp [intOf]; omega
    · have i1 : ¬ (j : Int) < (n : Int) := by omega
      have HR1 : Hid (R = l) := by
        show _ = _
        rw [HRj.out, List.drop_eq_nil_of_le (by have := Hlen.out; omega), szB]
      clear HRj
      go_wp2_with fail
      go_ret
      exact ⟨by rw [HR1.out]; rfl, hbr⟩
end Go.Proofs.YtgabkmibfhmkmaaGreatDoor

namespace Go.Proofs.YtgabkmibfhmkmaaGreatDoor
open Go.RowKit
/-- a value's text -/
def textOf (v : GV) : List UInt8 := if rightB v then (if v.k = 2 then v.s.toList else Lib.itoa v.n) else []
theorem bytes_back0 (s : ByteArray) : (⟨s.toList.toArray⟩ : ByteArray) = s := by
  rw [ByteArray.toList_eq]
set_option maxRecDepth 100000 in
set_option maxHeartbeats 400000 in
theorem text_any (v : GV) (hv : fits v.n) (w : World) (h : TabW w) : Calls Tryz.prog 261 #[v.v] w (RetV (.string ⟨(textOf v).toArray⟩) w) := by
  have HT := Lib.hid h
  have Hv := Lib.hid hv
  have hr := fun w => right_any v w
  cases hR : rightB v with
  | false =>
    rw [hR] at hr
    have hr := Lib.hid hr
    rw [show textOf v = [] by simp [textOf, hR]]
    clear h hv hR
    go_enter Tryz.func261, Tryz.ntmps261
    go_wp2_with (go_at_call 182; refine (hr.out _).mono ?_; rintro e w1 ⟨rfl, hq1⟩)
    go_ret
    exact ⟨rfl, below_next (belowA (Below.refl _ w) _) hq1⟩
  | true =>
    rw [hR] at hr
    have hr := Lib.hid hr
    by_cases hk : v.k = 2
    · have hk' : (v.k == 2) = true := by simp [hk]
      rw [show textOf v = v.s.toList by simp [textOf, hR, hk], bytes_back0]
      clear h hv hR hk
      go_enter Tryz.func261, Tryz.ntmps261
      go_wp2_with (go_at_call 182; refine (hr.out _).mono ?_; rintro e w1 ⟨rfl, hq1⟩; obtain ⟨hc, hf⟩ := bcell hq1; simp only [World.size_alloc] at hc hf)
      go_ret
      exact ⟨rfl, below_next (belowA (Below.refl _ w) _) hq1⟩
    · have hk' : (v.k == 2) = false := by simp [hk]
      have ht : textOf v = Lib.itoa v.n := by simp [textOf, hR, hk]
      rw [ht]
      clear h hv hR hk ht
      go_enter Tryz.func261, Tryz.ntmps261
      go_wp2_with (first
        | (go_at_call 182
           refine (hr.out _).mono ?_
           rintro e w1 ⟨rfl, hq1⟩
           have hbw := below_next (belowA (Below.refl _ w) _) hq1
           obtain ⟨hc, hf⟩ := bcell hq1
           simp only [World.size_alloc] at hc hf)
        | (go_at_call 316
           refine (itoa_any _ Hv.out _ (HT.out.on hbw)).mono ?_
           rintro e w2 ⟨s, hs, -, rfl, hq2⟩))
      go_ret
      exact ⟨by rw [hs.out]; rfl, below_next hbw hq2⟩
set_option maxRecDepth 100000 in
set_option maxHeartbeats 400000 in
theorem refText_any (v : GV) (hv : v.ok) (w : World) : Calls Tryz.prog 194 #[v.v] w (RetV (.string ⟨(textOf v).toArray⟩) w) := by
  have hv' := (fits_iff _).1 hv.2.1
  have hd := Lib.hid (digits_any _ v.n (Nat.lt_succ_self _) hv'.1 hv'.2)
  have hr := fun w => refRight_any v hv w
  clear hv'
  cases hR : rightB v with
  | false =>
    rw [hR] at hr
    have hr := Lib.hid hr
    rw [show textOf v = [] by simp [textOf, hR]]
    clear hv hR
    go_enter Tryz.func194, Tryz.ntmps194
    go_wp2_with (go_at_call 184; refine (hr.out _).mono ?_; rintro e w1 ⟨rfl, hq1⟩)
    go_ret
    exact ⟨rfl, below_next (belowA (Below.refl _ w) _) hq1⟩
  | true =>
    rw [hR] at hr
    have hr := Lib.hid hr
    by_cases hk : v.k = 2
    · have hk' : (v.k == 2) = true := by simp [hk]
      rw [show textOf v = v.s.toList by simp [textOf, hR, hk], bytes_back0]
      clear hv hR hk
      go_enter Tryz.func194, Tryz.ntmps194
      go_wp2_with (go_at_call 184; refine (hr.out _).mono ?_; rintro e w1 ⟨rfl, hq1⟩; obtain ⟨hc, hf⟩ := bcell hq1; simp only [World.size_alloc] at hc hf)
      go_ret
      exact ⟨rfl, below_next (belowA (Below.refl _ w) _) hq1⟩
    · have hk' : (v.k == 2) = false := by simp [hk]
      have ht : textOf v = Lib.itoa v.n := by simp [textOf, hR, hk]
      rw [ht]
      clear hv hR hk ht
      go_enter Tryz.func194, Tryz.ntmps194
      go_wp2_with (first
        | (go_at_call 184
           refine (hr.out _).mono ?_
           rintro e w1 ⟨rfl, hq1⟩
           have hbw := below_next (belowA (Below.refl _ w) _) hq1
           obtain ⟨hc, hf⟩ := bcell hq1
           simp only [World.size_alloc] at hc hf)
        | (go_at_call 263
           refine (hd.out _).mono ?_
           rintro e w2 ⟨s, hs, -, rfl, rfl⟩))
      go_ret
      exact ⟨by rw [hs.out]; rfl, hbw⟩
end Go.Proofs.YtgabkmibfhmkmaaGreatDoor

namespace Go.Proofs.YtgabkmibfhmkmaaGreatDoor
open Go.RowKit
def sep2 : List UInt8 := [44, 32]
def shownT (t : GTold) : List UInt8 := if t.x.size = 0 then textOf t.v else t.x.toList
def opS (o : Int) : List UInt8 := if o = 1 then [43] else if o = 2 then [45] else [42]
def sumB (e : GExp) : Bool := decide (0 < e.op) && decide (e.op < 3)
def inB (b : Bool) (s : List UInt8) : List UInt8 := if b then [40] ++ s ++ [41] else s
def expS : Nat → GExp → List UInt8
  | 0, e => shownT e.t
  | k + 1, e => if e.op = 0 then shownT e.t else match e.kids with
    | [a, b] => inB (decide (e.op = 3) && sumB a) (expS k a) ++ [32] ++ opS e.op ++ [32] ++ inB (sumB b || (decide (e.op = 3) && decide (b.op = 3))) (expS k b)
    | _ => []
theorem expS_leaf {k : Nat} {e : GExp} (h : e.op = 0) : expS k e = shownT e.t := by
  cases k <;> simp [expS, h]
theorem expS_two {k : Nat} {e a b : GExp} (h : ¬ e.op = 0) (hk : e.kids = [a, b]) : expS (k + 1) e = inB (decide (e.op = 3) && sumB a) (expS k a) ++ [32] ++ opS e.op ++ [32] ++ inB (sumB b || (decide (e.op = 3) && decide (b.op = 3))) (expS k b) := by
  simp [expS, h, hk]
def aggS (g : Int) : List UInt8 := if g = 1 then [99, 111, 117, 110, 116] else if g = 2 then [115, 117, 109] else if g = 3 then [109, 105, 110] else [109, 97, 120]
def thing (agg col : Int) (i : Nat) (t : GTold) : List UInt8 := if 0 < agg ∧ (i : Int) = col then aggS agg ++ [40] ++ shownT t ++ [41] else shownT t
def thingsL (agg col : Int) : Nat → List GTold → List (List UInt8)
  | _, [] => []
  | i, t :: ts => thing agg col i t :: thingsL agg col (i + 1) ts
def thingsS (agg col : Int) (l : List GTold) : List UInt8 := [40] ++ Lib.join (thingsL agg col 0 l) sep2 ++ [41]
def atomS (a : GAtom) (agg col : Int) : List UInt8 := a.rel.toList ++ thingsS agg col a.args
def sgnS (o : Int) : List UInt8 := if o = 1 then [61] else if o = 2 then [33, 61] else if o = 3 then [60] else if o = 4 then [60, 61] else if o = 5 then [62] else [62, 61]
def litS (l : GLit) : List UInt8 := if l.k = 3 then expS 20 l.l ++ [32] ++ sgnS l.op ++ [32] ++ expS 20 l.r else if l.k = 2 then [110, 111, 116, 32] ++ atomS l.atom 0 0 else atomS l.atom 0 0
def ruleS (r : GRule) : List UInt8 := atomS r.head r.agg r.col ++ (if r.body = [] then [] else [32, 58, 45, 32] ++ Lib.join (r.body.map litS) sep2) ++ [46]
theorem thingsL_get (agg col : Int) : ∀ (l : List GTold) (s i : Nat) (t : GTold), l[i]? = some t → (thingsL agg col s l)[i]? = some (thing agg col (s + i) t)
  | [], _, _, _, h => by simp at h
  | t :: ts, s, 0, x, h => by simp at h; subst h; simp [thingsL]
  | t :: ts, s, i + 1, x, h => by
    simp at h
    rw [thingsL, List.getElem?_cons_succ, thingsL_get agg col ts (s + 1) i x h]
    congr 2; omega
theorem thingsL_len (agg col : Int) : ∀ (l : List GTold) (s : Nat), (thingsL agg col s l).length = l.length
  | [], _ => rfl
  | t :: ts, s => by rw [thingsL, List.length_cons, thingsL_len agg col ts, List.length_cons]
theorem thingsL_snoc (agg col : Int) : ∀ (l : List GTold) (s : Nat) (t : GTold), thingsL agg col s (l ++ [t]) = thingsL agg col s l ++ [thing agg col (s + l.length) t]
  | [], s, t => by simp [thingsL]
  | x :: l, s, t => by
    rw [List.cons_append, thingsL, thingsL, thingsL_snoc agg col l, List.length_cons, List.cons_append]
    congr 4; omega
theorem thingsL_take (agg col : Int) {l : List GTold} {k : Nat} {t : GTold} (h : l[k]? = some t) : thingsL agg col 0 (l.take (k + 1)) = thingsL agg col 0 (l.take k) ++ [thing agg col k t] := by
  have hk : k < l.length := (List.getElem?_eq_some_iff.1 h).1
  rw [List.take_add_one, h]
  simp only [Option.toList_some]
  rw [thingsL_snoc, List.length_take, Nat.min_eq_left (by omega), Nat.zero_add]
theorem join_two (x y : List UInt8) (r : List (List UInt8)) : Lib.join (x :: y :: r) sep2 = x ++ (sep2 ++ Lib.join (y :: r) sep2) := by
  simp [Lib.join, List.intercalate, List.intersperse]
theorem join_one (x : List UInt8) : Lib.join [x] sep2 = x := by simp [Lib.join, List.intercalate]
theorem join_snoc : ∀ (xs : List (List UInt8)) (x : List UInt8), xs ≠ [] → Lib.join (xs ++ [x]) sep2 = Lib.join xs sep2 ++ sep2 ++ x
  | [], _, h => absurd rfl h
  | [a], x, _ => by rw [List.singleton_append, join_two, join_one, join_one, List.append_assoc]
  | a :: b :: r, x, _ => by
    have ih := join_snoc (b :: r) x (by simp)
    rw [List.cons_append, List.cons_append, join_two, ← List.cons_append, ih, join_two]
    simp
/-- the length of a joined list -/
def sumLen : List (List UInt8) → Nat
  | [] => 0
  | x :: xs => x.length + 2 + sumLen xs
theorem join_le : ∀ xs : List (List UInt8), (Lib.join xs sep2).length ≤ sumLen xs
  | [] => by simp [Lib.join, List.intercalate]
  | [a] => by rw [join_one]; simp only [sumLen]; omega
  | a :: b :: r => by
    have ih := join_le (b :: r)
    rw [join_two, List.length_append, List.length_append]
    have : sep2.length = 2 := rfl
    simp only [sumLen] at ih ⊢
    omega
theorem textOf_len (v : GV) : (textOf v).length ≤ 32 := by
  by_cases h : rightB v = true
  · unfold textOf
    rw [if_pos h]
    unfold rightB at h
    split at h
    · rename_i h1
      simp only [Bool.and_eq_true, decide_eq_true_eq] at h
      rw [if_neg (by omega)]
      have := Lib.itoa_length_le v.n (by omega) (by omega)
      omega
    · split at h
      · simp only [Bool.and_eq_true, decide_eq_true_eq] at h
        rw [if_pos ‹_›]
        have h2 := h.2
        simp only [nameOk, Bool.and_eq_true, decide_eq_true_eq] at h2
        have e : v.s.toList.length = v.s.size := by rw [ByteArray.toList_eq]; rfl
        omega
      · cases h
  · simp [textOf, h]
theorem shown_len (t : GTold) : (shownT t).length ≤ t.x.size + 32 := by
  unfold shownT
  split
  · have := textOf_len t.v; omega
  · rw [ba_len]; omega
theorem inB_len (b : Bool) (s : List UInt8) : (inB b s).length ≤ s.length + 2 := by
  cases b <;> simp [inB]
theorem opS_len (o : Int) : (opS o).length = 1 := by unfold opS; split; rfl; split <;> rfl
theorem sgnS_len (o : Int) : (sgnS o).length ≤ 2 := by
  unfold sgnS
  repeat' split
  all_goals simp
theorem aggS_len (o : Int) : (aggS o).length ≤ 5 := by
  unfold aggS
  repeat' split
  all_goals simp
theorem expS_len : ∀ (k : Nat) (e : GExp) (l : Int), 0 ≤ szE e l → ((expS k e).length : Int) ≤ 100 * (l - szE e l)
  | 0, e, l, h => by
    rw [szE_def] at h ⊢
    have h1 := szL_le e.kids (l - (1 + (((e.t.x.size + e.t.v.s.size) / 50 : Nat) : Int)))
    have h2 := shown_len e.t
    rw [expS]
    omega
  | k + 1, e, l, h => by
    have hl := szL_le e.kids (l - (1 + (((e.t.x.size + e.t.v.s.size) / 50 : Nat) : Int)))
    have hp := shown_len e.t
    by_cases h0 : e.op = 0
    · rw [expS_leaf h0]
      rw [szE_def] at h ⊢
      omega
    · match hk : e.kids with
      | [a, b] =>
        rw [expS_two h0 hk]
        rw [szE_def, hk] at h ⊢
        rw [szL] at h ⊢
        split at h
        · omega
        · rename_i h1
          rw [if_neg h1]
          rw [szL] at h ⊢
          split at h
          · omega
          · rename_i h2
            rw [if_neg h2]
            rw [szL] at h ⊢
            have i1 := expS_len k a _ (Int.not_lt.1 h2)
            have i2 := expS_len k b _ h
            have j1 := inB_len (decide (e.op = 3) && sumB a) (expS k a)
            have j2 := inB_len (sumB b || (decide (e.op = 3) && decide (b.op = 3))) (expS k b)
            have j3 := opS_len e.op
            simp only [List.length_append, List.length_cons, List.length_nil]
            omega
      | [] =>
        have e0 : expS (k + 1) e = [] := by simp [expS, h0, hk]
        rw [e0]
        rw [szE_def] at h ⊢
        simp only [List.length_nil]
        omega
      | [a] =>
        have e0 : expS (k + 1) e = [] := by simp [expS, h0, hk]
        rw [e0]
        rw [szE_def] at h ⊢
        simp only [List.length_nil]
        omega
      | a :: b :: c :: r =>
        have e0 : expS (k + 1) e = [] := by simp [expS, h0, hk]
        rw [e0]
        rw [szE_def] at h ⊢
        simp only [List.length_nil]
        omega
theorem thing_len (agg col : Int) (i : Nat) (t : GTold) : (thing agg col i t).length ≤ t.x.size + 39 := by
  have h := shown_len t
  have h2 := aggS_len agg
  unfold thing
  split
  · simp only [List.length_append, List.length_cons, List.length_nil]; omega
  · omega
theorem thingsL_sum (agg col : Int) : ∀ (ts : List GTold) (s : Nat) (l : Int), 0 ≤ szT ts l → ((sumLen (thingsL agg col s ts)) : Int) ≤ 100 * (l - szT ts l)
  | [], s, l, h => by simp [thingsL, sumLen, szT]
  | t :: ts, s, l, h => by
    rw [szT] at h ⊢
    split at h
    · omega
    · rename_i hn
      rw [if_neg hn]
      have i1 := thingsL_sum agg col ts (s + 1) _ h
      have i2 := thing_len agg col s t
      rw [thingsL, sumLen]
      omega
theorem atomS_len {x : GAtom} {l : Int} (agg col : Int) (h : 0 ≤ szA x l) : ((atomS x agg col).length : Int) ≤ 100 * (l - szA x l) := by
  unfold szA at h ⊢
  have h1 := thingsL_sum agg col x.args 0 _ h
  have h2 := join_le (thingsL agg col 0 x.args)
  unfold atomS thingsS
  simp only [List.length_append, List.length_cons, List.length_nil, ba_len]
  omega
theorem litS_len {x : GLit} {l : Int} (h : 0 ≤ szLit x l) : ((litS x).length : Int) + 2 ≤ 100 * (l - szLit x l) := by
  unfold szLit at h ⊢
  have h1 := szE_pos _ _ h
  have h2 := szE_pos _ _ (by omega : 0 ≤ szE x.l (szA x.atom l))
  have h3 := szA_len (x := x.atom) (l := l) (by omega)
  have h4 := expS_len 20 x.r _ h
  have h5 := expS_len 20 x.l _ (by omega : 0 ≤ szE x.l (szA x.atom l))
  have h6 := atomS_len (x := x.atom) (l := l) 0 0 (by omega)
  have h7 := szE_le x.l (szA x.atom l) (by omega)
  have h8 := szE_le x.r (szE x.l (szA x.atom l)) (by omega)
  have h9 := sgnS_len x.op
  have h10 : szE x.r (szE x.l (szA x.atom l)) ≤ szE x.l (szA x.atom l) - 1 := by
    have := leavesE_len x.r _ h
    rw [szE_def] at h ⊢
    have := szL_le x.r.kids (szE x.l (szA x.atom l) - (1 + (((x.r.t.x.size + x.r.t.v.s.size) / 50 : Nat) : Int)))
    omega
  unfold litS
  split
  · simp only [List.length_append, List.length_cons, List.length_nil]; omega
  · split
    · simp only [List.length_append, List.length_cons, List.length_nil]; omega
    · omega
theorem szB_all' : ∀ (xs : List GLit) (l : Int), 0 ≤ szB xs l → 0 ≤ l
  | [], l, h => by rw [szB] at h; exact h
  | x :: xs, l, h => by
    rw [szB] at h
    split at h
    · omega
    · omega
theorem lits_len : ∀ (xs : List GLit) (l : Int), 0 ≤ szB xs l → ((sumLen (xs.map litS)) : Int) ≤ 100 * (l - szB xs l)
  | [], l, h => by simp [sumLen, szB]
  | x :: xs, l, h => by
    rw [szB] at h ⊢
    split at h
    · omega
    · rename_i hn
      rw [if_neg hn]
      have i1 := lits_len xs _ h
      have i0 : 0 ≤ szLit x l := by
        have := szB_all' xs _ h
        omega
      have i2 := litS_len i0
      rw [List.map_cons, sumLen]
      omega
theorem ruleS_len {x : GRule} {l : Int} (h : 0 ≤ szR x l) : ((ruleS x).length : Int) ≤ 100 * (l - szR x l) + 5 := by
  unfold szR at h ⊢
  have h0 : 0 ≤ szA x.head l := szB_all' _ _ h
  have h1 := lits_len _ _ h
  have h2 := atomS_len (x := x.head) (l := l) x.agg x.col h0
  have h3 := join_le (x.body.map litS)
  unfold ruleS
  split
  · simp only [List.length_append, List.length_cons, List.length_nil]; omega
  · simp only [List.length_append, List.length_cons, List.length_nil]; omega
end Go.Proofs.YtgabkmibfhmkmaaGreatDoor

namespace Go.Proofs.YtgabkmibfhmkmaaGreatDoor
open Go.RowKit
theorem str_info : (Tryz.prog.info? 9).map (fun i => (i.zero, i.size, i.bytes)) = some (some (.string ⟨#[]⟩), 1, 16) := by kernel_rfl
theorem str_push {w W : World} {v : Value} {n : Nat} {xs : List Value} (x : ByteArray) (hn : n ≤ 1000000) (hb : Below w.heap.size w W) (hown : W.ownsRow w.heap.size 9 1 v n xs) :
    ∃ v' w', (∀ ty, (Builtin.append_ #[107, 107] ty #[v, .slice (some ⟨W.heap.size, 0, none⟩) 1 1]).run Tryz.prog (W.alloc (.cells #[.string x] 9)) = .ok v' w') ∧
      w'.ownsRow w.heap.size 9 1 v' (n + 1) (xs ++ [.string x]) ∧ Below w.heap.size w w' := by
  obtain ⟨v', w', h1, h2, h3⟩ := run_push (P := Tryz.prog) W W.heap.size rfl (base := w.heap.size) (t := 107) (ty := 107) Tryz.underlying107 str_info rfl (by decide) hown [.string x] rfl (by simp [Value.oneCell'])
    (by simp [maxLen]; omega) (by omega) hb.size
  exact ⟨v', w', fun _ => h1, h2, hb.trans h3⟩
theorem ba_app (a b : ByteArray) : (a ++ b).toList = a.toList ++ b.toList := by
  simp only [ByteArray.toList_eq, ByteArray.data_append, Array.toList_append]
theorem bytes_list (l : List UInt8) : (bytes l).toList = l := toList_mk _
theorem bytes_size (l : List UInt8) : (bytes l).size = l.length := rfl
theorem bytes_app (a b : List UInt8) : bytes a ++ bytes b = bytes (a ++ b) := by
  unfold bytes
  rw [ByteArray.mk_append_mk]
theorem bytes_of (s : ByteArray) : bytes s.toList = s := bytes_back s
def JoinPost (l : List UInt8) (w : World) (e : Ending) (w' : World) : Prop := e = .returned (.string (bytes l)) ∧ Below w.heap.size w w'
theorem sjoin_any {base : Nat} (A : Option Addr) (n c : Nat) (L : List (List UInt8)) (w : World) (hn : L.length = n) (hlen : (Lib.join L sep2).length ≤ 140737488355328) (hN : n ≤ 1000000) (ho : w.ownsRow base 9 1 (.slice A n c) n (L.map fun l => .string (bytes l))) :
    Calls Tryz.prog 187 #[.slice A n c, .string ⟨#[44, 32]⟩] w (JoinPost (Lib.join L sep2) w) := by
  subst hn
  have hx : (L.map bytes).map (·.data.toList) = L := by
    rw [List.map_map]
    exact (List.map_congr_left (fun l _ => rfl)).trans (List.map_id L)
  rcases ho.2 with ⟨h, h0⟩ | ⟨g, cap, cur, h, hgb, hh, hnc, hcm, hcs, htk⟩
  · have e : L = [] := List.eq_nil_of_length_eq_zero h0
    subst e
    refine (Tryz.strings_Join_none A c _ w).mono ?_
    rintro e w' ⟨rfl, rfl⟩
    exact ⟨rfl, Below.refl _ _⟩
  · simp only [Value.slice.injEq] at h
    obtain ⟨rfl, _, rfl⟩ := h
    have := Tryz.strings_Join g 0 c (L.map bytes) ⟨#[44, 32]⟩ w (by
      intro j x hj
      rw [Nat.zero_add, cell_of_row _ _ j _ _ _ hh, ← Array.getElem?_toList]
      have hjl2 : j < L.length := by have := (List.getElem?_eq_some_iff.1 hj).1; simpa using this
      have h2 := congrArg (fun l => l[j]?) htk
      simp only [List.getElem?_take, if_pos (show j < L.length * 1 by omega)] at h2
      rw [h2, List.getElem?_map]
      rw [List.getElem?_map] at hj
      obtain ⟨v, hv, rfl⟩ := Option.map_eq_some_iff.1 hj
      rw [hv]; rfl) (Array.getElem?_eq_some_iff.1 hh).1 (by simp; omega) (by simpa using hnc) (by rw [hx]; exact hlen)
    rw [hx] at this
    simp only [List.length_map] at this
    exact this
end Go.Proofs.YtgabkmibfhmkmaaGreatDoor
