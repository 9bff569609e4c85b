/- Merged by my own program of: CpDoc, TRefE, TRefL. -/
import Derived.Test.YtplekbpmfaghbaaGreatDoorMp1
import Derived.Test.YtplekbpmfaghbaaGreatDoorMp6
/- corollarylaw05.Document: a program as the document's. -/
namespace Go.Proofs.YtplekbpmfaghbaaGreatDoor
open Go.RowKit

def CopyProg (d : Nat) (x : GProg) (w : World) (r : Ending) (w' : World) : Prop :=
  ∃ a b : Hd, r = .returned (.agg (progC a b).toArray) ∧ ProgAt d w' w'.heap.size x a b ∧ Below w.heap.size w w'
theorem rows_is {α : Type} {E : Enc α} {w : World} {base e : Nat} {A : Option Addr} {k c : Nat} {L : List (α × List Value)} (h : w.ownsRow base e E.sz (.slice A k c) k (L.flatMap (·.2))) (hl : L.length = k) (hk : k ≤ reachN) (hf : ∀ p ∈ L, E.ok w w.heap.size p.2 p.1) : SliceIs E w w.heap.size A k c (L.map (·.1)) :=
  SliceIs.of_own (E := E) (l := L.map (·.1)) h (by simp [hl]) hk (fun i x hx => by
    rw [List.getElem?_map, Option.map_eq_some_iff] at hx
    obtain ⟨p, hp, rfl⟩ := hx
    rw [flat_piece2 E.sz L i p (fun q hq => E.len (hf q hq)) hp]
    exact hf p (List.mem_of_getElem? hp))
theorem decl_info : (Tryz.prog.info? 156).map (fun i => (i.zero, i.size, i.bytes)) = some (some (.agg #[.string ⟨#[]⟩, .slice none 0 0, .int .i64 0]), 3, 48) := by kernel_rfl
theorem decl_push {W : World} {base : Nat} {A : Option Addr} {c k : Nat} {xs : List Value} (hown : W.ownsRow base 156 3 (.slice A k c) k xs) (q : GDecl) (aA : Option Addr) (an ac : Nat) (hn : k + 1 ≤ 1000000) (hb : base ≤ W.heap.size) :
    ∃ A' c' w', (∀ ty, (Builtin.append_ #[76, 76] ty #[.slice A k c, .slice (some ⟨W.heap.size, 0, none⟩) 1 1]).run Tryz.prog (W.alloc (.cells #[.string q.rel, .slice aA an ac, .int .i64 q.pos] 156)) = .ok (.slice A' (k + 1) c') w') ∧
      w'.ownsRow base 156 3 (.slice A' (k + 1) c') (k + 1) (xs ++ declC q ⟨aA, an, ac⟩) ∧ Below base W w' ∧ KeepsT 156 W w' := by
  have ho : (W.alloc (.cells #[.string q.rel, .slice aA an ac, .int .i64 q.pos] 156)).ownsRow base 156 3 (.slice A k c) k xs := own_below hown (belowA (Below.refl _ _) _)
  obtain ⟨v', w', h1, h2, h3, h4⟩ := run_push_at (P := Tryz.prog) (ty := 76) (W.alloc (.cells #[.string q.rel, .slice aA an ac, .int .i64 q.pos] 156)) (base := base) Tryz.underlying76 decl_info rfl (by decide) ho W.heap.size (declC q ⟨aA, an, ac⟩) rfl (heapNew rfl) (by intro u hu; simp at hu; rcases hu with rfl | rfl | rfl <;> rfl)
    (by simp [maxLen]; omega) (by omega) (by simp; omega)
  obtain ⟨A', c', rfl⟩ := own_form h2
  refine ⟨A', c', w', fun _ => h1, h2, ?_, ?_⟩
  · exact ((Below.refl base W).alloc hb _).trans h4
  · have k1 : KeepsT 156 W (W.alloc (.cells #[.string q.rel, .slice aA an ac, .int .i64 q.pos] 156)) := KeepsT.of_below (belowA (Below.refl _ _) _)
    refine k1.trans ?_
    intro b cs t fr hbb ht
    refine ((grown_out h3).block b (Array.getElem?_eq_some_iff.1 hbb).1 (fun hbo => ?_)).trans hbb
    obtain ⟨cur, hc⟩ := own_type ho (b := b) (by simpa using hbo)
    rw [hc] at hbb
    injection hbb with hbb; injection hbb with _ h5 _; exact ht h5.symm
theorem set_first {W : World} {g e : Nat} {a b v : Value} (h : W.heap[g]? = some (.cells #[a, b] e (0, 0))) : (W.setCell ⟨g, 0, none⟩ v).heap[g]? = some (.cells #[v, b] e (0, 0)) := by
  simp [World.setCell, Array.getElem?_modify, h]
set_option maxRecDepth 100000 in
set_option maxHeartbeats 8000000 in
theorem copyProg_any (d : Nat) (x : GProg) (a b : Hd) (w : World) (hk : ProgAt d w w.heap.size x a b) (hs : SmProg x) :
    Calls Tryz.prog 31 #[.agg (progC a b).toArray] w (CopyProg d x w) := by
  have mixed : Tryz.prog.follows .mixedOrders = true := by kernel_rfl
  have hn := hk.decls.bound
  have hm := hk.rules.bound
  have Hlen := Lib.hid hk.decls.1
  have Hlen2 := Lib.hid hk.rules.1
  have HS := Lib.hid hs
  have HK := Lib.hid hk
  obtain ⟨P, HP⟩ : ∃ P : Ending → World → Prop, Hid (P = CopyProg d x w) := ⟨_, rfl⟩
  rw [← HP.out]
  obtain ⟨A, n, c⟩ := a
  obtain ⟨B, m, e⟩ := b
  have hg0 : (((w.alloc (.cells (progC ⟨A, n, c⟩ ⟨B, m, e⟩).toArray 74)).alloc (.cells #[.slice none 0 0, .slice none 0 0] 79)).alloc (.cells #[.slice none 0 0, .slice none 0 0] 79)).heap[w.heap.size]? = some (.cells (progC ⟨A, n, c⟩ ⟨B, m, e⟩).toArray 74 (0, 0)) := heapOld (heapOld (heapNew rfl))
  have hg1 : (((w.alloc (.cells (progC ⟨A, n, c⟩ ⟨B, m, e⟩).toArray 74)).alloc (.cells #[.slice none 0 0, .slice none 0 0] 79)).alloc (.cells #[.slice none 0 0, .slice none 0 0] 79)).heap[w.heap.size + 1]? = some (.cells #[.slice none 0 0, .slice none 0 0] 79 (0, 0)) := heapOld (heapNew (by simp))
  have hg2 : (((w.alloc (.cells (progC ⟨A, n, c⟩ ⟨B, m, e⟩).toArray 74)).alloc (.cells #[.slice none 0 0, .slice none 0 0] 79)).alloc (.cells #[.slice none 0 0, .slice none 0 0] 79)).heap[w.heap.size + 2]? = some (.cells #[.slice none 0 0, .slice none 0 0] 79 (0, 0)) := heapNew (by simp)
  have hbw : Below w.heap.size w (((w.alloc (.cells (progC ⟨A, n, c⟩ ⟨B, m, e⟩).toArray 74)).alloc (.cells #[.slice none 0 0, .slice none 0 0] 79)).alloc (.cells #[.slice none 0 0, .slice none 0 0] 79)) := belowA (belowA (belowA (Below.refl _ _) _) _) _
  have hzw : (((w.alloc (.cells (progC ⟨A, n, c⟩ ⟨B, m, e⟩).toArray 74)).alloc (.cells #[.slice none 0 0, .slice none 0 0] 79)).alloc (.cells #[.slice none 0 0, .slice none 0 0] 79)).heap.size = w.heap.size + 3 := by simp
  obtain ⟨b0, b1⟩ := facts2 hg0
  dsimp only [Hd.v] at b0 b1
  clear hk hs
  show Calls Tryz.prog 31 #[.agg #[.slice A n c, .slice B m e]] w P
  go_enter Tryz.func31, Tryz.ntmps31
  go_wp2_with fail
  try simp only [Nat.add_assoc, Nat.reduceAdd]
  generalize hw3 : ((w.alloc _).alloc _).alloc _ = w3
  rw [hw3] at hg0 hg1 hg2 hbw hzw
  have HZ : Hid (w.heap.size + 3 ≤ w3.heap.size) := by show _ ≤ _; omega
  clear hzw hw3 b0 b1
  go_loopw [12] (fun i wr => ∃ (j c' : Nat) (A' : Option Addr) (L : List (GDecl × List Value)), j ≤ n ∧ i = .int .i64 j ∧ Hid (L.map (·.1) = x.decls.take j) ∧ Hid (∀ p ∈ L, Enc.decl.ok w w.heap.size p.2 p.1) ∧ Hid (wr.ownsRow (w.heap.size + 3) 156 3 (.slice A' j c') j (L.flatMap (·.2))) ∧ Hid (wr.heap[w.heap.size + 2]? = some (.cells #[.slice A' j c', .slice none 0 0] 79 (0, 0))) ∧ Hid (wr.heap[w.heap.size + 1]? = some (.cells #[.slice none 0 0, .slice none 0 0] 79 (0, 0))) ∧
    Hid (wr.heap[w.heap.size]? = some (.cells (progC ⟨A, n, c⟩ ⟨B, m, e⟩).toArray 74 (0, 0))) ∧ Hid (Below w.heap.size w wr) ∧ w.heap.size + 3 ≤ wr.heap.size) (fun i _ => n - (intOf i).toNat)
  case atStart => exact ⟨0, 0, none, [], by omega, rfl, rfl, fun _ h => by (cases h), World.ownsRow_nil _ _ _ _, hg2, hg1, hg0, hbw, HZ.out⟩
  case round =>
    clear hg0 hg1 hg2 hbw
    obtain ⟨j, c', A', L, hj, rfl, HL, HF, HO, HG2, HG1, HG0, HB, hzr⟩ := hrel
    have i0 : (0 : Int) ≤ (j : Int) := by omega
    by_cases hlt : j < n
    · have i1 : (j : Int) < (n : Int) := by omega
      obtain ⟨b, o, t, aa, hAA, hb, ht, hat, v0, v1, v2⟩ := HK.out.decls.decl_at hlt
      try simp only at hAA
      subst hAA
      obtain ⟨aA, an, ac⟩ := aa
      dsimp only [Hd.v] at v0 v1 v2
      have x0 := below_cell HB.out v0
      have x1 := below_cell HB.out v1
      have x2 := below_cell HB.out v2
      have HT : Hid (x.decls.take (j + 1) = x.decls.take j ++ [t]) := by show _ = _; rw [List.take_add_one, ht.out]; rfl
      have hba : Below wr.heap.size wr (wr.alloc (.cells #[.string t.rel, .slice aA an ac, .int .i64 t.pos] 155)) := belowA (Below.refl _ _) _
      have hn1 : j + 1 ≤ 1500 := by have := HS.out.decls; have := Hlen.out; omega
      have hgA := heapOld (o := .cells #[.string t.rel, .slice aA an ac, .int .i64 t.pos] 155) HG2.out
      have hg1A := heapOld (o := .cells #[.string t.rel, .slice aA an ac, .int .i64 t.pos] 155) HG1.out
      have hg0A := heapOld (o := .cells #[.string t.rel, .slice aA an ac, .int .i64 t.pos] 155) HG0.out
      have hxA : (wr.alloc (.cells #[.string t.rel, .slice aA an ac, .int .i64 t.pos] 155)).heap[wr.heap.size]? = some (.cells #[.string t.rel, .slice aA an ac, .int .i64 t.pos] 155 (0, 0)) := heapNew rfl
      obtain ⟨r0, r1⟩ := facts2 hgA
      obtain ⟨z0, z1, z2⟩ := facts3 hxA
      have HOA := own_below HO.out hba
      obtain ⟨A2, c2, w4, hrun, hown2, hb4, hk4⟩ := decl_push HOA t aA an ac (by omega) (by simp; omega)
      simp only [World.size_alloc] at hrun
      have HRun := Lib.hid hrun
      have hbA := below_next HB.out hba
      have hgB := hk4 _ _ _ _ hgA (by decide)
      have hg1B := hk4 _ _ _ _ hg1A (by decide)
      have hg0B := hk4 _ _ _ _ hg0A (by decide)
      have hz4 : wr.heap.size + 1 ≤ w4.heap.size := by have := hb4.size; simp at this; exact this
      have HB2 : Hid (Below w.heap.size w (w4.setCell ⟨w.heap.size + 2, 0, none⟩ (.slice A2 (j + 1) c2))) := (hbA.trans (hb4.mono (by omega))).setCell (by show w.heap.size ≤ w.heap.size + 2; omega) _
      have HO2 : Hid ((w4.setCell ⟨w.heap.size + 2, 0, none⟩ (.slice A2 (j + 1) c2)).ownsRow (w.heap.size + 3) 156 3 (.slice A2 (j + 1) c2) (j + 1) ((L ++ [(t, declC t ⟨aA, an, ac⟩)]).flatMap (·.2))) := by
        have h9 := own_out' hown2 (set_out w4 (w.heap.size + 2) 0 (.slice A2 (j + 1) c2)) (fun b hb hb' => by have := (own_blk hown2 hb).1; simp at hb'; omega)
        show World.ownsRow _ _ _ _ _ _ _
        simpa using h9
      have HL2 : Hid ((L ++ [(t, declC t ⟨aA, an, ac⟩)]).map (·.1) = x.decls.take (j + 1)) := by show _ = _; rw [HT.out, List.map_append, HL.out]; rfl
      have HF2 : Hid (∀ p ∈ L ++ [(t, declC t ⟨aA, an, ac⟩)], Enc.decl.ok w w.heap.size p.2 p.1) := fun p hp => by
        rcases List.mem_append.1 hp with hp | hp
        · exact HF.out p hp
        · obtain rfl : p = (t, declC t ⟨aA, an, ac⟩) := by simpa using hp
          exact ⟨_, rfl, hat⟩
      have HGa := Lib.hid (set_first (v := .slice A2 (j + 1) c2) hgB)
      have HGb := Lib.hid ((World.heap_setCells_other' (W := w4) (g := w.heap.size + 2) (i := 0) (v := .slice A2 (j + 1) c2) (by omega)).trans hg1B)
      have HGc := Lib.hid ((World.heap_setCells_other' (W := w4) (g := w.heap.size + 2) (i := 0) (v := .slice A2 (j + 1) c2) (by omega)).trans hg0B)
      have hzs : (w4.setCell ⟨w.heap.size + 2, 0, none⟩ (.slice A2 (j + 1) c2)).heap.size = w4.heap.size := World.size_setCell'
      have HZ2 : Hid (w.heap.size + 3 ≤ (w4.setCell ⟨w.heap.size + 2, 0, none⟩ (.slice A2 (j + 1) c2)).heap.size) := by show _ ≤ _; rw [hzs]; omega
      have k1 : w4.cell? ⟨w.heap.size + 2, 0, none⟩ = some (.slice A' j c') := (cell_of_row _ _ 0 _ _ _ hgB).trans rfl
      have k2 : w4.frozen? ⟨w.heap.size + 2, 0, none⟩ = false := frozen_of_row _ _ _ _ _ hgB
      clear hrun hown2 hk4 hgA hg1A hg0A hgB hg1B hg0B hb4 hba hbA HOA HO ht hzs hxA HG0 HG1 HG2 hat v0 v1 v2 HB
      go_wp2_with (at_builtin; refine wpList_append_run (o := ⟨some 26, _, _, _, _, _⟩) rfl _ _ _ rfl _ _ rfl rfl (HRun.out _) ?_)
      go_roundw
      case rel => exact ⟨j + 1, c2, A2, _, by omega, by go_num, HL2, HF2, HO2, HGa, HGb, HGc, HB2, HZ2.out⟩
      case measure => simp [intOf]; omega
    · have i1 : ¬ (j : Int) < (n : Int) := by omega
      have hjn : j = n := by omega
      subst hjn
      have hll := Hlen.out
      have HDl : Hid (L.map (·.1) = x.decls) := by show _ = _; rw [HL.out, List.take_of_length_le (by omega)]
      have HLl : Hid (L.length = j) := by
        have h9 := congrArg List.length HDl.out
        simp at h9
        show _ = _
        omega
      obtain ⟨r0, r1⟩ := facts2 HG0.out
      dsimp only [Hd.v] at r0 r1
      have HG1' := HG1
      obtain ⟨b1z, Hb1⟩ : ∃ b1z, Hid (wr.heap.size = b1z) := ⟨_, rfl⟩
      have HDb : Hid (∀ bb, (Value.slice A' j c').ownBlock = some bb → w.heap.size + 3 ≤ bb ∧ bb < b1z) := fun bb hbb => by
        have h9 := own_blk HO.out hbb
        have := Hb1.out
        omega
      have hz1 : w.heap.size + 3 ≤ b1z := by have := Hb1.out; omega
      have HzW : Hid (b1z ≤ wr.heap.size) := by show _ ≤ _; rw [Hb1.out]; exact Nat.le_refl _
      clear HL HG0 hll
      go_wp2_with fail
      go_loopw [32] (fun i wr => ∃ (j2 c2 : Nat) (A2 : Option Addr) (L2 : List (GRule × List Value)), j2 ≤ m ∧ i = .int .i64 j2 ∧ Hid (L2.map (·.1) = x.rules.take j2) ∧ Hid (Rows (Enc.rule d) b1z 46 wr A2 j2 c2 L2) ∧ wr.heap[w.heap.size + 2]? = some (.cells #[.slice A' j c', .slice A2 j2 c2] 79 (0, 0)) ∧ wr.heap[w.heap.size + 1]? = some (.cells #[.slice none 0 0, .slice none 0 0] 79 (0, 0)) ∧
        Hid (wr.ownsRow (w.heap.size + 3) 156 3 (.slice A' j c') j (L.flatMap (·.2))) ∧ Below w.heap.size w wr ∧ b1z ≤ wr.heap.size) (fun i _ => m - (intOf i).toNat)
      case atStart => exact ⟨0, 0, none, [], by omega, rfl, rfl, Rows.nil _ _ _, HG2.out, HG1.out, HO, HB.out, HzW.out⟩
      case round =>
        clear HG1 HG2 HB HO HzW
        obtain ⟨j2, c2, A2, L2, hj2, rfl, HL, HR, hg, hg1, HOd, hbr, hzr2⟩ := hrel
        have q0 : (0 : Int) ≤ (j2 : Int) := by omega
        by_cases hlt2 : j2 < m
        · have q1 : (j2 : Int) < (m : Int) := by omega
          obtain ⟨bb, o, k, ak, bk, hAA, hbb, hk', hkl, y0, y1, y2, y3, y4, y5⟩ := (HK.out.keep hbr).rules.rule_at hlt2
          try simp only at hAA
          subst hAA
          have hkm := Lib.hid (List.mem_of_getElem? hk'.out)
          have HT : Hid (x.rules.take (j2 + 1) = x.rules.take j2 ++ [k]) := by show _ = _; rw [List.take_add_one, hk'.out]; rfl
          have hba : Below wr.heap.size wr (wr.alloc (.cells (ruleC k ak bk).toArray 27)) := belowA (Below.refl _ _) _
          have HC := Lib.hid (fun (W : World) (h : Below (wr.alloc (.cells (ruleC k ak bk).toArray 27)).heap.size (wr.alloc (.cells (ruleC k ak bk).toArray 27)) W) => copyRule_any d k ak bk W ((hkl.keep hba).keep h) (HS.out.each k hkm.out))
          have hn1 : j2 + 1 ≤ 1500 := by have := HS.out.rules; have := Hlen2.out; omega
          have hx2 : (wr.alloc (.cells (ruleC k ak bk).toArray 27)).heap[wr.heap.size]? = some (.cells (ruleC k ak bk).toArray 27 (0, 0)) := heapNew rfl
          have hgA := heapOld (o := .cells (ruleC k ak bk).toArray 27) hg
          have hg1A := heapOld (o := .cells (ruleC k ak bk).toArray 27) hg1
          have HRA := Lib.hid (HR.out.out (Out.of_below hba []) (fun _ h _ => by cases h))
          have hbA := below_next hbr hba
          have HOdA := Lib.hid (own_below HOd.out hba)
          have HoG : Hid (w.heap.size + 2 ∉ (Value.slice A2 j2 c2).ownBlock.toList) := fun hm => by
            have := (own_blk HR.out.own (b := w.heap.size + 2) (by simpa using hm)).1
            omega
          have HoX : Hid (wr.heap.size ∉ (Value.slice A2 j2 c2).ownBlock.toList) := fun hm => by
            have := (own_blk HR.out.own (b := wr.heap.size) (by simpa using hm)).2
            omega
          have HOr : Hid ((wr.alloc (.cells (ruleC k ak bk).toArray 27)).ownsRow b1z 46 6 (.slice A2 j2 c2) j2 (L2.flatMap (·.2))) := HRA.out.own
          have hrs : (Tryz.prog.info? 27).map (·.size) = some (ruleC k ak bk).length := by show _ = some 6; kernel_rfl
          have Hrs := Lib.hid hrs
          clear hk' hba hkl HR hg hg1 HOd hrs
          go_wp2_with fail
          refine push_region (n := 45) mixed rfl rfl (by kernel_rfl) (by kernel_rfl) (by kernel_rfl) (w.heap.size + 2) wr.heap.size 1 b1z 46 6 88 j2 (.agg zrC.toArray) A2 c2 (L2.flatMap (·.2)) (ruleC k ak bk) #[.slice A' j c', .slice A2 j2 c2]
            (fun vcs W => (Enc.rule d).ok (sans W (List.range (wr.heap.size + 1))) W.heap.size vcs k) (fun S vcs W => (Enc.rule d).ok (sans W (List.range (wr.heap.size + 1) ++ S)) W.heap.size vcs k) _
            rfl rfl hgA hx2 rfl (fun w => by simp [go_sem]) Tryz.underlying77 (by kernel_rfl) Tryz.underlying27 rfl Hrs.out (by kernel_rfl) rfl (by decide) (by decide) HOr.out HoG.out HoX.out (by simp [maxLen]; omega) (by omega) (by simp; omega) _ Tryz.func14 (by kernel_rfl) (by kernel_rfl) ?_ ?_ ?_ ?_ ?_ ?_
          · intro vcs W W' h hb
            exact (Enc.rule d).mono hb.size ((Out.of_below hb []).kept (fun _ h _ => by cases h) (fun _ h _ => h)) h
          · intro S vcs W W' h hb
            exact (Enc.rule d).mono hb.size ((Out.of_below hb []).kept (fun _ h _ => by cases h) (fun _ h _ => h)) h
          · intro S vcs W W' h hz ho hS
            refine (Enc.rule d).mono ho.size (ho.kept (T := List.range (wr.heap.size + 1)) (fun b hb _ => ?_) (fun b hb hl => ?_)) h
            · have := (own_blk HOr.out (b := b) (by simpa using hb)).2
              simp at this
              exact List.mem_range.2 this
            · rcases List.mem_append.1 hb with hb | hb
              · exact hb
              · rcases hS b hb with h1 | h1
                · have := (own_blk HOr.out (b := b) (by simpa using h1)).2
                  simp at this
                  exact List.mem_range.2 this
                · omega
          · intro vcs W W' h hz ho
            refine (Enc.rule d).mono ho.size (ho.kept (T := List.range (wr.heap.size + 1)) (fun b hb _ => ?_) (fun b hb hl => hb)) h
            have := (own_blk HOr.out (b := b) (by simpa using hb)).2
            simp at this
            exact List.mem_range.2 this
          · intro W hb
            refine (HC.out W hb).mono ?_
            rintro r w' ⟨a2, p2, rfl, hs, hb2⟩
            refine ⟨ruleC k a2 p2, rfl, rfl, by simp [Value.oneCell'], ?_, hb2⟩
            refine ⟨a2, p2, rfl, hs.mono' (Nat.le_refl _) ((Out.refl [] w').kept (fun _ h _ => by cases h) (fun b hb' _ => List.mem_range.2 ?_))⟩
            have h1 := List.mem_range.1 hb'
            have h2 := hb.size
            simp at h2
            omega
          · intro u W vcs A3 c3 hl hfar hown hblk ho hgW
            have hsA : (wr.alloc (.cells (ruleC k ak bk).toArray 27)).heap.size = wr.heap.size + 1 := by simp
            have hR2 := HRA.out.push (by rw [hsA]; omega) hown hblk ho (by rw [hsA]; exact hfar)
            have HR2 := Lib.hid (hR2.out (set_out W (w.heap.size + 2) 1 (.slice A3 (j2 + 1) c3)) (fun b hb _ => by simp at hb; omega))
            have HL2 : Hid ((L2 ++ [(k, vcs)]).map (·.1) = x.rules.take (j2 + 1)) := by show _ = _; rw [HT.out, List.map_append, HL.out]; rfl
            have hG2 : (W.setCell ⟨w.heap.size + 2, 1, none⟩ (.slice A3 (j2 + 1) c3)).heap[w.heap.size + 2]? = some (.cells #[.slice A' j c', .slice A3 (j2 + 1) c3] 79 (0, 0)) := set_one hgW
            have hnot : ∀ bb, bb < b1z → bb ∉ (Value.slice A2 j2 c2).ownBlock.toList := fun bb hbb hm => by
              have := (own_blk HOr.out (b := bb) (by simpa using hm)).1
              omega
            have hG1 : (W.setCell ⟨w.heap.size + 2, 1, none⟩ (.slice A3 (j2 + 1) c3)).heap[w.heap.size + 1]? = some (.cells #[.slice none 0 0, .slice none 0 0] 79 (0, 0)) :=
              (World.heap_setCells_other' (by omega)).trans ((ho.block _ (Array.getElem?_eq_some_iff.1 hg1A).1 (hnot _ (by omega))).trans hg1A)
            have HOd2 : Hid ((W.setCell ⟨w.heap.size + 2, 1, none⟩ (.slice A3 (j2 + 1) c3)).ownsRow (w.heap.size + 3) 156 3 (.slice A' j c') j (L.flatMap (·.2))) :=
              own_out' (own_out' HOdA.out ho (fun b hb => hnot b (HDb.out b hb).2)) (set_out W (w.heap.size + 2) 1 _) (fun b hb hb' => by have := (HDb.out b hb).1; simp at hb'; omega)
            have hzz : wr.heap.size + 1 ≤ W.heap.size := by rw [← hsA]; exact ho.size
            have hB2 : Below w.heap.size w (W.setCell ⟨w.heap.size + 2, 1, none⟩ (.slice A3 (j2 + 1) c3)) :=
              (hbA.trans (ho.below (B := w.heap.size) (fun b hb => by
                have := (own_blk HOr.out (b := b) (by simpa using hb)).1
                omega) (by rw [hsA]; omega))).setCell (by show w.heap.size ≤ w.heap.size + 2; omega) _
            have hzs : (W.setCell ⟨w.heap.size + 2, 1, none⟩ (.slice A3 (j2 + 1) c3)).heap.size = W.heap.size := World.size_setCell'
            have HZ2 := Lib.hid hzs
            clear hR2 hgW hfar hown hblk ho hsA hgA hg1A hx2 hzs hnot
            simp only [List.foldl_cons, List.foldl_nil, Act.put, List.setIfInBounds_toArray, List.set_cons_zero, List.set_cons_succ]
            generalize W.setCell ⟨w.heap.size + 2, 1, none⟩ (.slice A3 (j2 + 1) c3) = W3 at *
            go_wp2_with fail
            go_roundw
            case rel => exact ⟨j2 + 1, c3, A3, _, by omega, by go_num, HL2, HR2, hG2, hG1, HOd2, hB2, by rw [HZ2.out]; omega⟩
            case measure => simp [intOf]; omega
        · have q1 : ¬ (j2 : Int) < (m : Int) := by omega
          have hjn : j2 = m := by omega
          subst hjn
          have hll := Hlen2.out
          obtain ⟨c0, c1⟩ := facts2 hg
          have hSr := setRow_at (cs' := #[.slice A' j c', .slice A2 j2 c2]) hg1
          obtain ⟨s0, s1⟩ := facts2 hSr
          have hbS : Below w.heap.size w (wr.setRow (w.heap.size + 1) #[.slice A' j c', .slice A2 j2 c2]) := ⟨hbr.os, hbr.tape, hbr.output, by rw [setRow_size]; exact hbr.size, fun x hx => (setRow_ne (by omega)).trans (hbr.block x hx)⟩
          have hoS : Out [w.heap.size + 1] wr (wr.setRow (w.heap.size + 1) #[.slice A' j c', .slice A2 j2 c2]) := ⟨rfl, rfl, rfl, by rw [setRow_size]; exact Nat.le_refl _, fun x _ hx => setRow_ne (by simpa using hx)⟩
          have hR3 := HR.out.out hoS (fun b hb _ => by simp at hb; omega)
          have hR2 := (hR3.is (base := w.heap.size) (by simpa [reachN] using hm) (by omega)).is
          rw [HL.out, List.take_of_length_le (by omega)] at hR2
          have hO3 := own_out' HOd.out hoS (fun b hb hb' => by have := (HDb.out b hb).1; simp at hb'; omega)
          have hD3 := rows_is (E := Enc.decl) hO3 HLl.out (by have := HLl.out; simpa [reachN] using hn) (fun p hp => Enc.decl.mono hbS.size (Kept.of hbS.block) (HF.out p hp))
          rw [HDl.out] at hD3
          have hpost : P (.returned (.agg #[.slice A' j c', .slice A2 j2 c2])) (wr.setRow (w.heap.size + 1) #[.slice A' j c', .slice A2 j2 c2]) := by
            rw [HP.out]
            exact ⟨⟨A', j, c'⟩, ⟨A2, j2, c2⟩, rfl, ⟨hD3, hR2⟩, hbS⟩
          have HPo := Lib.hid hpost
          clear hR2 hR3 HR HL hll hpost hoS hbS hSr HP hO3 hD3
          go_wp2_with (refine wpList_store_rowTo rfl 79 (.tmp 2) (.tmp 44) rfl rfl (w.heap.size + 1) #[.slice A' j c', .slice A2 j2 c2] rfl rfl 79 #[.slice none 0 0, .slice none 0 0] hg1 (by kernel_rfl) rfl (by simp [Value.oneCell']) ?_)
          refine bodyPost_ret (v := .agg #[.slice A' j c', .slice A2 j2 c2]) ?_ rfl HPo.out
          simp [results, Tryz.results31, go_sem, s0, s1]
end Go.Proofs.YtplekbpmfaghbaaGreatDoor

/- The document's RightExp, zero, RightAtom. -/
namespace Go.Proofs.YtplekbpmfaghbaaGreatDoor
open Go.RowKit

abbrev exp5 (e : GExp) (A : Option Addr) (n c : Nat) : Value := .agg #[.int .i64 e.op, .string e.t.x, .int .i64 e.t.v.k, .int .i64 e.t.v.n, .string e.t.v.s, .slice A n c]
set_option maxRecDepth 100000 in
set_option maxHeartbeats 4000000 in
theorem refRightE_any : ∀ (k : Nat) (e : GExp) (A : Option Addr) (n c d : Nat) (w : World), k ≤ 20 → SliceIs (Enc.exp d) w w.heap.size A n c e.kids → e.t.v.ok →
    Calls Tryz.prog 78 #[exp5 e A n c, .int .i64 (k : Int)] w (RetBool (rightE k e) w) := by
  intro k
  induction k using Nat.strongRecOn with
  | ind k ih =>
    intro e A n c d w hk20 hk hv
    have IH := Lib.hid ih
    have hn := hk.bound
    have HK := Lib.hid hk
    have Hlen := Lib.hid hk.1
    have hrb : (w.alloc (.cells #[.int .i64 e.op, .string e.t.x, .int .i64 e.t.v.k, .int .i64 e.t.v.n, .string e.t.v.s, .slice A n c] 51)).heap[w.heap.size]? = some (.cells #[.int .i64 e.op, .string e.t.x, .int .i64 e.t.v.k, .int .i64 e.t.v.n, .string e.t.v.s, .slice A n c] 51 (0, 0)) := heapNew rfl
    have hba : Below w.heap.size w (w.alloc (.cells #[.int .i64 e.op, .string e.t.x, .int .i64 e.t.v.k, .int .i64 e.t.v.n, .string e.t.v.s, .slice A n c] 51)) := belowA (Below.refl _ _) _
    obtain ⟨P, HP⟩ : ∃ P, Hid (P = RetBool (rightE k e) w) := ⟨_, rfl⟩
    rw [← HP.out]
    have HBad : Hid (rightE k e = false → ∀ w', Below w.heap.size w w' → P (.returned (.bool false)) w') := fun h w' hb => by rw [HP.out, h]; exact ⟨rfl, hb⟩
    obtain ⟨b0, b1, b2, b3, b4, b5⟩ := facts6 hrb
    have Hlt := Lib.hid (Array.getElem?_eq_some_iff.1 hrb).1
    have HR := Lib.hid (refTright_any e.t hv (w.alloc (.cells #[.int .i64 e.op, .string e.t.x, .int .i64 e.t.v.k, .int .i64 e.t.v.n, .string e.t.v.s, .slice A n c] 51)))
    clear hk hv ih
    by_cases h0 : e.op = 0
    · have q0 : (e.op == 0) = true := by simp [h0]
      have HL : Hid (rightE k e = (e.kids.isEmpty && rightT e.t)) := rightE_leaf h0
      by_cases hn0 : n = 0
      · have q2 : ((n : Int) == 0) = true := by simp [hn0]
        have hke : e.kids.isEmpty = true := by have := Hlen.out; simp; exact List.eq_nil_of_length_eq_zero (by omega)
        have HG : Hid (∀ w', Below w.heap.size w w' → P (.returned (.bool (rightT e.t))) w') := fun w' hb => by rw [HP.out, HL.out, hke]; exact ⟨rfl, hb⟩
        clear HP hke h0 hn0 HL HBad HK
        generalize hwb : (w.alloc (.cells #[.int .i64 e.op, .string e.t.x, .int .i64 e.t.v.k, .int .i64 e.t.v.n, .string e.t.v.s, .slice A n c] 51)) = wb at *
        go_enter Tryz.func78, Tryz.ntmps78
        go_wp2_with fail
        try simp only [hwb]
        go_wp2_with fail
        refine HR.out.mono ?_
        rintro e1 w1 ⟨rfl, hb⟩
        have Hb := Lib.hid hb
        clear hb
        generalize rightT e.t = bb at *
        cases bb <;>
        · go_wp2_with fail
          first | exact HG.out _ (below_next hba Hb.out) | (go_ret; exact HG.out _ (below_next hba Hb.out))
      · have q2 : ((n : Int) == 0) = false := by rw [beq_eq_false_iff_ne]; omega
        have hke : e.kids.isEmpty = false := by
          have := Hlen.out
          cases h : e.kids with
          | nil => rw [h] at this; simp at this; omega
          | cons a l => rfl
        have HG : Hid (∀ w', Below w.heap.size w w' → P (.returned (.bool false)) w') := HBad.out (by rw [HL.out, hke]; simp)
        clear HP hke h0 hn0 HL HBad HK HR
        go_enter Tryz.func78, Tryz.ntmps78
        go_wp2_with fail
        first | exact HG.out _ hba | (go_ret; exact HG.out _ hba)
    · have q0 : (e.op == 0) = false := by simp [h0]
      by_cases hk0 : k = 0
      · have HG : Hid (∀ w', Below w.heap.size w w' → P (.returned (.bool false)) w') := HBad.out (by subst hk0; exact rightE_flat h0)
        have k1 : ¬ (0 : Int) < (k : Int) := by omega
        clear HP h0 HBad HK HR hk0
        go_enter Tryz.func78, Tryz.ntmps78
        go_wp2_with fail
        first | exact HG.out _ hba | (go_ret; exact HG.out _ hba)
      have k1 : (0 : Int) < (k : Int) := by omega
      by_cases h1 : e.op < 1
      · have h1' : ¬ 1 ≤ e.op := by omega
        have HG : Hid (∀ w', Below w.heap.size w w' → P (.returned (.bool false)) w') := HBad.out (rightE_bad h0 (opE_lo (by omega)))
        clear HP h0 HBad HK HR hk0 h1
        go_enter Tryz.func78, Tryz.ntmps78
        go_wp2_with fail
        first | exact HG.out _ hba | (go_ret; exact HG.out _ hba)
      have h1' : 1 ≤ e.op := by omega
      by_cases h3 : 3 < e.op
      · have h3' : ¬ e.op ≤ 3 := by omega
        have HG : Hid (∀ w', Below w.heap.size w w' → P (.returned (.bool false)) w') := HBad.out (rightE_bad h0 (opE_hi (by omega)))
        clear HP h0 HBad HK HR hk0 h1 h3
        go_enter Tryz.func78, Tryz.ntmps78
        go_wp2_with fail
        first | exact HG.out _ hba | (go_ret; exact HG.out _ hba)
      have h3' : e.op ≤ 3 := by omega
      by_cases hn2 : n = 2
      rotate_left
      · have q2 : ((n : Int) == 2) = false := by rw [beq_eq_false_iff_ne]; omega
        have HG : Hid (∀ w', Below w.heap.size w w' → P (.returned (.bool false)) w') := HBad.out (rightE_kids h0 (by have := Hlen.out; omega))
        clear HP h0 HBad HK HR hk0 h1 h3 hn2
        go_enter Tryz.func78, Tryz.ntmps78
        go_wp2_with fail
        first | exact HG.out _ hba | (go_ret; exact HG.out _ hba)
      subst hn2
      have q2 : (((2 : Nat) : Int) == 2) = true := by decide
      by_cases hz : e.t = zT
      rotate_left
      · have HG : Hid (∀ w', Below w.heap.size w w' → P (.returned (.bool false)) w') := HBad.out (rightE_bad h0 (by simp [opE, hz]))
        rcases told_not_zero hz with hz | ⟨z0, hz⟩ | ⟨z0, z1, hz⟩ | ⟨z0, z1, z2, hz⟩ <;>
        · clear HP h0 HBad HK HR hk0 h1 h3
          go_enter Tryz.func78, Tryz.ntmps78
          go_wp2_with fail
          first | exact HG.out _ (belowA (Below.refl _ _) _) | (go_ret; exact HG.out _ (belowA (Below.refl _ _) _))
      obtain ⟨z0, z1, z2, z3⟩ := told_zero.1 hz
      obtain ⟨b, o, ka, Aa, na, ca, da, hA, hb, hka, hda, x0, x1, x2, x3, x4, x5, -, -, fa, hkka⟩ := HK.out.exp_at (i := 0) (by omega)
      obtain ⟨b', o', kb, Ab, nb, cb, db, hA', hb', hkb, hdb, y0, y1, y2, y3, y4, y5, -, -, fb, hkkb⟩ := HK.out.exp_at (i := 1) (by omega)
      subst hA
      injection hA' with hA'
      injection hA' with h4 h5 _
      subst h4 h5
      simp only [Nat.zero_mul, Nat.add_zero] at x0 x1 x2 x3 x4 x5
      simp only [Nat.one_mul] at y0 y1 y2 y3 y4 y5
      have hop : opE e = true := by simp [opE, h1', h3', hz]
      obtain ⟨k', rfl⟩ : ∃ k', k = k' + 1 := ⟨k - 1, by omega⟩
      have hkids : e.kids = [ka, kb] := by
        have h9 := Hlen.out
        match hq : e.kids, h9 with
        | [u, v], _ =>
          have e1 := hka.out; have e2 := hkb.out
          rw [hq] at e1 e2
          simp at e1 e2
          rw [e1, e2]
      have HV : Hid (rightE (k' + 1) e = (rightE k' ka && rightE k' kb)) := rightE_two h0 hop hkids
      have kk : ((k' + 1 : Nat) : Int) - 1 = (k' : Int) := by omega
      have kk2 : wrap64 (((k' : Int) + 1) - 1) = (k' : Int) := by unfold wrap64; omega
      have HCa := Lib.hid (fun (W : World) (hb : Below w.heap.size w W) => IH.out k' (by omega) ka Aa na ca da W (by omega) (hkka.keep hb) fa)
      have HCb := Lib.hid (fun (W : World) (hb : Below w.heap.size w W) => IH.out k' (by omega) kb Ab nb cb db W (by omega) (hkkb.keep hb) fb)
      have HKe := Lib.hid (fun (W : World) (hb : Below w.heap.size w W) => And.intro (below_cell hb y0) (And.intro (below_cell hb y1) (And.intro (below_cell hb y2) (And.intro (below_cell hb y3) (And.intro (below_cell hb y4) (below_cell hb y5))))))
      have HG1 : Hid (rightE k' ka = false → ∀ w', Below w.heap.size w w' → P (.returned (.bool false)) w') := fun h => HBad.out (by rw [HV.out, h]; rfl)
      have HG2 : Hid (rightE k' ka = true → ∀ w', Below w.heap.size w w' → P (.returned (.bool (rightE k' kb))) w') := fun h w' hb => by rw [HP.out, HV.out, h]; exact ⟨rfl, hb⟩
      clear h0 h1 h3 hz hop hkids HK HBad HP hka hkb hda hdb hkka hkkb hk0 HR IH HV y0 y1 y2 y3 y4 y5
      go_enter Tryz.func78, Tryz.ntmps78
      go_wp2_with fail
      generalize hwv : w.alloc _ = wv
      have hbv : Below w.heap.size w wv := by rw [← hwv]; exact belowA (Below.refl _ _) _
      have hgv : wv.heap[w.heap.size]? = some (.cells #[.int .i64 e.op, .string e.t.x, .int .i64 0, .int .i64 0, .string e.t.v.s, .slice (some ⟨b, o, none⟩) 2 c] 51 (0, 0)) := by rw [← hwv]; exact heapNew rfl
      refine (HCa.out wv hbv).mono ?_
      rintro e1 w1 ⟨rfl, hb1⟩
      have hbw1 := below_next hbv hb1
      obtain ⟨y0, y1, y2, y3, y4, y5⟩ := HKe.out w1 hbw1
      have HC2 := Lib.hid (HCb.out w1 hbw1)
      have Hb1 := Lib.hid hbw1
      have hg := (hb1.block _ (Array.getElem?_eq_some_iff.1 hgv).1).trans hgv
      clear b0 b1 b2 b3 b4 b5 x0 x1 x2 x3 x4 x5 HCa HCb HKe hb1 hrb hba hwv hgv hbw1 hbv
      obtain ⟨b0, b1, b2, b3, b4, b5⟩ := facts6 hg
      cases hr : rightE k' ka with
      | false =>
        have HG3 := Lib.hid (HG1.out hr)
        clear HG1 HG2 hr
        go_wp2_with fail
        first | exact HG3.out _ Hb1.out | (go_ret; exact HG3.out _ Hb1.out)
      | true =>
        have HG3 := Lib.hid (HG2.out hr)
        clear HG1 HG2 hr
        go_wp2_with fail
        refine HC2.out.mono ?_
        rintro e1 w2 ⟨rfl, hb2⟩
        have Hb2 := Lib.hid (below_next Hb1.out hb2)
        clear hb2
        generalize rightE k' kb = bb at *
        cases bb <;>
        · go_wp2_with fail
          first | exact HG3.out _ Hb2.out | (go_ret; exact HG3.out _ Hb2.out)
theorem refRightExp_any (e : GExp) (A : Option Addr) (n c d : Nat) (w : World) (hk : SliceIs (Enc.exp d) w w.heap.size A n c e.kids) (hv : e.t.v.ok) :
    Calls Tryz.prog 27 #[exp5 e A n c] w (RetBool (rightE 20 e) w) := by
  have hrb : (w.alloc (.cells #[.int .i64 e.op, .string e.t.x, .int .i64 e.t.v.k, .int .i64 e.t.v.n, .string e.t.v.s, .slice A n c] 51)).heap[w.heap.size]? = some (.cells #[.int .i64 e.op, .string e.t.x, .int .i64 e.t.v.k, .int .i64 e.t.v.n, .string e.t.v.s, .slice A n c] 51 (0, 0)) := heapNew rfl
  have hba : Below w.heap.size w (w.alloc (.cells #[.int .i64 e.op, .string e.t.x, .int .i64 e.t.v.k, .int .i64 e.t.v.n, .string e.t.v.s, .slice A n c] 51)) := belowA (Below.refl _ _) _
  obtain ⟨b0, b1, b2, b3, b4, b5⟩ := facts6 hrb
  have HC := Lib.hid (refRightE_any 20 e A n c d _ (by decide) (hk.keep hba) hv)
  clear hrb
  go_enter Tryz.func27, Tryz.ntmps27
  go_wp2_with fail
  refine HC.out.mono ?_
  rintro r w1 ⟨rfl, hb⟩
  go_wp2_with fail
  go_ret
  exact ⟨rfl, below_next hba hb⟩
set_option maxRecDepth 100000 in
set_option maxHeartbeats 1000000 in
theorem refZero_any (e : GExp) (A : Option Addr) (n c : Nat) (w : World) (hn : e.kids.length = n) (hn2 : n ≤ reachN) :
    Calls Tryz.prog 77 #[exp5 e A n c] w (RetBool (noneE e) w) := by
  have hn3 : n ≤ 140737488351232 := hn2
  have Hn := Lib.hid hn
  obtain ⟨B, HB⟩ : ∃ B, Hid (B = noneE e) := ⟨_, rfl⟩
  rw [← HB.out]
  clear hn hn2
  by_cases h0 : e.op = 0
  rotate_left
  · have q0 : (e.op == 0) = false := by simp [h0]
    have HE : Hid (B = false) := by show _ = _; rw [HB.out]; simp [noneE, h0]
    clear h0 HB
    go_enter Tryz.func77, Tryz.ntmps77
    go_wp2_with fail
    go_ret
    exact ⟨by rw [HE.out]; rfl, belowA (Below.refl _ _) _⟩
  have q0 : (e.op == 0) = true := by simp [h0]
  by_cases hk : n = 0
  rotate_left
  · have q2 : ((n : Int) == 0) = false := by rw [beq_eq_false_iff_ne]; omega
    have HE : Hid (B = false) := by show _ = _; rw [HB.out]; simp [noneE, h0]; intro _ h; have := Hn.out; rw [h] at this; simp at this; omega
    clear h0 HB hk
    go_enter Tryz.func77, Tryz.ntmps77
    go_wp2_with fail
    go_ret
    exact ⟨by rw [HE.out]; rfl, belowA (Below.refl _ _) _⟩
  have q2 : ((n : Int) == 0) = true := by simp [hk]
  have hke : e.kids = [] := List.eq_nil_of_length_eq_zero (by have := Hn.out; omega)
  by_cases hz : e.t = zT
  rotate_left
  · have HE : Hid (B = false) := by show _ = _; rw [HB.out]; simp [noneE, hz]
    rcases told_not_zero hz with hz | ⟨z0, hz⟩ | ⟨z0, z1, hz⟩ | ⟨z0, z1, z2, hz⟩ <;>
    · clear h0 HB hk hke
      go_enter Tryz.func77, Tryz.ntmps77
      go_wp2_with fail
      go_ret
      exact ⟨by rw [HE.out]; rfl, belowA (Below.refl _ _) _⟩
  obtain ⟨z0, z1, z2, z3⟩ := told_zero.1 hz
  have HE : Hid (B = true) := by show _ = _; rw [HB.out]; simp [noneE, h0, hz, hke]
  clear h0 HB hz hk hke
  go_enter Tryz.func77, Tryz.ntmps77
  go_wp2_with fail
  go_ret
  exact ⟨by rw [HE.out]; rfl, belowA (Below.refl _ _) _⟩

theorem all_take {α : Type} {l : List α} {p : α → Bool} {k : Nat} {x : α} (hx : l[k]? = some x) : (l.take (k + 1)).all p = ((l.take k).all p && p x) := by
  rw [List.take_add_one, hx]; simp
theorem all_false {α : Type} {l : List α} {p : α → Bool} {k : Nat} {x : α} (hx : l[k]? = some x) (h : p x = false) : l.all p = false := by
  cases hl : l.all p
  · rfl
  · rw [List.all_eq_true.1 hl x (List.mem_of_getElem? hx)] at h; cases h
set_option maxRecDepth 100000 in
set_option maxHeartbeats 2000000 in
theorem refRightAtom_any (x : GAtom) (a : Hd) (w : World) (hl : SliceIs Enc.told w w.heap.size a.A a.n a.c x.args) : Calls Tryz.prog 75 #[.agg #[.string x.rel, a.v]] w (RetBool (atomB x) w) := by
  obtain ⟨A, n, c⟩ := a
  obtain ⟨P, HP⟩ : ∃ P, Hid (P = RetBool (atomB x) w) := ⟨_, rfl⟩
  have HBad : Hid ((x.args.length ≤ 6 → x.args.all rightT = false) → ∀ w', Below w.heap.size w w' → P (.returned (.bool false)) w') := fun h w' hb => by
    rw [HP.out]
    refine ⟨?_, hb⟩
    have : atomB x = false := by
      unfold atomB
      by_cases h6 : x.args.length ≤ 6
      · rw [h h6]; simp
      · simp [h6]
    rw [this]
  have HGood : Hid (x.args.length ≤ 6 → x.args.all rightT = true → ∀ w', Below w.heap.size w w' → P (.returned (.bool (singleB 2 x.rel))) w') := fun h1 h2 w' hb => by
    rw [HP.out]
    refine ⟨?_, hb⟩
    unfold atomB
    rw [h2]; simp [h1]
  rw [← HP.out]
  have hn := hl.bound
  have HL := Lib.hid hl
  have Hlen := Lib.hid hl.1
  have HN := Lib.hid (fun W => refNamed_any x.rel W)
  have HT := Lib.hid (fun (t : GTold) (ht : t.v.ok) W => refTright_any t ht W)
  have hrb : (w.alloc (.cells #[.string x.rel, .slice A n c] 43)).heap[w.heap.size]? = some (.cells #[.string x.rel, .slice A n c] 43 (0, 0)) := heapNew rfl
  have hba : Below w.heap.size w (w.alloc (.cells #[.string x.rel, .slice A n c] 43)) := belowA (Below.refl _ _) _
  dsimp only [Hd.v]
  clear hl HP
  go_enter Tryz.func75, Tryz.ntmps75
  go_wp2_with fail
  go_loopw [3] (fun i wr => ∃ k : Nat, k ≤ n ∧ i = .int .i64 k ∧ k ≤ 6 ∧ Hid ((x.args.take k).all rightT = true) ∧ wr.heap[w.heap.size]? = some (.cells #[.string x.rel, .slice A n c] 43 (0, 0)) ∧ Below w.heap.size w wr) (fun i _ => n - (intOf i).toNat)
  case atStart => exact ⟨0, by omega, rfl, by omega, by show _ = _; simp, hrb, hba⟩
  case round =>
    obtain ⟨k, hk, rfl, hk6, HA, hg, hbr⟩ := hrel
    clear hrb hba
    have i0 : (0 : Int) ≤ (k : Int) := by omega
    obtain ⟨b0, b1⟩ := facts2 hg
    by_cases hlt : k < n
    · have i1 : (k : Int) < (n : Int) := by omega
      by_cases h5 : 5 < k
      · have h5' : (5 : Int) < (k : Int) := by omega
        have HG := Lib.hid (HBad.out (fun h => by have := Hlen.out; omega))
        have HBr := Lib.hid hbr
        clear hbr HBad HGood HA
        go_wp2_with fail
        first | exact HG.out _ HBr.out | (go_ret; exact HG.out _ HBr.out)
      have h5' : ¬ (5 : Int) < (k : Int) := by omega
      obtain ⟨b, o, t, rfl, hb, ht, x0, x1, x2, x3, f1, f2⟩ := (HL.out.below hbr).told_at hlt
      have HC := Lib.hid (HT.out t f2 wr)
      have HTk : Hid ((x.args.take (k + 1)).all rightT = rightT t) := by show _ = _; rw [all_take ht.out, HA.out]; rfl
      have HTb : Hid (rightT t = false → ∀ w', Below w.heap.size w w' → P (.returned (.bool false)) w') := fun h => HBad.out (fun _ => all_false ht.out h)
      clear ht
      go_wp2_with fail
      refine HC.out.mono ?_
      rintro r w1 ⟨rfl, hb1⟩
      have hg1 := (hb1.block _ (Array.getElem?_eq_some_iff.1 hg).1).trans hg
      have HBr := Lib.hid (below_next hbr hb1)
      cases hr : rightT t with
      | false =>
        have HG := Lib.hid (HTb.out hr)
        clear hbr HBad HGood HA hr HTb HTk hb1 hg
        go_wp2_with fail
        first | exact HG.out _ HBr.out | (go_ret; exact HG.out _ HBr.out)
      | true =>
        have HT1 : Hid ((x.args.take (k + 1)).all rightT = true) := by show _ = _; rw [HTk.out, hr]
        have hg2 := Lib.hid hg1
        clear hr HTb HTk hb1 hg hg1 hbr
        go_wp2_with fail
        go_roundw
        case rel => exact ⟨k + 1, by omega, by go_num, by omega, HT1, hg2.out, HBr.out⟩
        case measure => simp [intOf]; omega
    · have i1 : ¬ (k : Int) < (n : Int) := by omega
      have hkn : k = n := by omega
      subst hkn
      have HG := Lib.hid (HGood.out (by have := Hlen.out; omega) (by have := HA.out; rwa [List.take_of_length_le (by have := Hlen.out; omega)] at this))
      have HBr := Lib.hid hbr
      clear hbr HBad HGood HA
      go_wp2_with fail
      refine (HN.out wr).mono ?_
      rintro r w1 ⟨rfl, hb1⟩
      have HB1 := Lib.hid (below_next HBr.out hb1)
      clear hb1
      go_wp2_with fail
      first | exact HG.out _ HB1.out | (go_ret; exact HG.out _ HB1.out)
end Go.Proofs.YtplekbpmfaghbaaGreatDoor

/- The document's RightLiteral. Printed by wip/tools/gen_reflit.py. -/
namespace Go.Proofs.YtplekbpmfaghbaaGreatDoor
open Go.RowKit

set_option maxRecDepth 100000 in
set_option maxHeartbeats 4000000 in
theorem refRightLit_any (d : Nat) (x : GLit) (a p q : Hd) (w : World) (h : LitAt d w w.heap.size x a p q) : Calls Tryz.prog 24 #[.agg #[.int .i64 x.k, .string x.atom.rel, a.v, .int .i64 x.op, .int .i64 x.l.op, .string x.l.t.x, .int .i64 x.l.t.v.k, .int .i64 x.l.t.v.n, .string x.l.t.v.s, p.v, .int .i64 x.r.op, .string x.r.t.x, .int .i64 x.r.t.v.k, .int .i64 x.r.t.v.n, .string x.r.t.v.s, q.v, .int .i64 x.pos]] w (RetBool (rightLit x) w) := by
  obtain ⟨B, HB⟩ : ∃ B, Hid (B = rightLit x) := ⟨_, rfl⟩
  rw [← HB.out]
  have hrb : (w.alloc (.cells #[.int .i64 x.k, .string x.atom.rel, a.v, .int .i64 x.op, .int .i64 x.l.op, .string x.l.t.x, .int .i64 x.l.t.v.k, .int .i64 x.l.t.v.n, .string x.l.t.v.s, p.v, .int .i64 x.r.op, .string x.r.t.x, .int .i64 x.r.t.v.k, .int .i64 x.r.t.v.n, .string x.r.t.v.s, q.v, .int .i64 x.pos] 53)).heap[w.heap.size]? = some (.cells #[.int .i64 x.k, .string x.atom.rel, a.v, .int .i64 x.op, .int .i64 x.l.op, .string x.l.t.x, .int .i64 x.l.t.v.k, .int .i64 x.l.t.v.n, .string x.l.t.v.s, p.v, .int .i64 x.r.op, .string x.r.t.x, .int .i64 x.r.t.v.k, .int .i64 x.r.t.v.n, .string x.r.t.v.s, q.v, .int .i64 x.pos] 53 (0, 0)) := heapNew rfl
  have hba : Below w.heap.size w (w.alloc (.cells #[.int .i64 x.k, .string x.atom.rel, a.v, .int .i64 x.op, .int .i64 x.l.op, .string x.l.t.x, .int .i64 x.l.t.v.k, .int .i64 x.l.t.v.n, .string x.l.t.v.s, p.v, .int .i64 x.r.op, .string x.r.t.x, .int .i64 x.r.t.v.k, .int .i64 x.r.t.v.n, .string x.r.t.v.s, q.v, .int .i64 x.pos] 53)) := belowA (Below.refl _ _) _
  have hna := h.args.bound
  have Hla := Lib.hid h.args.1
  have HH := Lib.hid (h.keep hba)
  clear h
  have Hrow : Hid (∀ W, Below (w.alloc (.cells #[.int .i64 x.k, .string x.atom.rel, a.v, .int .i64 x.op, .int .i64 x.l.op, .string x.l.t.x, .int .i64 x.l.t.v.k, .int .i64 x.l.t.v.n, .string x.l.t.v.s, p.v, .int .i64 x.r.op, .string x.r.t.x, .int .i64 x.r.t.v.k, .int .i64 x.r.t.v.n, .string x.r.t.v.s, q.v, .int .i64 x.pos] 53)).heap.size (w.alloc (.cells #[.int .i64 x.k, .string x.atom.rel, a.v, .int .i64 x.op, .int .i64 x.l.op, .string x.l.t.x, .int .i64 x.l.t.v.k, .int .i64 x.l.t.v.n, .string x.l.t.v.s, p.v, .int .i64 x.r.op, .string x.r.t.x, .int .i64 x.r.t.v.k, .int .i64 x.r.t.v.n, .string x.r.t.v.s, q.v, .int .i64 x.pos] 53)) W → W.heap[w.heap.size]? = some (.cells #[.int .i64 x.k, .string x.atom.rel, a.v, .int .i64 x.op, .int .i64 x.l.op, .string x.l.t.x, .int .i64 x.l.t.v.k, .int .i64 x.l.t.v.n, .string x.l.t.v.s, p.v, .int .i64 x.r.op, .string x.r.t.x, .int .i64 x.r.t.v.k, .int .i64 x.r.t.v.n, .string x.r.t.v.s, q.v, .int .i64 x.pos] 53 (0, 0))) := fun W h => (h.block _ (Array.getElem?_eq_some_iff.1 hrb).1).trans hrb
  obtain ⟨f0_0, f0_1, f0_2, f0_3, f0_4, f0_5, f0_6, f0_7, f0_8, f0_9, f0_10, f0_11, f0_12, f0_13, f0_14, f0_15, f0_16⟩ := facts17 hrb
  by_cases hk12 : x.k = 1 ∨ x.k = 2
  · obtain ⟨P1, HP1⟩ : ∃ E, Hid (E = atomB x.atom) := ⟨_, rfl⟩
    obtain ⟨P2, HP2⟩ : ∃ E, Hid (E = noneE x.l) := ⟨_, rfl⟩
    obtain ⟨P3, HP3⟩ : ∃ E, Hid (E = noneE x.r) := ⟨_, rfl⟩
    have HE : Hid (B = (P1 && (decide (x.op = 0) && (P2 && P3)))) := by show _ = _; rw [HB.out, HP1.out, HP2.out, HP3.out]; unfold rightLit; rw [if_pos hk12]
    have C1 : Hid (∀ W, Below (w.alloc (.cells #[.int .i64 x.k, .string x.atom.rel, a.v, .int .i64 x.op, .int .i64 x.l.op, .string x.l.t.x, .int .i64 x.l.t.v.k, .int .i64 x.l.t.v.n, .string x.l.t.v.s, p.v, .int .i64 x.r.op, .string x.r.t.x, .int .i64 x.r.t.v.k, .int .i64 x.r.t.v.n, .string x.r.t.v.s, q.v, .int .i64 x.pos] 53)).heap.size (w.alloc (.cells #[.int .i64 x.k, .string x.atom.rel, a.v, .int .i64 x.op, .int .i64 x.l.op, .string x.l.t.x, .int .i64 x.l.t.v.k, .int .i64 x.l.t.v.n, .string x.l.t.v.s, p.v, .int .i64 x.r.op, .string x.r.t.x, .int .i64 x.r.t.v.k, .int .i64 x.r.t.v.n, .string x.r.t.v.s, q.v, .int .i64 x.pos] 53)) W → Calls Tryz.prog 75 #[.agg #[.string x.atom.rel, a.v]] W (RetBool P1 W)) := fun W h => by rw [HP1.out]; exact refRightAtom_any x.atom a W (HH.out.args.keep h)
    have C2 : Hid (∀ W, Below (w.alloc (.cells #[.int .i64 x.k, .string x.atom.rel, a.v, .int .i64 x.op, .int .i64 x.l.op, .string x.l.t.x, .int .i64 x.l.t.v.k, .int .i64 x.l.t.v.n, .string x.l.t.v.s, p.v, .int .i64 x.r.op, .string x.r.t.x, .int .i64 x.r.t.v.k, .int .i64 x.r.t.v.n, .string x.r.t.v.s, q.v, .int .i64 x.pos] 53)).heap.size (w.alloc (.cells #[.int .i64 x.k, .string x.atom.rel, a.v, .int .i64 x.op, .int .i64 x.l.op, .string x.l.t.x, .int .i64 x.l.t.v.k, .int .i64 x.l.t.v.n, .string x.l.t.v.s, p.v, .int .i64 x.r.op, .string x.r.t.x, .int .i64 x.r.t.v.k, .int .i64 x.r.t.v.n, .string x.r.t.v.s, q.v, .int .i64 x.pos] 53)) W → Calls Tryz.prog 77 #[.agg #[.int .i64 x.l.op, .string x.l.t.x, .int .i64 x.l.t.v.k, .int .i64 x.l.t.v.n, .string x.l.t.v.s, p.v]] W (RetBool P2 W)) := fun W h => by rw [HP2.out]; exact refZero_any x.l p.A p.n p.c W HH.out.lk.1 HH.out.lk.2.2.2.1
    have C3 : Hid (∀ W, Below (w.alloc (.cells #[.int .i64 x.k, .string x.atom.rel, a.v, .int .i64 x.op, .int .i64 x.l.op, .string x.l.t.x, .int .i64 x.l.t.v.k, .int .i64 x.l.t.v.n, .string x.l.t.v.s, p.v, .int .i64 x.r.op, .string x.r.t.x, .int .i64 x.r.t.v.k, .int .i64 x.r.t.v.n, .string x.r.t.v.s, q.v, .int .i64 x.pos] 53)).heap.size (w.alloc (.cells #[.int .i64 x.k, .string x.atom.rel, a.v, .int .i64 x.op, .int .i64 x.l.op, .string x.l.t.x, .int .i64 x.l.t.v.k, .int .i64 x.l.t.v.n, .string x.l.t.v.s, p.v, .int .i64 x.r.op, .string x.r.t.x, .int .i64 x.r.t.v.k, .int .i64 x.r.t.v.n, .string x.r.t.v.s, q.v, .int .i64 x.pos] 53)) W → Calls Tryz.prog 77 #[.agg #[.int .i64 x.r.op, .string x.r.t.x, .int .i64 x.r.t.v.k, .int .i64 x.r.t.v.n, .string x.r.t.v.s, q.v]] W (RetBool P3 W)) := fun W h => by rw [HP3.out]; exact refZero_any x.r q.A q.n q.c W HH.out.rk.1 HH.out.rk.2.2.2.1
    clear hrb HB HP1 HP2 HP3 HH Hla
    generalize hwb : (w.alloc (.cells #[.int .i64 x.k, .string x.atom.rel, a.v, .int .i64 x.op, .int .i64 x.l.op, .string x.l.t.x, .int .i64 x.l.t.v.k, .int .i64 x.l.t.v.n, .string x.l.t.v.s, p.v, .int .i64 x.r.op, .string x.r.t.x, .int .i64 x.r.t.v.k, .int .i64 x.r.t.v.n, .string x.r.t.v.s, q.v, .int .i64 x.pos] 53)) = wb at *
    have Hbw0 := Lib.hid (Below.refl wb.heap.size wb)
    by_cases ho : x.op = 0
    · have o0 : (x.op == 0) = true := by simp [ho]
      have HE2 : Hid (B = (P1 && (P2 && P3))) := by show _ = _; rw [HE.out, decide_eq_true ho]; rfl
      clear HE ho
      rcases hk12 with hk | hk
      · have k1 : (x.k == 1) = true := by simp [hk]
        clear hk
        go_enter Tryz.func24, Tryz.ntmps24
        go_wp2_with fail
        try simp only [hwb]
        go_wp2_with fail
        refine (C1.out _ Hbw0.out).mono ?_
        rintro e1 w1 ⟨rfl, hq1⟩
        have Hbw1 := Lib.hid (below_next Hbw0.out hq1)
        obtain ⟨f1_0, f1_1, f1_2, f1_3, f1_4, f1_5, f1_6, f1_7, f1_8, f1_9, f1_10, f1_11, f1_12, f1_13, f1_14, f1_15, f1_16⟩ := facts17 (Hrow.out _ Hbw1.out)
        clear hq1 f0_0 f0_1 f0_2 f0_3 f0_4 f0_5 f0_6 f0_7 f0_8 f0_9 f0_10 f0_11 f0_12 f0_13 f0_14 f0_15 f0_16
        cases P1 with
        | false =>
          go_wp2_with fail
          go_ret
          exact ⟨by rw [HE2.out]; rfl, below_next hba Hbw1.out⟩
        | true =>
          go_wp2_with fail
          refine (C2.out _ Hbw1.out).mono ?_
          rintro e2 w2 ⟨rfl, hq2⟩
          have Hbw2 := Lib.hid (below_next Hbw1.out hq2)
          obtain ⟨f2_0, f2_1, f2_2, f2_3, f2_4, f2_5, f2_6, f2_7, f2_8, f2_9, f2_10, f2_11, f2_12, f2_13, f2_14, f2_15, f2_16⟩ := facts17 (Hrow.out _ Hbw2.out)
          clear hq2 f1_0 f1_1 f1_2 f1_3 f1_4 f1_5 f1_6 f1_7 f1_8 f1_9 f1_10 f1_11 f1_12 f1_13 f1_14 f1_15 f1_16
          cases P2 with
          | false =>
            go_wp2_with fail
            go_ret
            exact ⟨by rw [HE2.out]; rfl, below_next hba Hbw2.out⟩
          | true =>
            go_wp2_with fail
            refine (C3.out _ Hbw2.out).mono ?_
            rintro e3 w3 ⟨rfl, hq3⟩
            have Hbw3 := Lib.hid (below_next Hbw2.out hq3)
            obtain ⟨f3_0, f3_1, f3_2, f3_3, f3_4, f3_5, f3_6, f3_7, f3_8, f3_9, f3_10, f3_11, f3_12, f3_13, f3_14, f3_15, f3_16⟩ := facts17 (Hrow.out _ Hbw3.out)
            clear hq3 f2_0 f2_1 f2_2 f2_3 f2_4 f2_5 f2_6 f2_7 f2_8 f2_9 f2_10 f2_11 f2_12 f2_13 f2_14 f2_15 f2_16
            cases P3 <;>
            · go_wp2_with fail
              go_ret
              exact ⟨by rw [HE2.out]; rfl, below_next hba Hbw3.out⟩
      · have k1 : (x.k == 1) = false := by simp [hk]
        have k2 : (x.k == 2) = true := by simp [hk]
        clear hk
        go_enter Tryz.func24, Tryz.ntmps24
        go_wp2_with fail
        try simp only [hwb]
        go_wp2_with fail
        refine (C1.out _ Hbw0.out).mono ?_
        rintro e1 w1 ⟨rfl, hq1⟩
        have Hbw1 := Lib.hid (below_next Hbw0.out hq1)
        obtain ⟨f1_0, f1_1, f1_2, f1_3, f1_4, f1_5, f1_6, f1_7, f1_8, f1_9, f1_10, f1_11, f1_12, f1_13, f1_14, f1_15, f1_16⟩ := facts17 (Hrow.out _ Hbw1.out)
        clear hq1 f0_0 f0_1 f0_2 f0_3 f0_4 f0_5 f0_6 f0_7 f0_8 f0_9 f0_10 f0_11 f0_12 f0_13 f0_14 f0_15 f0_16
        cases P1 with
        | false =>
          go_wp2_with fail
          go_ret
          exact ⟨by rw [HE2.out]; rfl, below_next hba Hbw1.out⟩
        | true =>
          go_wp2_with fail
          refine (C2.out _ Hbw1.out).mono ?_
          rintro e2 w2 ⟨rfl, hq2⟩
          have Hbw2 := Lib.hid (below_next Hbw1.out hq2)
          obtain ⟨f2_0, f2_1, f2_2, f2_3, f2_4, f2_5, f2_6, f2_7, f2_8, f2_9, f2_10, f2_11, f2_12, f2_13, f2_14, f2_15, f2_16⟩ := facts17 (Hrow.out _ Hbw2.out)
          clear hq2 f1_0 f1_1 f1_2 f1_3 f1_4 f1_5 f1_6 f1_7 f1_8 f1_9 f1_10 f1_11 f1_12 f1_13 f1_14 f1_15 f1_16
          cases P2 with
          | false =>
            go_wp2_with fail
            go_ret
            exact ⟨by rw [HE2.out]; rfl, below_next hba Hbw2.out⟩
          | true =>
            go_wp2_with fail
            refine (C3.out _ Hbw2.out).mono ?_
            rintro e3 w3 ⟨rfl, hq3⟩
            have Hbw3 := Lib.hid (below_next Hbw2.out hq3)
            obtain ⟨f3_0, f3_1, f3_2, f3_3, f3_4, f3_5, f3_6, f3_7, f3_8, f3_9, f3_10, f3_11, f3_12, f3_13, f3_14, f3_15, f3_16⟩ := facts17 (Hrow.out _ Hbw3.out)
            clear hq3 f2_0 f2_1 f2_2 f2_3 f2_4 f2_5 f2_6 f2_7 f2_8 f2_9 f2_10 f2_11 f2_12 f2_13 f2_14 f2_15 f2_16
            cases P3 <;>
            · go_wp2_with fail
              go_ret
              exact ⟨by rw [HE2.out]; rfl, below_next hba Hbw3.out⟩
    · have o0 : (x.op == 0) = false := by simp [ho]
      have HE2 : Hid (B = false) := by show _ = _; rw [HE.out, decide_eq_false ho]; simp
      clear HE ho C2 C3
      rcases hk12 with hk | hk
      · have k1 : (x.k == 1) = true := by simp [hk]
        clear hk
        go_enter Tryz.func24, Tryz.ntmps24
        go_wp2_with fail
        try simp only [hwb]
        go_wp2_with fail
        refine (C1.out _ Hbw0.out).mono ?_
        rintro e1 w1 ⟨rfl, hq1⟩
        have Hbw1 := Lib.hid (below_next Hbw0.out hq1)
        obtain ⟨f1_0, f1_1, f1_2, f1_3, f1_4, f1_5, f1_6, f1_7, f1_8, f1_9, f1_10, f1_11, f1_12, f1_13, f1_14, f1_15, f1_16⟩ := facts17 (Hrow.out _ Hbw1.out)
        clear hq1 f0_0 f0_1 f0_2 f0_3 f0_4 f0_5 f0_6 f0_7 f0_8 f0_9 f0_10 f0_11 f0_12 f0_13 f0_14 f0_15 f0_16
        cases P1 <;>
        · go_wp2_with fail
          go_ret
          exact ⟨by rw [HE2.out]; rfl, below_next hba Hbw1.out⟩
      · have k1 : (x.k == 1) = false := by simp [hk]
        have k2 : (x.k == 2) = true := by simp [hk]
        clear hk
        go_enter Tryz.func24, Tryz.ntmps24
        go_wp2_with fail
        try simp only [hwb]
        go_wp2_with fail
        refine (C1.out _ Hbw0.out).mono ?_
        rintro e1 w1 ⟨rfl, hq1⟩
        have Hbw1 := Lib.hid (below_next Hbw0.out hq1)
        obtain ⟨f1_0, f1_1, f1_2, f1_3, f1_4, f1_5, f1_6, f1_7, f1_8, f1_9, f1_10, f1_11, f1_12, f1_13, f1_14, f1_15, f1_16⟩ := facts17 (Hrow.out _ Hbw1.out)
        clear hq1 f0_0 f0_1 f0_2 f0_3 f0_4 f0_5 f0_6 f0_7 f0_8 f0_9 f0_10 f0_11 f0_12 f0_13 f0_14 f0_15 f0_16
        cases P1 <;>
        · go_wp2_with fail
          go_ret
          exact ⟨by rw [HE2.out]; rfl, below_next hba Hbw1.out⟩
  have k1 : (x.k == 1) = false := by simp; omega
  have k2 : (x.k == 2) = false := by simp; omega
  by_cases hk3 : x.k = 3
  rotate_left
  · have k3 : (x.k == 3) = false := by simp [hk3]
    have HE2 : Hid (B = false) := by show _ = _; rw [HB.out]; simp [rightLit, hk12, hk3]
    clear hk3 hk12 HB HH Hrow hrb Hla
    go_enter Tryz.func24, Tryz.ntmps24
    go_wp2_with fail
    go_ret
    exact ⟨by rw [HE2.out]; rfl, belowA (Below.refl _ _) _⟩
  have k3 : (x.k == 3) = true := by simp [hk3]
  have HE : Hid (B = (cmpB2 x && (rightE 20 x.l && rightE 20 x.r))) := by show _ = _; rw [HB.out]; simp [rightLit, hk3]
  by_cases hc : cmpB2 x = true
  rotate_left
  · have HE2 : Hid (B = false) := by show _ = _; rw [HE.out]; simp [hc]
    have hc' : (((x.atom.rel.size : Int) == 0) = false) ∨ (((x.atom.rel.size : Int) == 0) = true ∧ ((a.n : Int) == 0) = false) ∨ (((x.atom.rel.size : Int) == 0) = true ∧ ((a.n : Int) == 0) = true ∧ ¬ 1 ≤ x.op) ∨ (((x.atom.rel.size : Int) == 0) = true ∧ ((a.n : Int) == 0) = true ∧ 1 ≤ x.op ∧ ¬ x.op ≤ 6) := by
      have h1 := Hla.out
      unfold cmpB2 at hc
      by_cases g1 : x.atom.rel.size = 0
      · have g2 : ((x.atom.rel.size : Int) == 0) = true := by simp [g1]
        by_cases g3 : a.n = 0
        · have g6 : ((a.n : Int) == 0) = true := by simp [g3]
          by_cases g4 : 1 ≤ x.op
          · by_cases g5 : x.op ≤ 6
            · exfalso
              apply hc
              have : x.atom.args.length = 0 := by omega
              simp [*]
            · exact .inr (.inr (.inr ⟨g2, g6, g4, g5⟩))
          · exact .inr (.inr (.inl ⟨g2, g6, g4⟩))
        · exact .inr (.inl ⟨g2, by rw [beq_eq_false_iff_ne]; omega⟩)
      · exact .inl (by rw [beq_eq_false_iff_ne]; omega)
    clear hk3 hk12 HB HH Hrow hrb hc HE
    rcases hc' with h | ⟨g0, h⟩ | ⟨g0, g1, h⟩ | ⟨g0, g1, g2, h⟩ <;>
    · go_enter Tryz.func24, Tryz.ntmps24
      go_wp2_with fail
      go_ret
      exact ⟨by rw [HE2.out]; rfl, belowA (Below.refl _ _) _⟩
  have hc' : ((x.atom.rel.size : Int) == 0) = true ∧ ((a.n : Int) == 0) = true ∧ 1 ≤ x.op ∧ x.op ≤ 6 := by
    have h1 := Hla.out
    simp only [cmpB2, Bool.and_eq_true, decide_eq_true_eq] at hc
    have h2 : x.atom.rel.size = 0 := hc.1.1
    have h3 : a.n = 0 := by omega
    exact ⟨by simp [h2], by simp [h3], hc.2.1, hc.2.2⟩
  obtain ⟨g0, g1, g2, g3⟩ := hc'
  obtain ⟨P1, HP1⟩ : ∃ E, Hid (E = rightE 20 x.l) := ⟨_, rfl⟩
  obtain ⟨P2, HP2⟩ : ∃ E, Hid (E = rightE 20 x.r) := ⟨_, rfl⟩
  have HE2 : Hid (B = (P1 && P2)) := by show _ = _; rw [HE.out, hc, HP1.out, HP2.out]; rfl
  have C1 : Hid (∀ W, Below (w.alloc (.cells #[.int .i64 x.k, .string x.atom.rel, a.v, .int .i64 x.op, .int .i64 x.l.op, .string x.l.t.x, .int .i64 x.l.t.v.k, .int .i64 x.l.t.v.n, .string x.l.t.v.s, p.v, .int .i64 x.r.op, .string x.r.t.x, .int .i64 x.r.t.v.k, .int .i64 x.r.t.v.n, .string x.r.t.v.s, q.v, .int .i64 x.pos] 53)).heap.size (w.alloc (.cells #[.int .i64 x.k, .string x.atom.rel, a.v, .int .i64 x.op, .int .i64 x.l.op, .string x.l.t.x, .int .i64 x.l.t.v.k, .int .i64 x.l.t.v.n, .string x.l.t.v.s, p.v, .int .i64 x.r.op, .string x.r.t.x, .int .i64 x.r.t.v.k, .int .i64 x.r.t.v.n, .string x.r.t.v.s, q.v, .int .i64 x.pos] 53)) W → Calls Tryz.prog 27 #[.agg #[.int .i64 x.l.op, .string x.l.t.x, .int .i64 x.l.t.v.k, .int .i64 x.l.t.v.n, .string x.l.t.v.s, p.v]] W (RetBool P1 W)) := fun W h => by rw [HP1.out]; exact refRightExp_any x.l p.A p.n p.c d W (HH.out.lk.keep h) HH.out.lv
  have C2 : Hid (∀ W, Below (w.alloc (.cells #[.int .i64 x.k, .string x.atom.rel, a.v, .int .i64 x.op, .int .i64 x.l.op, .string x.l.t.x, .int .i64 x.l.t.v.k, .int .i64 x.l.t.v.n, .string x.l.t.v.s, p.v, .int .i64 x.r.op, .string x.r.t.x, .int .i64 x.r.t.v.k, .int .i64 x.r.t.v.n, .string x.r.t.v.s, q.v, .int .i64 x.pos] 53)).heap.size (w.alloc (.cells #[.int .i64 x.k, .string x.atom.rel, a.v, .int .i64 x.op, .int .i64 x.l.op, .string x.l.t.x, .int .i64 x.l.t.v.k, .int .i64 x.l.t.v.n, .string x.l.t.v.s, p.v, .int .i64 x.r.op, .string x.r.t.x, .int .i64 x.r.t.v.k, .int .i64 x.r.t.v.n, .string x.r.t.v.s, q.v, .int .i64 x.pos] 53)) W → Calls Tryz.prog 27 #[.agg #[.int .i64 x.r.op, .string x.r.t.x, .int .i64 x.r.t.v.k, .int .i64 x.r.t.v.n, .string x.r.t.v.s, q.v]] W (RetBool P2 W)) := fun W h => by rw [HP2.out]; exact refRightExp_any x.r q.A q.n q.c d W (HH.out.rk.keep h) HH.out.rv
  clear hrb HB HP1 HP2 HH Hla hc HE hk3 hk12
  generalize hwb : (w.alloc (.cells #[.int .i64 x.k, .string x.atom.rel, a.v, .int .i64 x.op, .int .i64 x.l.op, .string x.l.t.x, .int .i64 x.l.t.v.k, .int .i64 x.l.t.v.n, .string x.l.t.v.s, p.v, .int .i64 x.r.op, .string x.r.t.x, .int .i64 x.r.t.v.k, .int .i64 x.r.t.v.n, .string x.r.t.v.s, q.v, .int .i64 x.pos] 53)) = wb at *
  have Hbw0 := Lib.hid (Below.refl wb.heap.size wb)
  go_enter Tryz.func24, Tryz.ntmps24
  go_wp2_with fail
  try simp only [hwb]
  go_wp2_with fail
  refine (C1.out _ Hbw0.out).mono ?_
  rintro e1 w1 ⟨rfl, hq1⟩
  have Hbw1 := Lib.hid (below_next Hbw0.out hq1)
  obtain ⟨f1_0, f1_1, f1_2, f1_3, f1_4, f1_5, f1_6, f1_7, f1_8, f1_9, f1_10, f1_11, f1_12, f1_13, f1_14, f1_15, f1_16⟩ := facts17 (Hrow.out _ Hbw1.out)
  clear hq1 f0_0 f0_1 f0_2 f0_3 f0_4 f0_5 f0_6 f0_7 f0_8 f0_9 f0_10 f0_11 f0_12 f0_13 f0_14 f0_15 f0_16
  cases P1 with
  | false =>
    go_wp2_with fail
    go_ret
    exact ⟨by rw [HE2.out]; rfl, below_next hba Hbw1.out⟩
  | true =>
    go_wp2_with fail
    refine (C2.out _ Hbw1.out).mono ?_
    rintro e2 w2 ⟨rfl, hq2⟩
    have Hbw2 := Lib.hid (below_next Hbw1.out hq2)
    obtain ⟨f2_0, f2_1, f2_2, f2_3, f2_4, f2_5, f2_6, f2_7, f2_8, f2_9, f2_10, f2_11, f2_12, f2_13, f2_14, f2_15, f2_16⟩ := facts17 (Hrow.out _ Hbw2.out)
    clear hq2 f1_0 f1_1 f1_2 f1_3 f1_4 f1_5 f1_6 f1_7 f1_8 f1_9 f1_10 f1_11 f1_12 f1_13 f1_14 f1_15 f1_16
    cases P2 <;>
    · go_wp2_with fail
      go_ret
      exact ⟨by rw [HE2.out]; rfl, below_next hba Hbw2.out⟩
end Go.Proofs.YtplekbpmfaghbaaGreatDoor
