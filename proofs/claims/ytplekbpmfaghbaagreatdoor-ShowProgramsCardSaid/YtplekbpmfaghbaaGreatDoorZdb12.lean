/- My own texts CpDocF, ShowPrW, as far as this claim needs them. -/
import Derived.Test.YtplekbpmfaghbaaGreatDoorZd1
import Derived.Test.YtplekbpmfaghbaaGreatDoorZd2
import Derived.Test.YtplekbpmfaghbaaGreatDoorZd3
import Derived.Test.YtplekbpmfaghbaaGreatDoorZd4
import Derived.Test.YtplekbpmfaghbaaGreatDoorZd5
import Derived.Test.YtplekbpmfaghbaaGreatDoorZd6
import Derived.Test.YtplekbpmfaghbaaGreatDoorZd7
import Derived.Test.YtplekbpmfaghbaaGreatDoorZd8
import Derived.Test.YtplekbpmfaghbaaGreatDoorZd9
import Derived.Test.YtplekbpmfaghbaaGreatDoorZd10
import Derived.Test.YtplekbpmfaghbaaGreatDoorZd11
import Derived.Test.YtplekbpmfaghbaaGreatDoorZd12
import Derived.Test.YtplekbpmfaghbaaGreatDoorZd13
import Derived.Test.YtplekbpmfaghbaaGreatDoorZd14
import Derived.Test.YtplekbpmfaghbaaGreatDoorZd15
import Derived.Test.YtplekbpmfaghbaaGreatDoorZd16
import Derived.Test.YtplekbpmfaghbaaGreatDoorZd17
import Derived.Test.YtplekbpmfaghbaaGreatDoorZdb1
import Derived.Test.YtplekbpmfaghbaaGreatDoorZdb2
import Derived.Test.YtplekbpmfaghbaaGreatDoorZdb4
import Derived.Test.YtplekbpmfaghbaaGreatDoorZdb5
import Derived.Test.YtplekbpmfaghbaaGreatDoorZdb7
import Derived.Test.YtplekbpmfaghbaaGreatDoorZdb11
import Derived.WalkKit
import Derived.WalkSpells
import Derived.WalkLawsBesides
import Derived.MapKept
import Derived.BigQuiet
import Derived.Lib.Hide
import Derived.Deep.Draws
import Derived.Deep.QuietTactic
import Derived.Deep.MidRow
import Derived.Great.Walk
import Derived.Great.BuildSlice
import Derived.Deep.RegionHeld3
import Derived.Lib.CutLaws
import Derived.Test.YtplekbpmfaghbaaGreatDoorProg
import Derived.Deep.RegionWith
import Derived.RangeFuncBox
import Derived.RangeFuncNested
import Derived.RangeFuncLeaves
import Derived.OwnWalkIn
import Derived.TacticsInMore
import Derived.RegionIn
import Derived.LoopNIn
import Derived.LoopIn
import Derived.Shelf.Abstract
import Derived.Shelf.Strings.BuilderK
set_option linter.unusedVariables false
set_option linter.unusedSimpArgs false
namespace Go.Proofs.YtplekbpmfaghbaaGreatDoor
open Go.RowKit
def CopyFar (d : Nat) (x : GProg) (w0 w : World) (r : Ending) (w' : World) : Prop :=
  ∃ a b : Hd, r = .returned (.agg (progC a b).toArray) ∧ (∀ S : List Nat, (∀ b ∈ S, w0.heap.size ≤ b ∧ b < w.heap.size) → SliceFar Enc.decl w' S a.A a.n a.c x.decls ∧ SliceFar (Enc.rule d) w' S b.A b.n b.c x.rules) ∧ Below w.heap.size w w'
set_option maxRecDepth 100000 in
set_option maxHeartbeats 8000000 in
theorem copyProg_far (d : Nat) (x : GProg) (a b : Hd) (w0 w : World) (hk0 : ProgAt d w0 w0.heap.size x a b) (hb0 : Below w0.heap.size w0 w) (hs : SmProg x) :
    Calls Tryz.prog 31 #[.agg (progC a b).toArray] w (CopyFar d x w0 w) := by
  have hk := hk0.keep hb0
  have HK0 := Lib.hid hk0
  have HB0 := Lib.hid hb0
  clear hk0 hb0
  have mixed : Tryz.prog.follows .mixedOrders = true := by kernel_rfl
  have hn := hk.decls.bound
  have hm := hk.rules.bound
  have Hlen := Lib.hid hk.decls.1
  have Hlen2 := Lib.hid hk.rules.1
  have HS := Lib.hid hs
  have HK := Lib.hid hk
  obtain ⟨P, HP⟩ : ∃ P : Ending → World → Prop, Hid (P = CopyFar d x w0 w) := ⟨_, rfl⟩
  rw [← HP.out]
  obtain ⟨A, n, c⟩ := a
  obtain ⟨B, m, e⟩ := b
  have hg0 : (((w.alloc (.cells (progC ⟨A, n, c⟩ ⟨B, m, e⟩).toArray 74)).alloc (.cells #[.slice none 0 0, .slice none 0 0] 79)).alloc (.cells #[.slice none 0 0, .slice none 0 0] 79)).heap[w.heap.size]? = some (.cells (progC ⟨A, n, c⟩ ⟨B, m, e⟩).toArray 74 (0, 0)) := heapOld (heapOld (heapNew rfl))
  have hg1 : (((w.alloc (.cells (progC ⟨A, n, c⟩ ⟨B, m, e⟩).toArray 74)).alloc (.cells #[.slice none 0 0, .slice none 0 0] 79)).alloc (.cells #[.slice none 0 0, .slice none 0 0] 79)).heap[w.heap.size + 1]? = some (.cells #[.slice none 0 0, .slice none 0 0] 79 (0, 0)) := heapOld (heapNew (by simp))
  have hg2 : (((w.alloc (.cells (progC ⟨A, n, c⟩ ⟨B, m, e⟩).toArray 74)).alloc (.cells #[.slice none 0 0, .slice none 0 0] 79)).alloc (.cells #[.slice none 0 0, .slice none 0 0] 79)).heap[w.heap.size + 2]? = some (.cells #[.slice none 0 0, .slice none 0 0] 79 (0, 0)) := heapNew (by simp)
  have hbw : Below w.heap.size w (((w.alloc (.cells (progC ⟨A, n, c⟩ ⟨B, m, e⟩).toArray 74)).alloc (.cells #[.slice none 0 0, .slice none 0 0] 79)).alloc (.cells #[.slice none 0 0, .slice none 0 0] 79)) := belowA (belowA (belowA (Below.refl _ _) _) _) _
  have hzw : (((w.alloc (.cells (progC ⟨A, n, c⟩ ⟨B, m, e⟩).toArray 74)).alloc (.cells #[.slice none 0 0, .slice none 0 0] 79)).alloc (.cells #[.slice none 0 0, .slice none 0 0] 79)).heap.size = w.heap.size + 3 := by simp
  obtain ⟨b0, b1⟩ := facts2 hg0
  dsimp only [Hd.v] at b0 b1
  clear hk hs
  show Calls Tryz.prog 31 #[.agg #[.slice A n c, .slice B m e]] w P
  go_enter Tryz.func31, Tryz.ntmps31
  go_wp2_with fail
  try simp only [Nat.add_assoc, Nat.reduceAdd]
  generalize hw3 : ((w.alloc _).alloc _).alloc _ = w3
  rw [hw3] at hg0 hg1 hg2 hbw hzw
  have HZ : Hid (w.heap.size + 3 ≤ w3.heap.size) := by show _ ≤ _; omega
  clear hzw hw3 b0 b1
  go_loopw [12] (fun i wr => ∃ (j c' : Nat) (A' : Option Addr) (L : List (GDecl × List Value)), j ≤ n ∧ i = .int .i64 j ∧ Hid (L.map (·.1) = x.decls.take j) ∧ Hid (∀ p ∈ L, Enc.decl.ok w0 w0.heap.size p.2 p.1) ∧ Hid (wr.ownsRow (w.heap.size + 3) 156 3 (.slice A' j c') j (L.flatMap (·.2))) ∧ Hid (wr.heap[w.heap.size + 2]? = some (.cells #[.slice A' j c', .slice none 0 0] 79 (0, 0))) ∧ Hid (wr.heap[w.heap.size + 1]? = some (.cells #[.slice none 0 0, .slice none 0 0] 79 (0, 0))) ∧
    Hid (wr.heap[w.heap.size]? = some (.cells (progC ⟨A, n, c⟩ ⟨B, m, e⟩).toArray 74 (0, 0))) ∧ Hid (Below w.heap.size w wr) ∧ w.heap.size + 3 ≤ wr.heap.size) (fun i _ => n - (intOf i).toNat)
  case atStart => exact ⟨0, 0, none, [], by omega, rfl, rfl, fun _ h => by (cases h), World.ownsRow_nil _ _ _ _, hg2, hg1, hg0, hbw, HZ.out⟩
  case round =>
    clear hg0 hg1 hg2 hbw
    obtain ⟨j, c', A', L, hj, rfl, HL, HF, HO, HG2, HG1, HG0, HB, hzr⟩ := hrel
    have i0 : (0 : Int) ≤ (j : Int) := by omega
    by_cases hlt : j < n
    · have i1 : (j : Int) < (n : Int) := by omega
      obtain ⟨b, o, t, aa, hAA, hb, ht, hat, v0, v1, v2⟩ := HK0.out.decls.decl_at hlt
      try simp only at hAA
      subst hAA
      obtain ⟨aA, an, ac⟩ := aa
      dsimp only [Hd.v] at v0 v1 v2
      have x0 := below_cell (below_next HB0.out HB.out) v0
      have x1 := below_cell (below_next HB0.out HB.out) v1
      have x2 := below_cell (below_next HB0.out HB.out) v2
      have HT : Hid (x.decls.take (j + 1) = x.decls.take j ++ [t]) := by show _ = _; rw [List.take_add_one, ht.out]; rfl
      have hba : Below wr.heap.size wr (wr.alloc (.cells #[.string t.rel, .slice aA an ac, .int .i64 t.pos] 155)) := belowA (Below.refl _ _) _
      have hn1 : j + 1 ≤ 1500 := by have := HS.out.decls; have := Hlen.out; omega
      have hgA := heapOld (o := .cells #[.string t.rel, .slice aA an ac, .int .i64 t.pos] 155) HG2.out
      have hg1A := heapOld (o := .cells #[.string t.rel, .slice aA an ac, .int .i64 t.pos] 155) HG1.out
      have hg0A := heapOld (o := .cells #[.string t.rel, .slice aA an ac, .int .i64 t.pos] 155) HG0.out
      have hxA : (wr.alloc (.cells #[.string t.rel, .slice aA an ac, .int .i64 t.pos] 155)).heap[wr.heap.size]? = some (.cells #[.string t.rel, .slice aA an ac, .int .i64 t.pos] 155 (0, 0)) := heapNew rfl
      obtain ⟨r0, r1⟩ := facts2 hgA
      obtain ⟨z0, z1, z2⟩ := facts3 hxA
      have HOA := own_below HO.out hba
      obtain ⟨A2, c2, w4, hrun, hown2, hb4, hk4⟩ := decl_push HOA t aA an ac (by omega) (by simp; omega)
      simp only [World.size_alloc] at hrun
      have HRun := Lib.hid hrun
      have hbA := below_next HB.out hba
      have hgB := hk4 _ _ _ _ hgA (by decide)
      have hg1B := hk4 _ _ _ _ hg1A (by decide)
      have hg0B := hk4 _ _ _ _ hg0A (by decide)
      have hz4 : wr.heap.size + 1 ≤ w4.heap.size := by have := hb4.size; simp at this; exact this
      have HB2 : Hid (Below w.heap.size w (w4.setCell ⟨w.heap.size + 2, 0, none⟩ (.slice A2 (j + 1) c2))) := (hbA.trans (hb4.mono (by omega))).setCell (by show w.heap.size ≤ w.heap.size + 2; omega) _
      have HO2 : Hid ((w4.setCell ⟨w.heap.size + 2, 0, none⟩ (.slice A2 (j + 1) c2)).ownsRow (w.heap.size + 3) 156 3 (.slice A2 (j + 1) c2) (j + 1) ((L ++ [(t, declC t ⟨aA, an, ac⟩)]).flatMap (·.2))) := by
        have h9 := own_out' hown2 (set_out w4 (w.heap.size + 2) 0 (.slice A2 (j + 1) c2)) (fun b hb hb' => by have := (own_blk hown2 hb).1; simp at hb'; omega)
        show World.ownsRow _ _ _ _ _ _ _
        simpa using h9
      have HL2 : Hid ((L ++ [(t, declC t ⟨aA, an, ac⟩)]).map (·.1) = x.decls.take (j + 1)) := by show _ = _; rw [HT.out, List.map_append, HL.out]; rfl
      have HF2 : Hid (∀ p ∈ L ++ [(t, declC t ⟨aA, an, ac⟩)], Enc.decl.ok w0 w0.heap.size p.2 p.1) := fun p hp => by
        rcases List.mem_append.1 hp with hp | hp
        · exact HF.out p hp
        · obtain rfl : p = (t, declC t ⟨aA, an, ac⟩) := by simpa using hp
          exact ⟨_, rfl, hat⟩
      have HGa := Lib.hid (set_first (v := .slice A2 (j + 1) c2) hgB)
      have HGb := Lib.hid ((World.heap_setCells_other' (W := w4) (g := w.heap.size + 2) (i := 0) (v := .slice A2 (j + 1) c2) (by omega)).trans hg1B)
      have HGc := Lib.hid ((World.heap_setCells_other' (W := w4) (g := w.heap.size + 2) (i := 0) (v := .slice A2 (j + 1) c2) (by omega)).trans hg0B)
      have hzs : (w4.setCell ⟨w.heap.size + 2, 0, none⟩ (.slice A2 (j + 1) c2)).heap.size = w4.heap.size := World.size_setCell'
      have HZ2 : Hid (w.heap.size + 3 ≤ (w4.setCell ⟨w.heap.size + 2, 0, none⟩ (.slice A2 (j + 1) c2)).heap.size) := by show _ ≤ _; rw [hzs]; omega
      have k1 : w4.cell? ⟨w.heap.size + 2, 0, none⟩ = some (.slice A' j c') := (cell_of_row _ _ 0 _ _ _ hgB).trans rfl
      have k2 : w4.frozen? ⟨w.heap.size + 2, 0, none⟩ = false := frozen_of_row _ _ _ _ _ hgB
      clear hrun hown2 hk4 hgA hg1A hg0A hgB hg1B hg0B hb4 hba hbA HOA HO ht hzs hxA HG0 HG1 HG2 hat v0 v1 v2 HB
      go_wp2_with (at_builtin; refine wpList_append_run (o := ⟨some 26, _, _, _, _, _⟩) rfl _ _ _ rfl _ _ rfl rfl (HRun.out _) ?_)
      go_roundw
      case rel => exact ⟨j + 1, c2, A2, _, by omega, by go_num, HL2, HF2, HO2, HGa, HGb, HGc, HB2, HZ2.out⟩
      case measure => simp [intOf]; omega
    · have i1 : ¬ (j : Int) < (n : Int) := by omega
      have hjn : j = n := by omega
      subst hjn
      have hll := Hlen.out
      have HDl : Hid (L.map (·.1) = x.decls) := by show _ = _; rw [HL.out, List.take_of_length_le (by omega)]
      have HLl : Hid (L.length = j) := by
        have h9 := congrArg List.length HDl.out
        simp at h9
        show _ = _
        omega
      obtain ⟨r0, r1⟩ := facts2 HG0.out
      dsimp only [Hd.v] at r0 r1
      have HG1' := HG1
      obtain ⟨b1z, Hb1⟩ : ∃ b1z, Hid (wr.heap.size = b1z) := ⟨_, rfl⟩
      have HDb : Hid (∀ bb, (Value.slice A' j c').ownBlock = some bb → w.heap.size + 3 ≤ bb ∧ bb < b1z) := fun bb hbb => by
        have h9 := own_blk HO.out hbb
        have := Hb1.out
        omega
      have hz1 : w.heap.size + 3 ≤ b1z := by have := Hb1.out; omega
      have HzW : Hid (b1z ≤ wr.heap.size) := by show _ ≤ _; rw [Hb1.out]; exact Nat.le_refl _
      clear HL HG0 hll
      go_wp2_with fail
      go_loopw [32] (fun i wr => ∃ (j2 c2 : Nat) (A2 : Option Addr) (L2 : List (GRule × List Value)), j2 ≤ m ∧ i = .int .i64 j2 ∧ Hid (L2.map (·.1) = x.rules.take j2) ∧ Hid (Rows (Enc.rule d) b1z 46 wr A2 j2 c2 L2) ∧ wr.heap[w.heap.size + 2]? = some (.cells #[.slice A' j c', .slice A2 j2 c2] 79 (0, 0)) ∧ wr.heap[w.heap.size + 1]? = some (.cells #[.slice none 0 0, .slice none 0 0] 79 (0, 0)) ∧
        Hid (wr.ownsRow (w.heap.size + 3) 156 3 (.slice A' j c') j (L.flatMap (·.2))) ∧ Below w.heap.size w wr ∧ b1z ≤ wr.heap.size) (fun i _ => m - (intOf i).toNat)
      case atStart => exact ⟨0, 0, none, [], by omega, rfl, rfl, Rows.nil _ _ _, HG2.out, HG1.out, HO, HB.out, HzW.out⟩
      case round =>
        clear HG1 HG2 HB HO HzW
        obtain ⟨j2, c2, A2, L2, hj2, rfl, HL, HR, hg, hg1, HOd, hbr, hzr2⟩ := hrel
        have q0 : (0 : Int) ≤ (j2 : Int) := by omega
        by_cases hlt2 : j2 < m
        · have q1 : (j2 : Int) < (m : Int) := by omega
          obtain ⟨bb, o, k, ak, bk, hAA, hbb, hk', hkl, y0, y1, y2, y3, y4, y5⟩ := (HK.out.keep hbr).rules.rule_at hlt2
          try simp only at hAA
          subst hAA
          have hkm := Lib.hid (List.mem_of_getElem? hk'.out)
          have HT : Hid (x.rules.take (j2 + 1) = x.rules.take j2 ++ [k]) := by show _ = _; rw [List.take_add_one, hk'.out]; rfl
          have hba : Below wr.heap.size wr (wr.alloc (.cells (ruleC k ak bk).toArray 27)) := belowA (Below.refl _ _) _
          have HC := Lib.hid (fun (W : World) (h : Below (wr.alloc (.cells (ruleC k ak bk).toArray 27)).heap.size (wr.alloc (.cells (ruleC k ak bk).toArray 27)) W) => copyRule_any d k ak bk W ((hkl.keep hba).keep h) (HS.out.each k hkm.out))
          have hn1 : j2 + 1 ≤ 1500 := by have := HS.out.rules; have := Hlen2.out; omega
          have hx2 : (wr.alloc (.cells (ruleC k ak bk).toArray 27)).heap[wr.heap.size]? = some (.cells (ruleC k ak bk).toArray 27 (0, 0)) := heapNew rfl
          have hgA := heapOld (o := .cells (ruleC k ak bk).toArray 27) hg
          have hg1A := heapOld (o := .cells (ruleC k ak bk).toArray 27) hg1
          have HRA := Lib.hid (HR.out.out (Out.of_below hba []) (fun _ h _ => by cases h))
          have hbA := below_next hbr hba
          have HOdA := Lib.hid (own_below HOd.out hba)
          have HoG : Hid (w.heap.size + 2 ∉ (Value.slice A2 j2 c2).ownBlock.toList) := fun hm => by
            have := (own_blk HR.out.own (b := w.heap.size + 2) (by simpa using hm)).1
            omega
          have HoX : Hid (wr.heap.size ∉ (Value.slice A2 j2 c2).ownBlock.toList) := fun hm => by
            have := (own_blk HR.out.own (b := wr.heap.size) (by simpa using hm)).2
            omega
          have HOr : Hid ((wr.alloc (.cells (ruleC k ak bk).toArray 27)).ownsRow b1z 46 6 (.slice A2 j2 c2) j2 (L2.flatMap (·.2))) := HRA.out.own
          have hrs : (Tryz.prog.info? 27).map (·.size) = some (ruleC k ak bk).length := by show _ = some 6; kernel_rfl
          have Hrs := Lib.hid hrs
          clear hk' hba hkl HR hg hg1 HOd hrs
          go_wp2_with fail
          refine push_region (n := 45) mixed rfl rfl (by kernel_rfl) (by kernel_rfl) (by kernel_rfl) (w.heap.size + 2) wr.heap.size 1 b1z 46 6 88 j2 (.agg zrC.toArray) A2 c2 (L2.flatMap (·.2)) (ruleC k ak bk) #[.slice A' j c', .slice A2 j2 c2]
            (fun vcs W => (Enc.rule d).ok (sans W (List.range (wr.heap.size + 1))) W.heap.size vcs k) (fun S vcs W => (Enc.rule d).ok (sans W (List.range (wr.heap.size + 1) ++ S)) W.heap.size vcs k) _
            rfl rfl hgA hx2 rfl (fun w => by simp [go_sem]) Tryz.underlying77 (by kernel_rfl) Tryz.underlying27 rfl Hrs.out (by kernel_rfl) rfl (by decide) (by decide) HOr.out HoG.out HoX.out (by simp [maxLen]; omega) (by omega) (by simp; omega) _ Tryz.func14 (by kernel_rfl) (by kernel_rfl) ?_ ?_ ?_ ?_ ?_ ?_
          · intro vcs W W' h hb
            exact (Enc.rule d).mono hb.size ((Out.of_below hb []).kept (fun _ h _ => by cases h) (fun _ h _ => h)) h
          · intro S vcs W W' h hb
            exact (Enc.rule d).mono hb.size ((Out.of_below hb []).kept (fun _ h _ => by cases h) (fun _ h _ => h)) h
          · intro S vcs W W' h hz ho hS
            refine (Enc.rule d).mono ho.size (ho.kept (T := List.range (wr.heap.size + 1)) (fun b hb _ => ?_) (fun b hb hl => ?_)) h
            · have := (own_blk HOr.out (b := b) (by simpa using hb)).2
              simp at this
              exact List.mem_range.2 this
            · rcases List.mem_append.1 hb with hb | hb
              · exact hb
              · rcases hS b hb with h1 | h1
                · have := (own_blk HOr.out (b := b) (by simpa using h1)).2
                  simp at this
                  exact List.mem_range.2 this
                · omega
          · intro vcs W W' h hz ho
            refine (Enc.rule d).mono ho.size (ho.kept (T := List.range (wr.heap.size + 1)) (fun b hb _ => ?_) (fun b hb hl => hb)) h
            have := (own_blk HOr.out (b := b) (by simpa using hb)).2
            simp at this
            exact List.mem_range.2 this
          · intro W hb
            refine (HC.out W hb).mono ?_
            rintro r w' ⟨a2, p2, rfl, hs, hb2⟩
            refine ⟨ruleC k a2 p2, rfl, rfl, by simp [Value.oneCell'], ?_, hb2⟩
            refine ⟨a2, p2, rfl, hs.mono' (Nat.le_refl _) ((Out.refl [] w').kept (fun _ h _ => by cases h) (fun b hb' _ => List.mem_range.2 ?_))⟩
            have h1 := List.mem_range.1 hb'
            have h2 := hb.size
            simp at h2
            omega
          · intro u W vcs A3 c3 hl hfar hown hblk ho hgW
            have hsA : (wr.alloc (.cells (ruleC k ak bk).toArray 27)).heap.size = wr.heap.size + 1 := by simp
            have hR2 := HRA.out.push (by rw [hsA]; omega) hown hblk ho (by rw [hsA]; exact hfar)
            have HR2 := Lib.hid (hR2.out (set_out W (w.heap.size + 2) 1 (.slice A3 (j2 + 1) c3)) (fun b hb _ => by simp at hb; omega))
            have HL2 : Hid ((L2 ++ [(k, vcs)]).map (·.1) = x.rules.take (j2 + 1)) := by show _ = _; rw [HT.out, List.map_append, HL.out]; rfl
            have hG2 : (W.setCell ⟨w.heap.size + 2, 1, none⟩ (.slice A3 (j2 + 1) c3)).heap[w.heap.size + 2]? = some (.cells #[.slice A' j c', .slice A3 (j2 + 1) c3] 79 (0, 0)) := set_one hgW
            have hnot : ∀ bb, bb < b1z → bb ∉ (Value.slice A2 j2 c2).ownBlock.toList := fun bb hbb hm => by
              have := (own_blk HOr.out (b := bb) (by simpa using hm)).1
              omega
            have hG1 : (W.setCell ⟨w.heap.size + 2, 1, none⟩ (.slice A3 (j2 + 1) c3)).heap[w.heap.size + 1]? = some (.cells #[.slice none 0 0, .slice none 0 0] 79 (0, 0)) :=
              (World.heap_setCells_other' (by omega)).trans ((ho.block _ (Array.getElem?_eq_some_iff.1 hg1A).1 (hnot _ (by omega))).trans hg1A)
            have HOd2 : Hid ((W.setCell ⟨w.heap.size + 2, 1, none⟩ (.slice A3 (j2 + 1) c3)).ownsRow (w.heap.size + 3) 156 3 (.slice A' j c') j (L.flatMap (·.2))) :=
              own_out' (own_out' HOdA.out ho (fun b hb => hnot b (HDb.out b hb).2)) (set_out W (w.heap.size + 2) 1 _) (fun b hb hb' => by have := (HDb.out b hb).1; simp at hb'; omega)
            have hzz : wr.heap.size + 1 ≤ W.heap.size := by rw [← hsA]; exact ho.size
            have hB2 : Below w.heap.size w (W.setCell ⟨w.heap.size + 2, 1, none⟩ (.slice A3 (j2 + 1) c3)) :=
              (hbA.trans (ho.below (B := w.heap.size) (fun b hb => by
                have := (own_blk HOr.out (b := b) (by simpa using hb)).1
                omega) (by rw [hsA]; omega))).setCell (by show w.heap.size ≤ w.heap.size + 2; omega) _
            have hzs : (W.setCell ⟨w.heap.size + 2, 1, none⟩ (.slice A3 (j2 + 1) c3)).heap.size = W.heap.size := World.size_setCell'
            have HZ2 := Lib.hid hzs
            clear hR2 hgW hfar hown hblk ho hsA hgA hg1A hx2 hzs hnot
            simp only [List.foldl_cons, List.foldl_nil, Act.put, List.setIfInBounds_toArray, List.set_cons_zero, List.set_cons_succ]
            generalize W.setCell ⟨w.heap.size + 2, 1, none⟩ (.slice A3 (j2 + 1) c3) = W3 at *
            go_wp2_with fail
            go_roundw
            case rel => exact ⟨j2 + 1, c3, A3, _, by omega, by go_num, HL2, HR2, hG2, hG1, HOd2, hB2, by rw [HZ2.out]; omega⟩
            case measure => simp [intOf]; omega
        · have q1 : ¬ (j2 : Int) < (m : Int) := by omega
          have hjn : j2 = m := by omega
          subst hjn
          have hll := Hlen2.out
          obtain ⟨c0, c1⟩ := facts2 hg
          have hSr := setRow_at (cs' := #[.slice A' j c', .slice A2 j2 c2]) hg1
          obtain ⟨s0, s1⟩ := facts2 hSr
          have hbS : Below w.heap.size w (wr.setRow (w.heap.size + 1) #[.slice A' j c', .slice A2 j2 c2]) := ⟨hbr.os, hbr.tape, hbr.output, by rw [setRow_size]; exact hbr.size, fun x hx => (setRow_ne (by omega)).trans (hbr.block x hx)⟩
          have hoS : Out [w.heap.size + 1] wr (wr.setRow (w.heap.size + 1) #[.slice A' j c', .slice A2 j2 c2]) := ⟨rfl, rfl, rfl, by rw [setRow_size]; exact Nat.le_refl _, fun x _ hx => setRow_ne (by simpa using hx)⟩
          have hR3 := HR.out.out hoS (fun b hb _ => by simp at hb; omega)
          have hR4 := hR3.is (base := w.heap.size) (by simpa [reachN] using hm) (by omega)
          rw [HL.out, List.take_of_length_le (by omega)] at hR4
          have hO3 := own_out' HOd.out hoS (fun b hb hb' => by have := (HDb.out b hb).1; simp at hb'; omega)
          have hpost : P (.returned (.agg #[.slice A' j c', .slice A2 j2 c2])) (wr.setRow (w.heap.size + 1) #[.slice A' j c', .slice A2 j2 c2]) := by
            rw [HP.out]
            refine ⟨⟨A', j, c'⟩, ⟨A2, j2, c2⟩, rfl, fun S hS => ⟨?_, ?_⟩, hbS⟩
            · have h1 := own_sans (S := S) hO3 (fun b hb => by have := (hS b hb).2; omega)
              have hz0 := (below_next HB0.out hbS).size
              have h2 := rows_is (E := Enc.decl) h1 HLl.out (by have := HLl.out; simpa [reachN] using hn) (fun p hp => Enc.decl.mono (B := w0.heap.size) (by rw [sans_size]; exact hz0) (fun b hb cs t fr hcs _ => by rw [sans_out (fun hm => by have := hS b hm; omega), (below_next HB0.out hbS).block b hb, hcs]) (HF.out p hp))
              rw [HDl.out, sans_size] at h2
              exact h2
            · exact hR4.out (Out.refl [] _) (fun _ h _ => by cases h) (fun b hb _ => List.mem_range.2 (hS b hb).2)
          have HPo := Lib.hid hpost
          clear hR3 hR4 HR HL hll hpost hoS hbS hSr HP hO3
          go_wp2_with (refine wpList_store_rowTo rfl 79 (.tmp 2) (.tmp 44) rfl rfl (w.heap.size + 1) #[.slice A' j c', .slice A2 j2 c2] rfl rfl 79 #[.slice none 0 0, .slice none 0 0] hg1 (by kernel_rfl) rfl (by simp [Value.oneCell']) ?_)
          refine bodyPost_ret (v := .agg #[.slice A' j c', .slice A2 j2 c2]) ?_ rfl HPo.out
          simp [results, Tryz.results31, go_sem, s0, s1]
end Go.Proofs.YtplekbpmfaghbaaGreatDoor

namespace Go.Proofs.YtplekbpmfaghbaaGreatDoor
open Go.RowKit Go.Shelf
attribute [local go_sem] Oper.semAt_some
theorem stop10 (x : Int) : ∃ k : Nat, 1 ≤ k ∧ k ≤ 10 ∧ wrap64 (1 + wrap64 ((IntKind.u64.wrap x).tmod 10)) = (k : Int) := by
  have h0 : 0 ≤ IntKind.u64.wrap x := by simp [IntKind.wrap, IntKind.signed, IntKind.bits]; omega
  rw [Int.tmod_eq_emod_of_nonneg h0]
  generalize IntKind.u64.wrap x = q at h0
  refine ⟨(1 + q % 10).toNat, by omega, by omega, ?_⟩
  unfold wrap64; omega
abbrev prg (A1 : Option Addr) (n1 c1 : Nat) (A2 : Option Addr) (n2 c2 : Nat) : Array Value := #[.slice A1 n1 c1, .slice A2 n2 c2]
/-- the boxes of ShowPrograms -/
structure SP (w w4 : World) (bp bs br bm bl bn : Nat) (A1 : Option Addr) (n1 c1 : Nat) (A2 : Option Addr) (n2 c2 : Nat) (B1 : Option Addr) (m1 d1 : Nat) (B2 : Option Addr) (m2 d2 : Nat) (st : Int) (X : Option Addr) (xc : Nat) (L : List (List UInt8)) (nn : Int) (W : World) : Prop where
  rp : W.heap[bp]? = some (.cells (prg A1 n1 c1 A2 n2 c2) 74 (0, 0))
  rs : W.heap[bs]? = some (.cells #[.int .i64 st] 3 (0, 0))
  rr : W.heap[br]? = some (.cells #[.bool false] 4 (0, 0))
  rm : W.heap[bm]? = some (.cells (prg B1 m1 d1 B2 m2 d2) 79 (0, 0))
  rl : W.heap[bl]? = some (.cells #[.slice X L.length xc] 81 (0, 0))
  rn : W.heap[bn]? = some (.cells #[.int .i64 nn] 3 (0, 0))
  own : W.ownsRow (bl + 1) 9 1 (.slice X L.length xc) L.length (L.map fun s => .string (bytes s))
  ne : (Value.slice X L.length xc).ownBlock ≠ some bn
  bw : Below w.heap.size w W
  om : Out [bs] w4 W
section
variable {w w4 : World} {bp bs br bm bl bn : Nat} {A1 : Option Addr} {n1 c1 : Nat} {A2 : Option Addr} {n2 c2 : Nat} {B1 : Option Addr} {m1 d1 : Nat} {B2 : Option Addr} {m2 d2 : Nat} {st : Int} {X : Option Addr} {xc : Nat} {L : List (List UInt8)} {nn : Int} {W W' : World}
theorem Out.soft {S : List Nat} {u V V' : World} {B : Nat} (h : Out S u V) (hs : Soft B V V') (hB : u.heap.size ≤ B) : Out S u V' :=
  ⟨hs.os.trans h.os, hs.tape.trans h.tape, hs.output.trans h.output, Nat.le_trans h.size hs.size, fun b hb hS => by
    have h1 := h.block b hb hS
    rw [Array.getElem?_eq_getElem hb] at h1 ⊢
    exact hs.same b _ h1 (.inl (by omega))⟩
theorem SP.soft {B : Nat} (h : SP w w4 bp bs br bm bl bn A1 n1 c1 A2 n2 c2 B1 m1 d1 B2 m2 d2 st X xc L nn W) (hs : Soft B W W') (hB : w.heap.size ≤ B) (hB4 : w4.heap.size ≤ B) : SP w w4 bp bs br bm bl bn A1 n1 c1 A2 n2 c2 B1 m1 d1 B2 m2 d2 st X xc L nn W' :=
  ⟨hs.row h.rp, hs.row h.rs, hs.row h.rr, hs.row h.rm, hs.row h.rl, hs.row h.rn, hs.own h.own, h.ne, h.bw.trans (hs.below hB h.bw.size), h.om.soft hs hB4⟩
theorem SP.on (h : SP w w4 bp bs br bm bl bn A1 n1 c1 A2 n2 c2 B1 m1 d1 B2 m2 d2 st X xc L nn W) (hb : Below W.heap.size W W') : SP w w4 bp bs br bm bl bn A1 n1 c1 A2 n2 c2 B1 m1 d1 B2 m2 d2 st X xc L nn W' :=
  h.soft (Soft.of_below W.heap.size hb) h.bw.size h.om.size
theorem SP.setN (h : SP w w4 bp bs br bm bl bn A1 n1 c1 A2 n2 c2 B1 m1 d1 B2 m2 d2 st X xc L nn W) (h1 : bp < bn) (h2 : bs < bn) (h3 : br < bn) (h4 : bm < bn) (h5 : bl < bn) (h6 : w.heap.size ≤ bn) (h7 : w4.heap.size ≤ bn) (k : Int) : SP w w4 bp bs br bm bl bn A1 n1 c1 A2 n2 c2 B1 m1 d1 B2 m2 d2 st X xc L k (W.setCell ⟨bn, 0, none⟩ (.int .i64 k)) :=
  ⟨(World.heap_setCells_other' (by omega)).trans h.rp, (World.heap_setCells_other' (by omega)).trans h.rs, (World.heap_setCells_other' (by omega)).trans h.rr, (World.heap_setCells_other' (by omega)).trans h.rm, (World.heap_setCells_other' (by omega)).trans h.rl, set_zero h.rn,
    own_out' h.own (set_out W bn 0 (.int .i64 k)) (fun b hb hm => by simp at hm; exact h.ne (hm ▸ hb)), h.ne, h.bw.setCell h6 _, h.om.trans (set_out W bn 0 (.int .i64 k)) (fun b hb hl => by simp at hb; omega)⟩
theorem SP.start (rp : W.heap[bp]? = some (.cells (prg A1 n1 c1 A2 n2 c2) 74 (0, 0))) (rs : W.heap[bs]? = some (.cells #[.int .i64 nn] 3 (0, 0))) (rr : W.heap[br]? = some (.cells #[.bool false] 4 (0, 0))) (rm : W.heap[bm]? = some (.cells (prg B1 m1 d1 B2 m2 d2) 79 (0, 0))) (rl : W.heap[bl]? = some (.cells #[.slice X L.length xc] 81 (0, 0)))
    (own : W.ownsRow (bl + 1) 9 1 (.slice X L.length xc) L.length (L.map fun s => .string (bytes s))) (bw : Below w.heap.size w W) (om : Below w4.heap.size w4 W) (h0 : w.heap.size ≤ bs) (h1 : bp ≠ bs) (h2 : br ≠ bs) (h3 : bm ≠ bs) (h4 : bl ≠ bs) (h5 : bs < bl) :
    SP w w4 bp bs br bm bl W.heap.size A1 n1 c1 A2 n2 c2 B1 m1 d1 B2 m2 d2 st X xc L 0 ((W.setCell ⟨bs, 0, none⟩ (.int .i64 st)).alloc (.cells #[.int .i64 0] 3)) := by
  have hz : (W.setCell ⟨bs, 0, none⟩ (.int .i64 st)).heap.size = W.heap.size := World.size_setCell'
  refine ⟨heapOld ((World.heap_setCells_other' h1).trans rp), heapOld (set_zero rs), heapOld ((World.heap_setCells_other' h2).trans rr), heapOld ((World.heap_setCells_other' h3).trans rm), heapOld ((World.heap_setCells_other' h4).trans rl), heapNew hz, ?_, ?_, ?_, ?_⟩
  · exact own_below (own_out' own (set_out W bs 0 (.int .i64 st)) (fun b hb hm => by have := (own_blk own hb).1; simp at hm; omega)) (belowA (Below.refl _ _) _)
  · intro e
    have := (own_blk own e).2
    omega
  · exact belowA (bw.setCell h0 _) _
  · exact ((Out.of_below om [bs]).trans (set_out W bs 0 (.int .i64 st)) (fun b hb _ => hb)).trans (Out.of_below (belowA (Below.refl _ _) _) []) (by simp)
theorem SP.line (h : SP w w4 bp bs br bm bl bn A1 n1 c1 A2 n2 c2 B1 m1 d1 B2 m2 d2 st X xc L nn W) {k : Nat} (hk : k < L.length) : ∃ b s, X = some ⟨b, 0, none⟩ ∧ Hid (L[k]? = some s) ∧ W.cell? ⟨b, k, none⟩ = some (.string (bytes s)) := by
  rcases h.own.2 with ⟨he, h0⟩ | ⟨g, cap, cur, hv, hg, hh, h1, h2, h3, h4⟩
  · omega
  · injection hv with hv1 hv2 hv3
    have hs : L[k]? = some L[k] := List.getElem?_eq_getElem hk
    refine ⟨g, L[k], hv1, hs, ?_⟩
    have h5 := congrArg (fun l => l[k]?) h4
    simp only [List.getElem?_take, if_pos (show k < L.length * 1 by omega), List.getElem?_map, hs, Option.map_some] at h5
    rw [cell_of_row _ _ _ _ _ _ hh, ← Array.getElem?_toList]
    exact h5
end
theorem linesF_text {p : GProg} (k : Nat) : (textS ((linesF p).take k)).length ≤ 9600000000096 := by
  unfold linesF
  by_cases h : formedB p = true
  · rw [if_pos h]; exact formed_text h k
  · rw [if_neg h]; simp [textS]
theorem linesF_line {p : GProg} : ∀ s ∈ linesF p, s.length ≤ 100000000000 := by
  unfold linesF
  by_cases h : formedB p = true
  · rw [if_pos h]; exact formed_line h
  · rw [if_neg h]; intro s hs; cases hs
theorem linesF_len {p : GProg} : (linesF p).length ≤ 96 := by
  unfold linesF
  by_cases h : formedB p = true
  · rw [if_pos h]; exact formed_len h
  · rw [if_neg h]; simp
/-- what comes of a program -/
theorem progO_F (p : GProg) : (formedB p = false ∧ progO p = ([], 2)) ∨ (formedB p = true ∧ 4000 < (textS (linesF p)).length ∧ progO p = ([], 3)) ∨ (formedB p = true ∧ ¬ 4000 < (textS (linesF p)).length ∧ progO p = (textS (linesF p), 0)) := by
  unfold progO linesF
  cases h : formedB p with
  | false => exact .inl ⟨rfl, rfl⟩
  | true =>
    right
    by_cases h4 : 4000 < (textS (linesS p)).length
    · exact .inl ⟨rfl, h4, if_pos h4⟩
    · exact .inr ⟨rfl, h4, if_neg h4⟩
end Go.Proofs.YtplekbpmfaghbaaGreatDoor
