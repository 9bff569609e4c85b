/- The document's Components: the walk. -/
import Derived.Test.YtdbpbchhkdconaaScDc
namespace Go.Proofs.Ytdbpbchhkdconaa
open Go.RowKit

set_option maxRecDepth 100000 in
set_option maxHeartbeats 16000000 in
theorem refComps_any (N : Nat) (hN : N ≤ 1000) (A : Option Addr) (m c : Nat) (l : List GEdge) (w : World) (h : SliceIs Enc.edge w w.heap.size A m c l) (hw : ∀ e ∈ l, withinE e (N : Int) = true) :
    Calls Try.prog 16 #[.agg #[.int .i64 (N : Int), .slice A m c]] w (CompsPost N l w) := by
  have mixed : Try.prog.follows .mixedOrders = true := by kernel_rfl
  have cg0 : (w.alloc (.cells #[.int .i64 (N : Int), .slice A m c] 36)).cell? ⟨w.heap.size, 0, none⟩ = some (.int .i64 (N : Int)) := (cell_of_row _ _ 0 _ _ _ (heapNew (w := w) rfl)).trans rfl
  have cg1 : (w.alloc (.cells #[.int .i64 (N : Int), .slice A m c] 36)).cell? ⟨w.heap.size, 1, none⟩ = some (.slice A m c) := (cell_of_row _ _ 1 _ _ _ (heapNew (w := w) rfl)).trans rfl
  have hb0 : Below w.heap.size w (w.alloc (.cells #[.int .i64 (N : Int), .slice A m c] 36)) := belowA (Below.refl _ _) _
  have HTa := Lib.hid (table_any N hN A m c l _ (h.mono hb0.size hb0.block))
  have hg0 : (w.alloc (.cells #[.int .i64 (N : Int), .slice A m c] 36)).heap[w.heap.size]? = some (.cells #[.int .i64 (N : Int), .slice A m c] 36 (0, 0)) := heapNew rfl
  have HB0 := Lib.hid hb0
  have HG0 := Lib.hid hg0
  have HS := Lib.hid h
  have HW := Lib.hid hw
  have Hlen := Lib.hid h.1
  have hmb := h.bound
  obtain ⟨P, HP⟩ : ∃ P : Ending → World → Prop, Hid (P = CompsPost N l w) := ⟨_, rfl⟩
  rw [← HP.out]
  have HQ := Lib.hid (eqv_of hw)
  obtain ⟨tg, Htg⟩ : ∃ tg, Hid (tg = togN N (hasN l)) := ⟨_, rfl⟩
  have HQ2 : Hid (EqvN N tg) := by show EqvN N tg; rw [Htg.out]; exact HQ.out
  clear h hw hb0 hg0
  go_enter Try.func16, Try.ntmps16
  go_wp2_with fail
  refine HTa.out.mono ?_
  rintro e w1 ⟨At, ct, rfl, hst, hb1⟩
  have hsz1 := hb1.size
  have hw1 : w.heap.size < w1.heap.size := by have := hb1.size; simp at this; omega
  have c1 : w1.cell? ⟨w.heap.size, 0, none⟩ = some (.int .i64 (N : Int)) := below_cell hb1 cg0
  have HSt := Lib.hid hst
  have HB1 : Hid (Below w.heap.size w w1) := HB0.out.trans (hb1.mono HB0.out.size)
  have HG1 : Hid (w1.heap[w.heap.size]? = some (.cells #[.int .i64 (N : Int), .slice A m c] 36 (0, 0))) := (hb1.block _ (by simp)).trans HG0.out
  clear hst hb1 HB0 HG0 HTa cg0 cg1 hsz1
  have hmk := run_make_row' (P := Try.prog) 64 4 (.bool false) 1 Try.underlying64 info_bool rfl .i64 .i64 N (by omega) (by omega) w1
  rw [rowB_made] at hmk
  go_wp2_with fail
  have hb2 : Below w1.heap.size w1 (w1.alloc (.cells (rowB (fun _ => false) N) 4)) := belowA (Below.refl _ _) _
  have hr2 : (w1.alloc (.cells (rowB (fun _ => false) N) 4)).heap[w1.heap.size]? = some (.cells (rowB (fun _ => false) N) 4 (0, 0)) := heapNew rfl
  generalize w1.alloc (.cells (rowB (fun _ => false) N) 4) = V at hb2 hr2 hmk ⊢
  have HB2 := Lib.hid hb2
  have HR2 := Lib.hid hr2
  clear hb2 hr2 hmk c1
  go_loopw [5, 6, 7, 8, 9, 10, 11, 12] (fun s _ _ _ _ _ _ _ wr => ∃ (k : Nat) (Ao : Option Addr) (co : Nat) (outs : List (List Nat)) (d : Nat → Bool) (f : Nat), s = .slice Ao k co ∧ Hid (RowOf (Enc.slice Enc.nat) wr w1.heap.size 29 (List.range (w1.heap.size + 1) ++ blkOf Ao) Ao k co outs) ∧ Hid (w1.heap.size ∉ blkOf Ao) ∧ Hid (wr.heap[w1.heap.size]? = some (.cells (rowB d N) 4 (0, 0))) ∧ Hid (Whole N tg d) ∧ Hid (compsF N (eN l) tg N (fun _ => false) = outs ++ compsF N (eN l) tg f d) ∧ left N tg d ≤ f ∧ k + f ≤ N ∧ Hid (Below w1.heap.size w1 wr)) (fun s _ _ _ _ _ _ _ _ => N + 1 - sliceLen (some s))
  case atStart =>
    exact ⟨0, none, 0, [], _, N, rfl, RowOf.nil _, (show w1.heap.size ∉ blkOf none from by simp [blkOf]), HR2, (fun _ _ _ _ _ => rfl), rfl, left_most _ _ _, by omega, HB2⟩
  case round =>
    obtain ⟨k, Ao, co, outs, d, f, rfl, HRo, HDo, HRd, HWd, HF, hlf, hkf, HB⟩ := hrel
    have hsz := HB.out.size
    have HGr : Hid (wr.heap[w.heap.size]? = some (.cells #[.int .i64 (N : Int), .slice A m c] 36 (0, 0))) := (HB.out.block _ hw1).trans HG1.out
    have c0 : wr.cell? ⟨w.heap.size, 0, none⟩ = some (.int .i64 (N : Int)) := (cell_of_row _ _ 0 _ _ _ HGr.out).trans rfl
    obtain ⟨pr, Hpr⟩ : ∃ pr : Nat → Bool, Hid (pr = fun a => !d a && readyN (eN l) tg d a) := ⟨_, rfl⟩
    have HQn : Hid (nextN N (eN l) tg d = (List.range N).find? pr) := by show _ = _; rw [Hpr.out]; rfl
    go_wp2_with fail
    clear c0
    obtain ⟨W0, hW0⟩ : ∃ X, X = wr := ⟨_, rfl⟩
    subst hW0
    go_loopw [6, 7, 8, 9, 10] (fun bst a _ _ _ wr => ∃ (j : Nat) (z y : Int), j ≤ N ∧ a = .int .i64 z ∧ bst = .int .i64 y ∧ Hid (z = (j : Int) - 1) ∧ Hid (y = bestI pr N j) ∧ Hid (Below W0.heap.size W0 wr)) (fun _ a _ _ _ _ => (intOf a + 1).toNat)
    case atStart => exact ⟨N, (N : Int) - 1, -1, Nat.le_refl _, rfl, rfl, rfl, (bestI_end _ _).symm, Below.refl _ _⟩
    case round =>
      obtain ⟨j, z, y, hj, rfl, rfl, Hz, Hy, HBj⟩ := hrel
      have hyN : y < (N : Int) ∨ y = -1 := by rw [Hy.out]; exact optI_fits pr
      by_cases hj0 : j = 0
      · -- all are looked at
        subst hj0
        have z0 : ¬ (0 : Int) ≤ z := by rw [Hz.out]; omega
        have HyN : Hid (y = optI ((List.range N).find? pr)) := Hy.out
        have hwr := HBj.out.size
        cases hn : (List.range N).find? pr with
        | none =>
          have y0 : y < 0 := by rw [HyN.out, hn]; decide
          have HE : Hid (P (.returned (.slice Ao k co)) wr) := by
            show P _ _
            rw [HP.out]
            have h1 := (HRo.out.below HBj.out).slice (T := List.range w.heap.size) (by simp [reachN]; omega) (fun b hb hh => by have h2 := (HRo.out.blk hb).1; have h3 := List.mem_range.1 hh; omega) (fun b hh _ => List.mem_append_left _ (List.mem_range.2 (by have h3 := List.mem_range.1 hh; omega)))
            have h2 : compsF N (eN l) tg f d = [] := by
              cases f with
              | zero => rfl
              | succ f => rw [compsF, HQn.out, hn]
            rw [show outs = compsF N (eN l) tg N (fun _ => false) by rw [HF.out, h2, List.append_nil], Htg.out] at h1
            exact ⟨Ao, k, co, rfl, h1, (HB1.out.trans (HB.out.mono HB1.out.size)).trans (HBj.out.mono (by omega))⟩
          clear HRo HDo HRd HWd HF hn HyN Hy Hz
          go_wp2_with fail
          first
            | exact HE.out
            | (go_ret; exact HE.out)
        | some a =>
          obtain rfl : y = (a : Int) := by rw [HyN.out, hn]; rfl
          have haN : a < N := List.mem_range.1 (List.mem_of_find?_eq_some hn)
          have hpa := List.find?_some hn
          rw [Hpr.out] at hpa
          simp only [Bool.and_eq_true, Bool.not_eq_true'] at hpa
          have hll := left_less HQ2.out HWd.out haN hpa.1
          obtain ⟨f', rfl⟩ : ∃ f', f = f' + 1 := ⟨f - 1, by omega⟩
          have HF2 : Hid (compsF N (eN l) tg N (fun _ => false) = outs ++ [clsN N tg a] ++ compsF N (eN l) tg f' (fun b => d b || tg a b)) := by
            show _ = _
            rw [HF.out, compsF, HQn.out, hn]
            simp
          have HW2 : Hid (Whole N tg (fun b => d b || tg a b)) := HWd.out.with HQ2.out haN
          have a0 : ¬ (a : Int) < 0 := by omega
          have a1 : (0 : Int) ≤ (a : Int) := by omega
          have a2 : (a : Int) < (N : Int) := by omega
          -- the part
          have HRo1 := Lib.hid (HRo.out.below HBj.out)
          have HRd1 : Hid (wr.heap[w1.heap.size]? = some (.cells (rowB (fun v => d v || (decide (v < 0) && tg a v)) N) 4 (0, 0))) := by
            show _ = _
            rw [(HBj.out.block _ (Array.getElem?_eq_some_iff.1 HRd.out).1).trans HRd.out]
            exact congrArg some (congrArg (fun x => Obj.cells x 4 (0, 0)) (rowB_congr fun v _ => by simp))
          have HB3 : Hid (Below w1.heap.size w1 wr) := HB.out.trans (HBj.out.mono hsz)
          clear HRo HRd HWd HF hn HyN Hy Hz hpa HGr HB HBj hyN
          go_wp2_with fail
          obtain ⟨W1, hW1⟩ : ∃ X, X = wr := ⟨_, rfl⟩
          subst hW1
          have hsz3 := HB3.out.size
          have hDW0 := (Array.getElem?_eq_some_iff.1 HRd1.out).1
          go_loopw [11, 12] (fun s b wr => ∃ (i kp cp : Nat) (Ap : Option Addr), i ≤ N ∧ b = .int .i64 (i : Int) ∧ s = .slice Ap kp cp ∧ Hid (RowOf Enc.nat wr W1.heap.size 3 (List.range (w1.heap.size + 1) ++ (blkOf Ap ++ blkOf Ao)) Ap kp cp ((List.range i).filter (tg a))) ∧ Hid (wr.heap[w1.heap.size]? = some (.cells (rowB (fun v => d v || (decide (v < i) && tg a v)) N) 4 (0, 0))) ∧ Hid (Out [w1.heap.size] W1 wr)) (fun _ b _ => N - (intOf b).toNat)
          case atStart => exact ⟨0, 0, 0, none, by omega, rfl, rfl, RowOf.nil _, HRd1, Out.refl _ _⟩
          case round =>
            obtain ⟨i, kp, cp, Ap, hi, rfl, rfl, HRp, HRb, HO⟩ := hrel
            have i0 : (0 : Int) ≤ (i : Int) := by omega
            have hszO := HO.out.size
            have HBw : Hid (Below w1.heap.size w1 wr) := HB3.out.trans (HO.out.below (fun b hb => by simp at hb; omega) hsz3)
            have hgr := (HBw.out.block _ hw1).trans HG1.out
            have c0 : wr.cell? ⟨w.heap.size, 0, none⟩ = some (.int .i64 (N : Int)) := (cell_of_row _ _ 0 _ _ _ hgr).trans rfl
            have hDl := (Array.getElem?_eq_some_iff.1 HRb.out).1
            by_cases hlt : i < N
            · have i1 : (i : Int) < (N : Int) := by omega
              obtain ⟨bt, ot, br, ob, cr, rfl, t1, t2⟩ := tab_at (HSt.out.below HBw.out) haN
              have t3 := t2 i hlt
              rw [← Htg.out] at t3
              cases htv : tg a i with
              | false =>
                rw [htv] at t3
                have HRp2 : Hid (RowOf Enc.nat wr W1.heap.size 3 (List.range (w1.heap.size + 1) ++ (blkOf Ap ++ blkOf Ao)) Ap kp cp ((List.range (i + 1)).filter (tg a))) := by
                  have e : (List.range (i + 1)).filter (tg a) = (List.range i).filter (tg a) := by rw [List.range_succ, List.filter_append]; simp [htv]
                  show RowOf _ _ _ _ _ _ _ _ _
                  rw [e]; exact HRp.out
                have HRb2 : Hid (wr.heap[w1.heap.size]? = some (.cells (rowB (fun v => d v || (decide (v < i + 1) && tg a v)) N) 4 (0, 0))) := by
                  show _ = _
                  rw [HRb.out]
                  refine congrArg some (congrArg (fun x => Obj.cells x 4 (0, 0)) (rowB_congr fun v _ => ?_))
                  by_cases hv : v = i
                  · subst hv; simp [htv]
                  · by_cases h2 : v < i
                    · have : v < i + 1 := by omega
                      simp [h2, this]
                    · have : ¬ v < i + 1 := by omega
                      simp [h2, this]
                clear t2 HRp HRb hgr htv
                go_wp2_with fail
                go_roundw
                case rel => exact ⟨i + 1, kp, cp, Ap, by omega, by go_num, rfl, HRp2, HRb2, HO⟩
                case measure => simp [intOf]; omega
              | true =>
                rw [htv] at t3
                have ha := HRp.out.below (belowA (Below.refl wr.heap.size wr) (.cells #[.int .i64 (i : Int)] 3))
                have hkl : kp ≤ N := by
                  have h1 := HRp.out.len
                  have h2 : ((List.range i).filter (tg a)).length ≤ (List.range i).length := List.length_filter_le ..
                  rw [List.length_range] at h2
                  omega
                obtain ⟨A2, c2, w2, u2, r2, o2, q2⟩ := ha.push (P := Try.prog) (t := 29) (ty := 29) Try.underlying29 info_nat rfl rfl (by decide) i wr.heap.size [.int .i64 (i : Int)] (heapNew rfl) ⟨rfl, by omega⟩ (by intro u hu; simp at hu; subst hu; rfl) (by simp [maxLen]; omega) (by omega) (by simp; omega) (fun b hb => List.mem_append_right _ (List.mem_append_left _ hb))
                have U2 := Lib.hid u2
                have hApW : ∀ b ∈ blkOf Ap, W1.heap.size ≤ b := fun b hb => (HRp.out.blk hb).1
                have hO2 : Out [w1.heap.size] W1 w2 := (HO.out.trans (Out.of_below (belowA (Below.refl wr.heap.size wr) (.cells #[.int .i64 (i : Int)] 3)) [w1.heap.size]) (fun b hb _ => hb)).trans o2 (fun b hb hlt => by have := hApW b hb; omega)
                have hDA : w1.heap.size ∉ blkOf Ap := fun hh => by have := hApW _ hh; omega
                have hrow2 : w2.heap[w1.heap.size]? = some (.cells (rowB (fun v => d v || (decide (v < i) && tg a v)) N) 4 (0, 0)) := (o2.block _ (by simp; omega) hDA).trans (heapOld HRb.out)
                have d2 : w2.cell? ⟨w1.heap.size, i, none⟩ = some (.bool (d i)) := by
                  rw [cell_of_row _ _ _ _ _ _ hrow2, rowB_get hlt]; simp
                have f2 : w2.frozen? ⟨w1.heap.size, i, none⟩ = false := frozen_of_row _ _ _ _ _ hrow2
                have hDA2 : ∀ b ∈ blkOf A2, b ≠ w1.heap.size := fun b hb hh => by
                  rcases q2 b hb with h3 | h3
                  · rw [hh] at h3; exact hDA h3
                  · simp at h3; omega
                have HRp2 : Hid (RowOf Enc.nat (w2.setCell ⟨w1.heap.size, i, none⟩ (.bool true)) W1.heap.size 3 (List.range (w1.heap.size + 1) ++ (blkOf A2 ++ blkOf Ao)) A2 (kp + 1) c2 ((List.range (i + 1)).filter (tg a))) := by
                  have e : (List.range (i + 1)).filter (tg a) = (List.range i).filter (tg a) ++ [i] := by rw [List.range_succ, List.filter_append]; simp [htv]
                  have h1 := r2 (List.range (w1.heap.size + 1) ++ (blkOf A2 ++ blkOf Ao)) (fun b hb hlt => by
                    rcases List.mem_append.1 hb with hb | hb
                    · exact List.mem_append_left _ hb
                    · rcases List.mem_append.1 hb with hb | hb
                      · rcases q2 b hb with hh | hh
                        · exact List.mem_append_right _ (List.mem_append_left _ hh)
                        · omega
                      · exact List.mem_append_right _ (List.mem_append_right _ hb))
                  show RowOf _ _ _ _ _ _ _ _ _
                  rw [e]
                  exact h1.out (set_out w2 w1.heap.size i _) (fun b hb => by simpa using hDA2 b hb) (fun b hb _ => by simp at hb; simp [hb]) (fun b hb _ => hb)
                have HRb2 : Hid ((w2.setCell ⟨w1.heap.size, i, none⟩ (.bool true)).heap[w1.heap.size]? = some (.cells (rowB (fun v => d v || (decide (v < i + 1) && tg a v)) N) 4 (0, 0))) := by
                  show _ = _
                  rw [set_cell8 hrow2, rowB_set]
                  refine congrArg some (congrArg (fun x => Obj.cells x 4 (0, 0)) (rowB_congr fun v _ => ?_))
                  by_cases hv : v = i
                  · subst hv; simp [htv]
                  · by_cases h2 : v < i
                    · have : v < i + 1 := by omega
                      simp [h2, this, hv]
                    · have : ¬ v < i + 1 := by omega
                      simp [h2, this, hv]
                have HO2 : Hid (Out [w1.heap.size] W1 (w2.setCell ⟨w1.heap.size, i, none⟩ (.bool true))) := hO2.trans (set_out w2 w1.heap.size i _) (fun b hb _ => hb)
                generalize d i = di at d2
                clear t2 HRp HRb hgr htv ha u2 r2 o2 q2 hApW hO2 hDA hrow2 hDA2
                go_wp2_with (at_builtin; refine wpList_append_run (o := ⟨some 89, _, _, _, _, _⟩) rfl _ _ _ rfl _ _ rfl rfl U2.out ?_)
                go_roundw
                case rel => exact ⟨i + 1, kp + 1, c2, A2, by omega, by go_num, rfl, HRp2, HRb2, HO2⟩
                case measure => simp [intOf]; omega
            · have i1 : ¬ (i : Int) < (N : Int) := by omega
              obtain rfl : i = N := by omega
              have hkl : kp ≤ i := by
                have h1 := HRp.out.len
                have h2 : ((List.range i).filter (tg a)).length ≤ (List.range i).length := List.length_filter_le ..
                rw [List.length_range] at h2
                omega
              have hApW : ∀ b ∈ blkOf Ap, W1.heap.size ≤ b := fun b hb => (HRp.out.blk hb).1
              have hAoW : ∀ b ∈ blkOf Ao, b < W1.heap.size := fun b hb => (HRo1.out.blk hb).2.1
              have hDW := (Array.getElem?_eq_some_iff.1 HRd1.out).1
              have hsl : SliceFar Enc.nat wr (List.range (w1.heap.size + 1) ++ blkOf Ao) Ap kp cp (clsN i tg a) := HRp.out.slice (by simp [reachN]; omega) (fun b hb hh => by
                have h1 := hApW b hb
                rcases List.mem_append.1 hh with hh | hh
                · have := List.mem_range.1 hh; omega
                · have := hAoW b hh; omega) (fun b hh hlt => by
                  rcases List.mem_append.1 hh with hh | hh
                  · exact List.mem_append_left _ hh
                  · exact List.mem_append_right _ (List.mem_append_right _ hh))
              have hdo : ∀ b ∈ blkOf Ao, b ∉ [w1.heap.size] := fun b hb hh => by
                simp at hh; subst hh; exact HDo.out hb
              have hRo := HRo1.out.out HO.out hdo (fun b hb _ => by simp at hb; simp [hb]) (fun b hb _ => hb)
              have ha := hRo.below (belowA (Below.refl wr.heap.size wr) (.cells #[.slice Ap kp cp] 29))
              have hok : (Enc.slice Enc.nat).ok (sans (wr.alloc (.cells #[.slice Ap kp cp] 29)) (List.range (w1.heap.size + 1) ++ blkOf Ao)) (wr.alloc (.cells #[.slice Ap kp cp] 29)).heap.size [.slice Ap kp cp] (clsN i tg a) := ⟨_, _, _, rfl, hsl.on (belowA (Below.refl _ _) _)⟩
              obtain ⟨A2, c2, w2, u2, r2, o2, q2⟩ := ha.push (P := Try.prog) (t := 27) (ty := 27) Try.underlying27 info_ints rfl rfl (by decide) _ wr.heap.size [.slice Ap kp cp] (heapNew rfl) hok (by intro u hu; simp at hu; subst hu; rfl) (by simp [maxLen]; omega) (by omega) (by simp; omega) (fun b hb => List.mem_append_right _ hb)
              have U2 := Lib.hid u2
              have HR9 : Hid (RowOf (Enc.slice Enc.nat) w2 w1.heap.size 29 (List.range (w1.heap.size + 1) ++ blkOf A2) A2 (k + 1) c2 (outs ++ [clsN i tg a])) := r2 (List.range (w1.heap.size + 1) ++ blkOf A2) (fun b hb hlt => by
                rcases List.mem_append.1 hb with hb | hb
                · exact List.mem_append_left _ hb
                · rcases q2 b hb with hh | hh
                  · exact List.mem_append_right _ hh
                  · omega)
              have HD9 : Hid (w1.heap.size ∉ blkOf A2) := fun hh => by
                rcases q2 _ hh with h3 | h3
                · exact HDo.out h3
                · simp at h3; omega
              have hbA : Below w1.heap.size wr w2 := ((Below.refl w1.heap.size wr).alloc (by omega) (.cells #[.slice Ap kp cp] 29)).trans (o2.below (fun b hb => (HRo1.out.blk hb).1) (by simp; omega))
              have HRd9 : Hid (w2.heap[w1.heap.size]? = some (.cells (rowB (fun v => d v || tg a v) i) 4 (0, 0))) := by
                show _ = _
                rw [o2.block _ (by simp; omega) HDo.out, heapOld HRb.out]
                exact congrArg some (congrArg (fun x => Obj.cells x 4 (0, 0)) (rowB_congr fun v hv => by simp [hv]))
              have HB9 : Hid (Below w1.heap.size w1 w2) := HBw.out.trans hbA
              have hlf9 : left i tg (fun b => d b || tg a b) ≤ f' := by omega
              clear hgr HRb hsl hRo ha hok u2 r2 o2 q2 hbA hApW hAoW hDW hdo HRp HO hll hlf
              go_wp2_with (at_builtin; refine wpList_append_run (o := ⟨some 96, _, _, _, _, _⟩) rfl _ _ _ rfl _ _ rfl rfl U2.out ?_)
              go_roundw
              case rel => exact ⟨k + 1, A2, c2, _, _, f', rfl, HR9, HD9, HRd9, HW2, HF2, hlf9, by omega, HB9⟩
              case measure => simp [sliceLen]; omega
      · obtain ⟨a, rfl⟩ : ∃ a, j = a + 1 := ⟨j - 1, by omega⟩
        obtain rfl : z = (a : Int) := by rw [Hz.out]; omega
        have haN : a < N := by omega
        have a0 : (0 : Int) ≤ (a : Int) := by omega
        have a1 : (a : Int) < (N : Int) := by omega
        have hsz4 := HBj.out.size
        have HBw : Hid (Below w1.heap.size w1 wr) := HB.out.trans (HBj.out.mono hsz)
        have hDl := (Array.getElem?_eq_some_iff.1 HRd.out).1
        have hDrow := (HBj.out.block _ hDl).trans HRd.out
        have d0 : wr.cell? ⟨w1.heap.size, a, none⟩ = some (.bool (d a)) := by
          rw [cell_of_row _ _ _ _ _ _ hDrow, rowB_get haN]
        cases hda : d a with
        | true =>
          have Hy2 : Hid (y = bestI pr N a) := by
            show _ = _
            rw [bestI_step pr haN, if_neg (by rw [Hpr.out]; simp [hda])]; exact Hy.out
          rw [hda] at d0
          clear hda hDrow Hy Hz hyN
          go_wp2_with fail
          go_roundw
          case rel => exact ⟨a, (a : Int) - 1, y, by omega, by go_num, rfl, rfl, Hy2, HBj⟩
          case measure => simp [intOf] <;> omega
        | false =>
          rw [hda] at d0
          have c1 : wr.cell? ⟨w.heap.size, 1, none⟩ = some (.slice A m c) := (cell_of_row _ _ 1 _ _ _ ((HBw.out.block _ hw1).trans HG1.out)).trans rfl
          have Hda := Lib.hid hda
          clear hDrow hda Hz
          go_wp2_with fail
          clear d0 c1
          obtain ⟨W2, hW2⟩ : ∃ X, X = wr := ⟨_, rfl⟩
          subst hW2
          go_loopw [8, 9, 10] (fun my i _ wr => ∃ (q : Nat) (bm : Bool), q ≤ m ∧ i = .int .i64 (q : Int) ∧ my = .bool bm ∧ Hid (bm = readyN (eN (l.take q)) tg d a) ∧ Hid (Below W0.heap.size W0 wr)) (fun _ i _ _ => m - (intOf i).toNat)
          case atStart => exact ⟨0, true, by omega, rfl, rfl, rfl, HBj⟩
          case round =>
            obtain ⟨q, bm, hq, rfl, rfl, Hbm, HBq⟩ := hrel
            have q0 : (0 : Int) ≤ (q : Int) := by omega
            have HBw2 : Hid (Below w1.heap.size w1 wr) := HB.out.trans (HBq.out.mono hsz)
            have c1 : wr.cell? ⟨w.heap.size, 1, none⟩ = some (.slice A m c) := (cell_of_row _ _ 1 _ _ _ ((HBw2.out.block _ hw1).trans HG1.out)).trans rfl
            by_cases hlq : q < m
            · have q1 : (q : Int) < (m : Int) := by omega
              obtain ⟨b, o, ua, ub, ne, rfl, hbl, hx, hua, hub, x0, x1, x2⟩ := (HS.out.below (HB1.out.trans (HBw2.out.mono HB1.out.size))).nedge_at HW.out hlq
              obtain ⟨bt, ot, br, ob, cr, rfl, t1, t2⟩ := tab_at (HSt.out.below HBw2.out) haN
              have s0 := t2 ua hua
              have s1 := t2 ub hub
              rw [← Htg.out] at s0 s1
              have hDrow := (HBq.out.block _ hDl).trans HRd.out
              have s2 : wr.cell? ⟨w1.heap.size, ub, none⟩ = some (.bool (d ub)) := by rw [cell_of_row _ _ _ _ _ _ hDrow, rowB_get hub]
              have y0 : (wr.alloc (.cells #[.int .i64 (ua : Int), .int .i64 (ub : Int), .bool ne] 45)).cell? ⟨wr.heap.size, 0, none⟩ = some (.int .i64 (ua : Int)) := (cell_of_row _ _ 0 _ _ _ (heapNew (w := wr) rfl)).trans rfl
              have y1 : (wr.alloc (.cells #[.int .i64 (ua : Int), .int .i64 (ub : Int), .bool ne] 45)).cell? ⟨wr.heap.size, 1, none⟩ = some (.int .i64 (ub : Int)) := (cell_of_row _ _ 1 _ _ _ (heapNew (w := wr) rfl)).trans rfl
              have r0 := cellA (o := .cells #[.int .i64 (ua : Int), .int .i64 (ub : Int), .bool ne] 45) s0
              have r1 := cellA (o := .cells #[.int .i64 (ua : Int), .int .i64 (ub : Int), .bool ne] 45) s1
              have r2 := cellA (o := .cells #[.int .i64 (ua : Int), .int .i64 (ub : Int), .bool ne] 45) s2
              have r3 := cellA (o := .cells #[.int .i64 (ua : Int), .int .i64 (ub : Int), .bool ne] 45) t1
              have HB4 : Hid (Below W0.heap.size W0 (wr.alloc (.cells #[.int .i64 (ua : Int), .int .i64 (ub : Int), .bool ne] 45)).drew) := Below.drew (HBq.out.alloc HBq.out.size _)
              have Hst : Hid (readyN (eN (l.take (q + 1))) tg d a = (readyN (eN (l.take q)) tg d a && !(tg a ua && (!tg a ub && !d ub)))) := by
                show _ = _
                rw [List.take_add_one, hx.out]
                unfold readyN eN
                rw [List.map_append, List.all_append]
                simp
              have u0 : (0 : Int) ≤ (ua : Int) := by omega
              have u1 : (ua : Int) < (N : Int) := by omega
              have v0 : (0 : Int) ≤ (ub : Int) := by omega
              have v1 : (ub : Int) < (N : Int) := by omega
              clear t2 s0 s1 s2 t1 hDrow hx
              cases hu1 : tg a ua with
              | false =>
                rw [hu1] at r0 Hst
                have hu2 := hu1
                have hu3 := hu1
                generalize tg a ub = bx at *
                generalize d ub = bz at *
                have Hb2 : Hid (bm = readyN (eN (l.take (q + 1))) tg d a) := by
                  show _ = _
                  rw [Hst.out, ← Hbm.out]
                  simp
                clear Hst Hbm hu1 hu2 hu3 HBq
                go_wp2_with fail
                generalize wr.alloc (.cells #[.int .i64 (ua : Int), .int .i64 (ub : Int), .bool ne] 45) = V2 at *
                refine drawnS mixed _ (fun W => W = V2.drew) rfl (by kernel_rfl) rfl rfl ?_
                have hyu : undef = Value.tuple #[] := rfl
                iterate 27
                  apply seqS_op
                  · rintro W rfl
                    go_wp2_with fail
                    exact ⟨rfl, rfl, fun d hd => by cases hd; simp only [List.getElem?_toArray, List.getElem?_cons_succ, List.getElem?_cons_zero]; rfl, rfl⟩
                  simp only [Act.put, List.setIfInBounds_toArray, List.set_cons_succ, List.set_cons_zero]
                clear hyu
                apply seqS_end
                rintro W rfl
                go_wp2_with fail
                go_roundw
                case rel => exact ⟨q + 1, bm, by omega, by go_num, rfl, Hb2, HB4⟩
                case measure => simp [intOf] <;> omega
              | true =>
                rw [hu1] at r0 Hst
                cases hu2 : tg a ub with
                | true =>
                  rw [hu2] at r1 Hst
                  have hu3 := hu1
                  generalize d ub = bz at *
                  have Hb2 : Hid (bm = readyN (eN (l.take (q + 1))) tg d a) := by
                    show _ = _
                    rw [Hst.out, ← Hbm.out]
                    simp
                  clear Hst Hbm hu1 hu2 hu3 HBq
                  go_wp2_with fail
                  generalize wr.alloc (.cells #[.int .i64 (ua : Int), .int .i64 (ub : Int), .bool ne] 45) = V2 at *
                  refine drawnS mixed _ (fun W => W = V2.drew) rfl (by kernel_rfl) rfl rfl ?_
                  have hyu : undef = Value.tuple #[] := rfl
                  iterate 27
                    apply seqS_op
                    · rintro W rfl
                      go_wp2_with fail
                      exact ⟨rfl, rfl, fun d hd => by cases hd; simp only [List.getElem?_toArray, List.getElem?_cons_succ, List.getElem?_cons_zero]; rfl, rfl⟩
                    simp only [Act.put, List.setIfInBounds_toArray, List.set_cons_succ, List.set_cons_zero]
                  clear hyu
                  apply seqS_end
                  rintro W rfl
                  go_wp2_with fail
                  go_roundw
                  case rel => exact ⟨q + 1, bm, by omega, by go_num, rfl, Hb2, HB4⟩
                  case measure => simp [intOf] <;> omega
                | false =>
                  rw [hu2] at r1 Hst
                  cases hu3 : d ub with
                  | true =>
                    rw [hu3] at r2 Hst
                    have Hb2 : Hid (bm = readyN (eN (l.take (q + 1))) tg d a) := by
                      show _ = _
                      rw [Hst.out, ← Hbm.out]
                      simp
                    clear Hst Hbm hu1 hu2 hu3 HBq
                    go_wp2_with fail
                    generalize wr.alloc (.cells #[.int .i64 (ua : Int), .int .i64 (ub : Int), .bool ne] 45) = V2 at *
                    refine drawnS mixed _ (fun W => W = V2.drew) rfl (by kernel_rfl) rfl rfl ?_
                    have hyu : undef = Value.tuple #[] := rfl
                    iterate 27
                      apply seqS_op
                      · rintro W rfl
                        go_wp2_with fail
                        exact ⟨rfl, rfl, fun d hd => by cases hd; simp only [List.getElem?_toArray, List.getElem?_cons_succ, List.getElem?_cons_zero]; rfl, rfl⟩
                      simp only [Act.put, List.setIfInBounds_toArray, List.set_cons_succ, List.set_cons_zero]
                    clear hyu
                    apply seqS_end
                    rintro W rfl
                    go_wp2_with fail
                    go_roundw
                    case rel => exact ⟨q + 1, bm, by omega, by go_num, rfl, Hb2, HB4⟩
                    case measure => simp [intOf] <;> omega
                  | false =>
                    rw [hu3] at r2 Hst
                    have Hb2 : Hid (false = readyN (eN (l.take (q + 1))) tg d a) := by
                      show _ = _
                      rw [Hst.out, ← Hbm.out]
                      simp
                    clear Hst Hbm hu1 hu2 hu3 HBq
                    go_wp2_with fail
                    generalize wr.alloc (.cells #[.int .i64 (ua : Int), .int .i64 (ub : Int), .bool ne] 45) = V2 at *
                    refine drawnS mixed _ (fun W => W = V2.drew) rfl (by kernel_rfl) rfl rfl ?_
                    have hyu : undef = Value.tuple #[] := rfl
                    iterate 27
                      apply seqS_op
                      · rintro W rfl
                        go_wp2_with fail
                        exact ⟨rfl, rfl, fun d hd => by cases hd; simp only [List.getElem?_toArray, List.getElem?_cons_succ, List.getElem?_cons_zero]; rfl, rfl⟩
                      simp only [Act.put, List.setIfInBounds_toArray, List.set_cons_succ, List.set_cons_zero]
                    clear hyu
                    apply seqS_end
                    rintro W rfl
                    go_wp2_with fail
                    go_roundw
                    case rel => exact ⟨q + 1, false, by omega, by go_num, rfl, Hb2, HB4⟩
                    case measure => simp [intOf] <;> omega
            · have q1 : ¬ (q : Int) < (m : Int) := by omega
              have Hbm2 : Hid (bm = readyN (eN l) tg d a) := by
                show _ = _
                rw [Hbm.out, List.take_of_length_le (by rw [Hlen.out]; omega)]
              cases bm with
              | true =>
                have Hy2 : Hid ((a : Int) = bestI pr N a) := by
                  show _ = _
                  rw [bestI_step pr haN, if_pos (by rw [Hpr.out]; show (!d a && readyN (eN l) tg d a) = true; rw [← Hbm2.out]; simp [Hda.out])]
                clear Hbm Hbm2 Hy hyN
                go_wp2_with fail
                go_roundw
                case rel => exact ⟨a, (a : Int) - 1, (a : Int), by omega, by go_num, rfl, rfl, Hy2, HBq⟩
                case measure => simp [intOf] <;> omega
              | false =>
                have Hy2 : Hid (y = bestI pr N a) := by
                  show _ = _
                  rw [bestI_step pr haN, if_neg (by rw [Hpr.out]; show ¬ (!d a && readyN (eN l) tg d a) = true; rw [← Hbm2.out]; simp)]; exact Hy.out
                clear Hbm Hbm2 Hy hyN
                go_wp2_with fail
                go_roundw
                case rel => exact ⟨a, (a : Int) - 1, y, by omega, by go_num, rfl, rfl, Hy2, HBq⟩
                case measure => simp [intOf] <;> omega
end Go.Proofs.Ytdbpbchhkdconaa
