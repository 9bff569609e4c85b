/- scc.waits: the walk. -/
import Derived.Test.YtdbpbchhkdconaaScWt
import Derived.Test.YtdbpbchhkdconaaDrawnS
import Derived.Test.YtdbpbchhkdconaaScR
namespace Go.Proofs.Ytdbpbchhkdconaa
open Go.RowKit

theorem WRow.add {w : World} {B R n j : Nat} {g : Nat → Nat} (h : WRow w B R n g (fun i => decide (i < j)) (fun _ _ => 0)) (hB : B ≤ w.heap.size) : WRow ((w.alloc (.map #[] 0)).setCell ⟨R, j, none⟩ (.map (some w.heap.size))) B R n (updN g j w.heap.size) (fun i => decide (i < j + 1)) (fun _ _ => 0) := by
  have hRl := (Array.getElem?_eq_some_iff.1 h.row).1
  have hO : Out [R] w ((w.alloc (.map #[] 0)).setCell ⟨R, j, none⟩ (.map (some w.heap.size))) := (Out.of_below (belowA (Below.refl _ _) _) [R]).trans (set_out _ _ _ _) (fun b hb _ => hb)
  refine ⟨?_, h.ge, fun i hi ho => ?_, fun i k hi hk ho hok hg => ?_⟩
  · have hr : (w.alloc (.map #[] 0)).heap[R]? = some (.cells (rowV (fun i => if decide (i < j) = true then .map (some (g i)) else .map none) n) 56 (0, 0)) := heapOld h.row
    rw [set_cell8 hr, rowV_set]
    congr 2
    refine rowV_congr fun x _ => ?_
    unfold updN
    by_cases hx : x = j
    · subst hx; simp
    · rw [if_neg hx]
      by_cases hxj : x < j
      · have : x < j + 1 := by omega
        simp [hxj, this, hx]
      · have : ¬ x < j + 1 := by omega
        simp [hxj, this]
  · unfold updN
    by_cases hx : i = j
    · subst hx
      rw [if_pos rfl]
      refine ⟨hB, by omega, ?_⟩
      have := (NumZ.made (w := w)).same (w' := (w.alloc (.map #[] 0)).setCell ⟨R, i, none⟩ (.map (some w.heap.size))) (World.heap_setCells_other' (by omega))
      exact this
    · rw [if_neg hx]
      have hlt : i < j := by simp only [decide_eq_true_eq] at ho; omega
      obtain ⟨h1, h2, h3⟩ := h.maps i hi (by simpa using hlt)
      exact ⟨h1, h2, h3.same (hO.block _ h3.lt (by simpa using h2))⟩
  · simp only [decide_eq_true_eq] at ho hok
    unfold updN at hg
    by_cases hij : i = j
    · by_cases hkj : k = j
      · omega
      · rw [if_pos hij, if_neg hkj] at hg
        have := (h.maps k hk (by simp; omega)).2.2.lt
        omega
    · rw [if_neg hij] at hg
      by_cases hkj : k = j
      · rw [if_pos hkj] at hg
        have := (h.maps i hi (by simp; omega)).2.2.lt
        omega
      · rw [if_neg hkj] at hg
        exact h.one i k hi hk (by simp; omega) (by simp; omega) hg

set_option maxRecDepth 100000 in
set_option maxHeartbeats 8000000 in
theorem waits_any (N : Nat) (A : Option Addr) (m c : Nat) (l : List GEdge) (A2 : Option Addr) (n c2 pb cp : Nat) (pl : Nat → Nat) (w : World) (hl : SliceIs Enc.edge w w.heap.size A m c l) (hw : ∀ e ∈ l, withinE e (N : Int) = true) (hm : m ≤ 10000) (hn : n ≤ 1000)
    (hp : w.heap[pb]? = some (.cells (rowF pl N) 3 (0, 0))) (hpl : ∀ v, v < N → pl v < n) :
    Calls Try.prog 29 #[graphV (N : Int) A m c, .slice A2 n c2, .slice (some ⟨pb, 0, none⟩) N cp] w (WaitsPost pl l n w) := by
  have mixed : Try.prog.follows .mixedOrders = true := by kernel_rfl
  have hmm := @run_makeMap Try.prog
  have hmk := run_make_row' (P := Try.prog) 53 56 (.map none) 8 Try.underlying53 info_mapnn rfl .i64 .i64 n (by omega) (by omega) (w.alloc (.cells #[.int .i64 (N : Int), .slice A m c] 24))
  rw [rowV_made] at hmk
  have HS := Lib.hid hl
  have HW := Lib.hid hw
  have HPl := Lib.hid hpl
  have HPr := Lib.hid hp
  have Hlen := Lib.hid hl.1
  have hpb := (Array.getElem?_eq_some_iff.1 hp).1
  obtain ⟨P, HP⟩ : ∃ P : Ending → World → Prop, Hid (P = WaitsPost pl l n w) := ⟨_, rfl⟩
  rw [← HP.out]
  clear hl hw hpl hp
  go_enter Try.func29, Try.ntmps29
  go_wp2_with fail
  have hb0 : Below w.heap.size w ((w.alloc (.cells #[.int .i64 (N : Int), .slice A m c] 24)).alloc (.cells (rowV (fun _ => .map none) n) 56)) := belowA (belowA (Below.refl _ _) _) _
  have hg0 : ((w.alloc (.cells #[.int .i64 (N : Int), .slice A m c] 24)).alloc (.cells (rowV (fun _ => .map none) n) 56)).heap[w.heap.size]? = some (.cells #[.int .i64 (N : Int), .slice A m c] 24 (0, 0)) := heapOld (heapNew rfl)
  have hr0 : WRow ((w.alloc (.cells #[.int .i64 (N : Int), .slice A m c] 24)).alloc (.cells (rowV (fun _ => .map none) n) 56)) w.heap.size (w.heap.size + 1) n (fun _ => 0) (fun i => decide (i < 0)) (fun _ _ => 0) :=
    ⟨by rw [heapNew (by simp)]; rfl, by omega, fun i _ h => by simp at h, fun i j _ _ h => by simp at h⟩
  generalize (w.alloc (.cells #[.int .i64 (N : Int), .slice A m c] 24)).alloc (.cells (rowV (fun _ => .map none) n) 56) = V at hb0 hg0 hr0 hmk ⊢
  have hRlt : w.heap.size < w.heap.size + 1 := by omega
  generalize w.heap.size + 1 = R at *
  have HB0 := Lib.hid hb0
  have HG0 := Lib.hid hg0
  have HR0 := Lib.hid hr0
  clear hb0 hg0 hr0 hmk
  go_loopw [8, 18] (fun _ i wr => ∃ (j : Nat) (g : Nat → Nat), j ≤ n ∧ i = .int .i64 (j : Int) ∧ Hid (WRow wr w.heap.size R n g (fun i => decide (i < j)) (fun _ _ => 0)) ∧ Hid (wr.heap[w.heap.size]? = some (.cells #[.int .i64 (N : Int), .slice A m c] 24 (0, 0))) ∧ Hid (Below w.heap.size w wr)) (fun _ i _ => n - (intOf i).toNat)
  case atStart => exact ⟨0, fun _ => 0, by omega, rfl, HR0, HG0, HB0⟩
  case round =>
    obtain ⟨j, g, hj, rfl, HR, HG, HB⟩ := hrel
    have i0 : (0 : Int) ≤ (j : Int) := by omega
    by_cases hlt : j < n
    · have i1 : (j : Int) < (n : Int) := by omega
      have hrow := HR.out.row
      have c0 : (wr.alloc (.map #[] 0)).cell? ⟨R, j, none⟩ = some (.map none) := cellA (by rw [cell_of_row _ _ _ _ _ _ hrow, rowV_get hlt]; simp)
      have f0 : (wr.alloc (.map #[] 0)).frozen? ⟨R, j, none⟩ = false := frozen_of_row _ _ _ _ _ (heapOld hrow)
      have HR2 : Hid (WRow ((wr.alloc (.map #[] 0)).setCell ⟨R, j, none⟩ (.map (some wr.heap.size))) w.heap.size R n (updN g j wr.heap.size) (fun i => decide (i < j + 1)) (fun _ _ => 0)) := HR.out.add HB.out.size
      have HG2 : Hid (((wr.alloc (.map #[] 0)).setCell ⟨R, j, none⟩ (.map (some wr.heap.size))).heap[w.heap.size]? = some (.cells #[.int .i64 (N : Int), .slice A m c] 24 (0, 0))) := (World.heap_setCells_other' (show w.heap.size ≠ R from by omega)).trans (heapOld HG.out)
      have HB2 : Hid (Below w.heap.size w ((wr.alloc (.map #[] 0)).setCell ⟨R, j, none⟩ (.map (some wr.heap.size)))) := (HB.out.alloc HB.out.size _).setCell (show w.heap.size ≤ R from by omega) _
      clear hrow HR HG HB
      go_wp2_with fail
      go_roundw
      case rel => exact ⟨j + 1, _, by omega, by go_num, HR2, HG2, HB2⟩
      case measure => simp [intOf]; omega
    · have i1 : ¬ (j : Int) < (n : Int) := by omega
      have c1 : wr.cell? ⟨w.heap.size, 1, none⟩ = some (.slice A m c) := (cell_of_row _ _ 1 _ _ _ HG.out).trans rfl
      have HR1 : Hid (WRow wr w.heap.size R n g (fun _ => true) (fun i => cntW pl i (l.take 0))) := by
        obtain rfl : j = n := by omega
        have h := HR.out
        refine ⟨?_, h.ge, fun i hi _ => ⟨(h.maps i hi (by simpa using hi)).1, (h.maps i hi (by simpa using hi)).2.1, (h.maps i hi (by simpa using hi)).2.2.congr (fun v => rfl)⟩, fun i k hi hk _ _ => h.one i k hi hk (by simpa using hi) (by simpa using hk)⟩
        rw [h.row]
        congr 2
        exact rowV_congr fun x hx => by simp [hx]
      clear HR HG HR0 HG0 HB0
      go_wp2_with fail
      obtain ⟨V1, hV1⟩ : ∃ X, X = wr := ⟨_, rfl⟩
      subst hV1
      clear c1
      go_loopw [10, 11, 12, 29] (fun _ _ _ i wr => ∃ k : Nat, k ≤ m ∧ i = .int .i64 (k : Int) ∧ Hid (WRow wr w.heap.size R n g (fun _ => true) (fun i => cntW pl i (l.take k))) ∧ Hid (Below w.heap.size w wr)) (fun _ _ _ i _ => m - (intOf i).toNat)
      case atStart => exact ⟨0, by omega, rfl, HR1, HB⟩
      case round =>
        obtain ⟨k, hk, rfl, HRk, HBk⟩ := hrel
        have k0 : (0 : Int) ≤ (k : Int) := by omega
        by_cases hlk : k < m
        · have k1 : (k : Int) < (m : Int) := by omega
          obtain ⟨b, o, ua, ub, ne, rfl, hbl, hx, hua, hub, x0, x1, x2⟩ := (HS.out.below HBk.out).nedge_at HW.out hlk
          have hpa := HPl.out ua hua
          have hpb' := HPl.out ub hub
          have hprow : wr.heap[pb]? = some (.cells (rowF pl N) 3 (0, 0)) := (HBk.out.block _ hpb).trans HPr.out
          have y0 : (wr.alloc (.cells #[.int .i64 (ua : Int), .int .i64 (ub : Int), .bool ne] 32)).cell? ⟨wr.heap.size, 0, none⟩ = some (.int .i64 (ua : Int)) := (cell_of_row _ _ 0 _ _ _ (heapNew (w := wr) rfl)).trans rfl
          have y1 : (wr.alloc (.cells #[.int .i64 (ua : Int), .int .i64 (ub : Int), .bool ne] 32)).cell? ⟨wr.heap.size, 1, none⟩ = some (.int .i64 (ub : Int)) := (cell_of_row _ _ 1 _ _ _ (heapNew (w := wr) rfl)).trans rfl
          have y2 : (wr.alloc (.cells #[.int .i64 (ua : Int), .int .i64 (ub : Int), .bool ne] 32)).cell? ⟨pb, ua, none⟩ = some (.int .i64 (pl ua : Int)) := cellA (by rw [cell_of_row _ _ _ _ _ _ hprow, rowF_get hua])
          have y3 : (wr.alloc (.cells #[.int .i64 (ua : Int), .int .i64 (ub : Int), .bool ne] 32)).cell? ⟨pb, ub, none⟩ = some (.int .i64 (pl ub : Int)) := cellA (by rw [cell_of_row _ _ _ _ _ _ hprow, rowF_get hub])
          have hbd : Below wr.heap.size wr (wr.alloc (.cells #[.int .i64 (ua : Int), .int .i64 (ub : Int), .bool ne] 32)).drew := Below.drew (belowA (Below.refl _ _) _)
          have HR3 := Lib.hid (HRk.out.below hbd)
          have HB3 : Hid (Below w.heap.size w (wr.alloc (.cells #[.int .i64 (ua : Int), .int .i64 (ub : Int), .bool ne] 32)).drew) := HBk.out.trans (hbd.mono HBk.out.size)
          have Htake : Hid (l.take (k + 1) = l.take k ++ [⟨(ua : Int), (ub : Int), ne⟩]) := by
            show _ = _
            rw [List.take_add_one, hx.out]; rfl
          have a0 : (0 : Int) ≤ (ua : Int) := by omega
          have a1 : (ua : Int) < (N : Int) := by omega
          have b0 : (0 : Int) ≤ (ub : Int) := by omega
          have b1 : (ub : Int) < (N : Int) := by omega
          clear hprow hbd hx HRk
          by_cases heq : pl ua = pl ub
          · have z : ((pl ua : Int) != (pl ub : Int)) = false := by simp; omega
            have HR4 : Hid (WRow (wr.alloc (.cells #[.int .i64 (ua : Int), .int .i64 (ub : Int), .bool ne] 32)).drew w.heap.size R n g (fun _ => true) (fun i => cntW pl i (l.take (k + 1)))) := by
              have h := HR3.out
              refine ⟨h.row, h.ge, fun i hi ho => ⟨(h.maps i hi ho).1, (h.maps i hi ho).2.1, (h.maps i hi ho).2.2.congr fun v => ?_⟩, h.one⟩
              rw [Htake.out, cntW_snoc, if_neg]
              simp only [Int.toNat_natCast]
              rintro ⟨h1, h2, h3⟩
              exact h3 (h1.symm.trans (heq.trans h2))
            clear heq HR3
            generalize (pl ua : Int) = p at *
            generalize (pl ub : Int) = q at *
            go_wp2_with fail
            generalize wr.alloc (.cells #[.int .i64 (ua : Int), .int .i64 (ub : Int), .bool ne] 32) = V2 at *
            refine drawnS mixed _ (fun W => W = V2.drew) rfl (by kernel_rfl) rfl rfl ?_
            iterate 12
              apply seqS_op
              · rintro W rfl
                go_wp2_with fail
                exact ⟨rfl, rfl, fun d hd => by cases hd; simp only [List.getElem?_toArray, List.getElem?_cons_succ, List.getElem?_cons_zero]; rfl, rfl⟩
              simp only [Act.put, List.setIfInBounds_toArray, List.set_cons_succ, List.set_cons_zero]
            apply seqS_end
            rintro W rfl
            go_wp2_with fail
            go_roundw
            case rel => exact ⟨k + 1, by omega, by go_num, HR4, HB3⟩
            case measure => simp [intOf]; omega
          · have z : ((pl ua : Int) != (pl ub : Int)) = true := by simp; omega
            obtain ⟨hg1, hg2, hg3⟩ := HR3.out.maps (pl ua) hpa rfl
            have c4 : (wr.alloc (.cells #[.int .i64 (ua : Int), .int .i64 (ub : Int), .bool ne] 32)).drew.cell? ⟨R, pl ua, none⟩ = some (.map (some (g (pl ua)))) := by
              rw [cell_of_row _ _ _ _ _ _ HR3.out.row, rowV_get hpa]; rfl
            have hcc := cntW_len pl (pl ua) (l.take k) (pl ub)
            have hcl : (l.take k).length ≤ 10000 := by rw [List.length_take]; omega
            obtain ⟨w2, u2, v2, o2, z2⟩ := hg3.put under_map under_int (pl ub) (cntW pl (pl ua) (l.take k) (pl ub) + 1) (by omega)
            have lk := hg3.look under_map under_int (zero_num _) (pl ub)
            have HR4 : Hid (WRow w2 w.heap.size R n g (fun _ => true) (fun i => cntW pl i (l.take (k + 1)))) := by
              refine HR3.out.turn (f' := fun i => cntW pl i (l.take (k + 1))) hpa rfl o2 (v2.congr fun v => ?_) (fun j hj _ hji v => ?_)
              · show _ = cntW pl (pl ua) (l.take (k + 1)) v
                rw [Htake.out, cntW_snoc]
                simp only [Int.toNat_natCast]
                unfold updN
                by_cases hv : v = pl ub
                · subst hv; rw [if_pos rfl, if_pos ⟨trivial, rfl, heq⟩]
                · rw [if_neg hv, if_neg (fun h => hv h.2.1.symm)]
              · show cntW pl j (l.take k) v = cntW pl j (l.take (k + 1)) v
                rw [Htake.out, cntW_snoc]
                simp only [Int.toNat_natCast]
                rw [if_neg (fun h => hji h.1.symm)]
            have HB4 : Hid (Below w.heap.size w w2) := HB3.out.trans (o2.below (fun b hb => by simp at hb; subst hb; exact hg1) HB3.out.size)
            have p0 : (0 : Int) ≤ (pl ua : Int) := by omega
            have p1 : (pl ua : Int) < (n : Int) := by omega
            generalize cntW pl (pl ua) (l.take k) (pl ub) = cc at *
            have hcc2 : cc ≤ 10000 := by omega
            rw [show ((cc + 1 : Nat) : Int) = (cc : Int) + 1 by omega] at u2
            clear heq HR3 hg1 hg2 hg3 v2 o2 z2 hcc hcl hpa hpb' Htake
            generalize pl ub = q at *
            generalize pl ua = p at *
            go_wp2_with fail
            generalize wr.alloc (.cells #[.int .i64 (ua : Int), .int .i64 (ub : Int), .bool ne] 32) = V2 at *
            refine drawnS mixed _ (fun W => W = V2.drew) rfl (by kernel_rfl) rfl rfl ?_
            iterate 12
              apply seqS_op
              · rintro W rfl
                go_wp2_with fail
                exact ⟨rfl, rfl, fun d hd => by cases hd; simp only [List.getElem?_toArray, List.getElem?_cons_succ, List.getElem?_cons_zero]; rfl, rfl⟩
              simp only [Act.put, List.setIfInBounds_toArray, List.set_cons_succ, List.set_cons_zero]
            apply seqS_end
            rintro W rfl
            go_wp2_with fail
            go_roundw
            case rel => exact ⟨k + 1, by omega, by go_num, HR4, HB4⟩
            case measure => simp [intOf]; omega
        · have k1 : ¬ (k : Int) < (m : Int) := by omega
          have HE : Hid (P (.returned (.slice (some ⟨R, 0, none⟩) n n)) wr) := by
            show P _ _
            rw [HP.out]
            have h := HRk.out
            rw [List.take_of_length_le (by rw [Hlen.out]; omega)] at h
            exact ⟨R, g, rfl, h, HBk.out⟩
          clear HRk HBk HR1 HB
          go_wp2_with fail
          first
            | exact HE.out
            | (go_ret; exact HE.out)
end Go.Proofs.Ytdbpbchhkdconaa
