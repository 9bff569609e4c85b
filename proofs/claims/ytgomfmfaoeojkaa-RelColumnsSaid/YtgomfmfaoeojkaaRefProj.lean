/- The document's Project. -/
import Derived.Test.YtgomfmfaoeojkaaRelProj
import Derived.Deep.RegionWith
namespace Go.Proofs.Ytgomfmfaoeojkaa
open Go.RowKit

set_option maxRecDepth 100000 in
set_option maxHeartbeats 4000000 in
theorem refProj_any (n : Nat) (A B : Option Addr) (nl c m d : Nat) (L : List (List GV)) (cs : List Int) (w : World) (hl : SliceIs (Enc.slice Enc.val) w w.heap.size A nl c L) (hc : SliceIs Enc.int w w.heap.size B m d cs) (hn : nl ≤ 1000) (hm : m ≤ 20) (hR : ∀ t ∈ L, t.length = n) :
    Calls Try.prog 27 #[.agg #[.int .i64 (n : Int), .slice A nl c], .slice B m d] w (RefOfPost cs.length (pickE n cs) (projU L cs) w) := by
  obtain rfl : L.length = nl := hl.1
  obtain rfl : cs.length = m := hc.1
  have HC := Lib.hid hc
  have HL := Lib.hid hl
  have HRt := Lib.hid hR
  obtain ⟨xe, hxe⟩ : ∃ xe, Hid (xe = pickE n cs) := ⟨_, rfl⟩
  obtain ⟨U, hU⟩ : ∃ U, Hid (U = projU L cs) := ⟨_, rfl⟩
  rw [← hxe.out, ← hU.out]
  clear hc hl hR
  have Hzero : Hid (∀ W, W.heap[w.heap.size + 1]? = some (.cells #[.int .i64 0, .slice none 0 0] 47 (0, 0)) → Below w.heap.size w W →
      ((W.setCell ⟨w.heap.size + 1, 0, none⟩ (.int .i64 0)).setCell ⟨w.heap.size + 1, 1, none⟩ (.slice none 0 0)).cell? ⟨w.heap.size + 1, 0, none⟩ = some (.int .i64 0) ∧ ((W.setCell ⟨w.heap.size + 1, 0, none⟩ (.int .i64 0)).setCell ⟨w.heap.size + 1, 1, none⟩ (.slice none 0 0)).cell? ⟨w.heap.size + 1, 1, none⟩ = some (.slice none 0 0) ∧
      Below w.heap.size w ((W.setCell ⟨w.heap.size + 1, 0, none⟩ (.int .i64 0)).setCell ⟨w.heap.size + 1, 1, none⟩ (.slice none 0 0))) := fun W h hb => by
    have e2 := set_one (v := .slice none 0 0) (set_zero2 (v := .int .i64 0) h)
    exact ⟨(cell_of_row _ _ 0 _ _ _ e2).trans rfl, (cell_of_row _ _ 1 _ _ _ e2).trans rfl, (hb.setCell (by simp) _).setCell (by simp) _⟩
  go_enter Try.func27, Try.ntmps27
  go_wp2_with fail
  have hb1 : Below w.heap.size w ((w.alloc (.cells #[.int .i64 (n : Int), .slice A L.length c] 47)).alloc (.cells #[.int .i64 0, .slice none 0 0] 47)) := belowA (belowA (Below.refl _ _) _) _
  have hr0 : ((w.alloc (.cells #[.int .i64 (n : Int), .slice A L.length c] 47)).alloc (.cells #[.int .i64 0, .slice none 0 0] 47)).heap[w.heap.size]? = some (.cells #[.int .i64 (n : Int), .slice A L.length c] 47 (0, 0)) := heapOld (heapNew rfl)
  have hr1 : ((w.alloc (.cells #[.int .i64 (n : Int), .slice A L.length c] 47)).alloc (.cells #[.int .i64 0, .slice none 0 0] 47)).heap[w.heap.size + 1]? = some (.cells #[.int .i64 0, .slice none 0 0] 47 (0, 0)) := heapNew (by simp)
  have hs1 : Hid (((w.alloc (.cells #[.int .i64 (n : Int), .slice A L.length c] 47)).alloc (.cells #[.int .i64 0, .slice none 0 0] 47)).heap.size = w.heap.size + 1 + 1) := by show _ = _; simp
  generalize ((w.alloc (.cells #[.int .i64 (n : Int), .slice A L.length c] 47)).alloc (.cells #[.int .i64 0, .slice none 0 0] 47)) = w1 at *
  have c0 : w1.cell? ⟨w.heap.size, 0, none⟩ = some (.int .i64 (n : Int)) := (cell_of_row _ _ 0 _ _ _ hr0).trans rfl
  have c1 : w1.cell? ⟨w.heap.size, 1, none⟩ = some (.slice A L.length c) := (cell_of_row _ _ 1 _ _ _ hr0).trans rfl
  have d0 : w1.cell? ⟨w.heap.size + 1, 0, none⟩ = some (.int .i64 0) := (cell_of_row _ _ 0 _ _ _ hr1).trans rfl
  have d1 : w1.cell? ⟨w.heap.size + 1, 1, none⟩ = some (.slice none 0 0) := (cell_of_row _ _ 1 _ _ _ hr1).trans rfl
  have f0 : w1.frozen? ⟨w.heap.size + 1, 0, none⟩ = false := frozen_of_row _ _ _ _ _ hr1
  have f1 : w1.frozen? ⟨w.heap.size + 1, 1, none⟩ = false := frozen_of_row _ _ _ _ _ hr1
  go_loopw [6] (fun i wr => ∃ k : Nat, k ≤ cs.length ∧ i = .int .i64 k ∧ Hid (∀ y ∈ cs.take k, 0 ≤ y ∧ y < n) ∧ (∃ q, wr = w1.drewN q)) (fun i _ => cs.length - (intOf i).toNat)
  case atStart => exact ⟨0, by omega, rfl, (fun y hy => by simp at hy), ⟨0, rfl⟩⟩
  case round =>
    obtain ⟨k, hk, rfl, HK, ⟨q, rfl⟩⟩ := hrel
    have i0 : (0 : Int) ≤ (k : Int) := by omega
    by_cases hlt : k < cs.length
    · have i1 : (k : Int) < (cs.length : Int) := by omega
      obtain ⟨b, o, x, rfl, _, hx, hcx, -⟩ := HC.out.int_at hlt
      replace hcx := below_cell hb1 hcx
      by_cases hok : 0 ≤ x ∧ x < n
      · obtain ⟨o1, o2⟩ := hok
        have o3 : decide (x < 0) = false := by simp; omega
        have o4 : decide ((n : Int) ≤ x) = false := by simp; omega
        have HK2 : Hid (∀ y ∈ cs.take (k + 1), 0 ≤ y ∧ y < n) := by
          intro y hy
          rw [List.take_add_one, hx.out] at hy
          rcases List.mem_append.1 hy with hy | hy
          · exact HK.out y hy
          · simp at hy; subst hy; exact ⟨o1, o2⟩
        clear hx HK o1 o2
        go_wp2_with fail
        go_quiet (fail)
        go_wp2_with fail
        go_roundw
        case rel => exact ⟨k + 1, by omega, by go_num, HK2, ⟨q + nq, rfl⟩⟩
        case measure => simp [intOf]; omega
      · have HX : Hid (xe = 1) := by show _ = _; rw [hxe.out]; exact pickE_no (pickOk_false (List.mem_of_getElem? hx.out) hok)
        by_cases hx0 : x < 0
        · have o3 : decide (x < 0) = true := by simpa using hx0
          clear hok hx HK hx0
          go_wp2_with fail
          go_quiet (fail)
          obtain ⟨x0, x1, hbe⟩ := Hzero.out (w1.drewN (q + nq)) hr1 (hb1.trans ((below_drewN w1 (q + nq) w1.heap.size).mono hb1.size))
          go_wp2_with fail
          rw [HX.out]
          exact bodyPost_ret (v := .tuple #[.agg #[.int .i64 0, .slice none 0 0], .int .i64 1]) (by simp [results, Try.results27, go_sem, x0, x1]) rfl ⟨hbe, .inr ⟨by decide, rfl⟩⟩
        · have o3 : decide (x < 0) = false := by simpa using hx0
          have o4 : decide ((n : Int) ≤ x) = true := by simp; omega
          clear hok hx HK hx0
          go_wp2_with fail
          go_quiet (fail)
          obtain ⟨x0, x1, hbe⟩ := Hzero.out (w1.drewN (q + nq)) hr1 (hb1.trans ((below_drewN w1 (q + nq) w1.heap.size).mono hb1.size))
          go_wp2_with fail
          rw [HX.out]
          exact bodyPost_ret (v := .tuple #[.agg #[.int .i64 0, .slice none 0 0], .int .i64 1]) (by simp [results, Try.results27, go_sem, x0, x1]) rfl ⟨hbe, .inr ⟨by decide, rfl⟩⟩
    · have i1 : ¬ (k : Int) < (cs.length : Int) := by omega
      have HP : Hid (pickOk n cs = true) := by
        have := HK.out
        rw [List.take_of_length_le (by omega)] at this
        exact pickOk_true this
      clear HK
      by_cases h6 : 6 < cs.length
      · have HX : Hid (xe = 6) := by show _ = _; rw [hxe.out]; exact pickE_long HP.out h6
        obtain ⟨x0, x1, hbe⟩ := Hzero.out (w1.drewN q) hr1 (hb1.trans ((below_drewN w1 q w1.heap.size).mono hb1.size))
        have h6' : (6 : Int) < (cs.length : Int) := by omega
        go_wp2_with fail
        rw [HX.out]
        exact bodyPost_ret (v := .tuple #[.agg #[.int .i64 0, .slice none 0 0], .int .i64 6]) (by simp [results, Try.results27, go_sem, x0, x1]) rfl ⟨hbe, .inr ⟨by decide, rfl⟩⟩
      · have HX : Hid (xe = 0) := by show _ = _; rw [hxe.out]; exact pickE_ok HP.out h6
        have h6' : ¬ (6 : Int) < (cs.length : Int) := by omega
        obtain rfl : k = cs.length := by omega
        clear Hzero d0 d1 f0 f1 hk i0 hlt
        have z0 : ((w1.drewN q).alloc (.cells #[.int .i64 0, .slice none 0 0] 47)).heap[w1.heap.size]? = some (.cells #[.int .i64 0, .slice none 0 0] 47 (0, 0)) := heapNew (by simp)
        have z1 : ((w1.drewN q).alloc (.cells #[.int .i64 0, .slice none 0 0] 47)).cell? ⟨w1.heap.size, 0, none⟩ = some (.int .i64 0) := (cell_of_row _ _ 0 _ _ _ z0).trans rfl
        have z2 : ((w1.drewN q).alloc (.cells #[.int .i64 0, .slice none 0 0] 47)).cell? ⟨w1.heap.size, 1, none⟩ = some (.slice none 0 0) := (cell_of_row _ _ 1 _ _ _ z0).trans rfl
        have z3 : ((w1.drewN q).alloc (.cells #[.int .i64 0, .slice none 0 0] 47)).frozen? ⟨w1.heap.size, 0, none⟩ = false := frozen_of_row _ _ _ _ _ z0
        have z4 : ((w1.drewN q).alloc (.cells #[.int .i64 0, .slice none 0 0] 47)).frozen? ⟨w1.heap.size, 1, none⟩ = false := frozen_of_row _ _ _ _ _ z0
        have Q2 := Lib.hid (set_one (v := .slice none 0 0) (set_zero2 (v := .int .i64 (cs.length : Int)) z0))
        have hbz : Below w1.heap.size w1 ((w1.drewN q).alloc (.cells #[.int .i64 0, .slice none 0 0] 47)) := belowA (below_drewN w1 q w1.heap.size) _
        have hby : Below w1.heap.size w1 ((((w1.drewN q).alloc (.cells #[.int .i64 0, .slice none 0 0] 47)).setCell ⟨w1.heap.size, 0, none⟩ (.int .i64 (cs.length : Int))).setCell ⟨w1.heap.size, 1, none⟩ (.slice none 0 0)) := (hbz.setCell (by simp) _).setCell (by simp) _
        have Q0 := Lib.hid ((hby.block _ (Array.getElem?_eq_some_iff.1 hr0).1).trans hr0)
        have Q1 := Lib.hid ((hby.block _ (Array.getElem?_eq_some_iff.1 hr1).1).trans hr1)
        have hbx := below_next hb1 hby
        clear hby hbz hr0 hr1 z0 c0 c1
        go_wp2_with fail
        generalize ((((w1.drewN q).alloc (.cells #[.int .i64 0, .slice none 0 0] 47)).setCell ⟨w1.heap.size, 0, none⟩ (.int .i64 (cs.length : Int))).setCell ⟨w1.heap.size, 1, none⟩ (.slice none 0 0)) = w4 at *
        clear z1 z2 z3 z4 hb1
        have H1s := hs1.out
        generalize w1.heap.size = ob at *
        subst H1s
        clear hs1
        go_loopw [8, 9, 10] (fun i _ _ wr => ∃ (k : Nat) (F : List (List GV)) (A' : Option Addr) (c' : Nat), k ≤ L.length ∧ i = .int .i64 k ∧ Hid (F = uniL [] ((L.map fun t => pickV t cs).take k)) ∧ Hid (wr.heap[w.heap.size]? = some (.cells #[.int .i64 (n : Int), .slice A L.length c] 47 (0, 0))) ∧
            Hid (wr.heap[w.heap.size + 1]? = some (.cells #[.int .i64 0, .slice none 0 0] 47 (0, 0))) ∧ Hid (wr.heap[w.heap.size + 1 + 1]? = some (.cells #[.int .i64 (cs.length : Int), .slice A' F.length c'] 47 (0, 0))) ∧
            Hid (SliceFar (Enc.slice Enc.val) wr [w.heap.size + 1, w.heap.size + 1 + 1] A' F.length c' F) ∧ Below w.heap.size w wr) (fun i _ _ _ => L.length - (intOf i).toNat)
        case atStart => exact ⟨0, [], none, 0, by omega, rfl, rfl, Q0, Q1, Q2, SliceFar.nil, hbx⟩
        case round =>
          obtain ⟨j, F, A', c', hj, rfl, HFk, H0, H1, H2, HSf, hbr⟩ := hrel
          have j0 : (0 : Int) ≤ (j : Int) := by omega
          have e1 : wr.cell? ⟨w.heap.size, 1, none⟩ = some (.slice A L.length c) := (cell_of_row _ _ 1 _ _ _ H0.out).trans rfl
          have hFl : F.length ≤ 1000 := by
            have := uniL_len ((L.map fun t => pickV t cs).take j) []
            rw [← HFk.out, List.length_take, List.length_map] at this
            simp at this; omega
          by_cases hjt : j < L.length
          · have j1 : (j : Int) < (L.length : Int) := by omega
            obtain ⟨b, o, t, A1, n1, c1', rfl, hb, hx, hct, ht⟩ := (HL.out.below hbr).slice_at hjt
            have r1 := HRt.out t (List.mem_of_getElem? hx.out)
            have hok := vals_ok ht
            have hPk := Lib.hid (refPick_any A1 B n1 c1' cs.length d t cs wr (ht.mono hbr.size (fun _ _ => rfl)) (HC.out.mono hbr.size hbr.block) (by omega))
            have hpe : pickE t.length cs = 0 := pickE_ok (by rw [show t.length = n by omega]; exact HP.out) h6
            rw [hpe, show pickL t cs = pickV t cs by simp [pickL, hpe]] at hPk
            have hm1 : (L.map fun t => pickV t cs)[j]? = some (pickV t cs) := by rw [List.getElem?_map, hx.out]; rfl
            have Hm : Hid (putL F (pickV t cs) = uniL [] ((L.map fun t => pickV t cs).take (j + 1))) := by show _ = _; rw [uni_take hm1, HFk.out]
            have Hok := Lib.hid (pickV_ok hok cs)
            have Hl := Lib.hid (pickV_len t cs)
            generalize pickV t cs = pv at *
            clear hok hpe hm1 ht hx r1 HFk
            go_wp2_with fail
            refine hPk.out.mono ?_
            rintro e w2 ⟨A2, c2, rfl, hown, hb2⟩
            have hpl6 : pv.length ≤ 6 := by have := Hl.out; omega
            have z2 := (Array.getElem?_eq_some_iff.1 H2.out).1
            have hs2 := hb2.size
            have k0 := (hb2.block _ (Array.getElem?_eq_some_iff.1 H2.out).1).trans H2.out
            have f0 : w2.frozen? ⟨w.heap.size + 1 + 1, 0, none⟩ = false := frozen_of_row _ _ _ _ _ k0
            have f1 : w2.frozen? ⟨w.heap.size + 1 + 1, 1, none⟩ = false := frozen_of_row _ _ _ _ _ k0
            have d0 : w2.cell? ⟨w.heap.size + 1 + 1, 0, none⟩ = some (.int .i64 (cs.length : Int)) := (cell_of_row _ _ 0 _ _ _ k0).trans rfl
            have d1 : w2.cell? ⟨w.heap.size + 1 + 1, 1, none⟩ = some (.slice A' F.length c') := (cell_of_row _ _ 1 _ _ _ k0).trans rfl
            have HPt := Lib.hid (refPut_any (cs.length : Int) A' A2 F.length c' pv.length c2 F pv w2 [w.heap.size + 1, w.heap.size + 1 + 1] (by
              intro b hb; simp at hb; omega) (HSf.out.on hb2) (TupOwn.is hown rfl (by simp [reachN]; omega) Hok.out) (by omega) (by omega))
            have hb3 := below_next hbr hb2
            have K0 := Lib.hid k0
            clear hown hPk k0 z2
            go_wp2_with fail
            refine HPt.out.mono ?_
            rintro e w3 ⟨A3, c3, rfl, hs3, hq3⟩
            have k2 := (hq3.block _ (Array.getElem?_eq_some_iff.1 K0.out).1).trans K0.out
            have m0 : w3.frozen? ⟨w.heap.size + 1 + 1, 0, none⟩ = false := frozen_of_row _ _ _ _ _ k2
            have m1 : w3.frozen? ⟨w.heap.size + 1 + 1, 1, none⟩ = false := frozen_of_row _ _ _ _ _ k2
            have l0 : w3.cell? ⟨w.heap.size + 1 + 1, 0, none⟩ = some (.int .i64 (cs.length : Int)) := (cell_of_row _ _ 0 _ _ _ k2).trans rfl
            have l1 : w3.cell? ⟨w.heap.size + 1 + 1, 1, none⟩ = some (.slice A' F.length c') := (cell_of_row _ _ 1 _ _ _ k2).trans rfl
            have hb4 := below_next hb2 hq3
            have hb5 := below_next hb3 hq3
            have k3 := (hb4.block _ (Array.getElem?_eq_some_iff.1 H0.out).1).trans H0.out
            have k4 := (hb4.block _ (Array.getElem?_eq_some_iff.1 H1.out).1).trans H1.out
            have Q0 := Lib.hid ((World.heap_setCells_other' (g := w.heap.size + 1 + 1) (i := 1) (v := .slice A3 (putL F pv).length c3) (by omega)).trans ((World.heap_setCells_other' (g := w.heap.size + 1 + 1) (i := 0) (v := .int .i64 (cs.length : Int)) (by omega)).trans k3))
            have Q1 := Lib.hid ((World.heap_setCells_other' (g := w.heap.size + 1 + 1) (i := 1) (v := .slice A3 (putL F pv).length c3) (by omega)).trans ((World.heap_setCells_other' (g := w.heap.size + 1 + 1) (i := 0) (v := .int .i64 (cs.length : Int)) (by omega)).trans k4))
            have Q2 := Lib.hid (set_one (v := .slice A3 (putL F pv).length c3) (set_zero2 (v := .int .i64 (cs.length : Int)) k2))
            have ho : Out [w.heap.size + 1 + 1] w3 ((w3.setCell ⟨w.heap.size + 1 + 1, 0, none⟩ (.int .i64 (cs.length : Int))).setCell ⟨w.heap.size + 1 + 1, 1, none⟩ (.slice A3 (putL F pv).length c3)) := (set_out w3 _ 0 _).trans (set_out _ _ 1 _) (fun b hb _ => hb)
            have QF := Lib.hid (SliceFar.out (U := [w.heap.size + 1, w.heap.size + 1 + 1]) hs3 ho (fun b hb _ => by simp at hb; simp [hb]) (fun b hb _ => hb))
            have hb6 : Below w.heap.size w ((w3.setCell ⟨w.heap.size + 1 + 1, 0, none⟩ (.int .i64 (cs.length : Int))).setCell ⟨w.heap.size + 1 + 1, 1, none⟩ (.slice A3 (putL F pv).length c3)) := (hb5.setCell (by simp; omega) _).setCell (by simp; omega) _
            clear k2 k3 k4 ho hs3 HPt H0 H1 H2 HSf e1 f0 f1 d0 d1 K0
            go_wp2_with fail
            go_roundw
            case rel => exact ⟨j + 1, _, A3, c3, by omega, by go_num, Hm, Q0, Q1, Q2, QF, hb6⟩
            case measure => simp [intOf]; omega
          · have j1 : ¬ (j : Int) < (L.length : Int) := by omega
            have HFU : Hid (U = F) := by
              show _ = _
              rw [hU.out, HFk.out, List.take_of_length_le (by simp; omega)]; rfl
            have g0 : wr.cell? ⟨w.heap.size + 1, 0, none⟩ = some (.int .i64 0) := (cell_of_row _ _ 0 _ _ _ H1.out).trans rfl
            have g1 : wr.cell? ⟨w.heap.size + 1, 1, none⟩ = some (.slice none 0 0) := (cell_of_row _ _ 1 _ _ _ H1.out).trans rfl
            have f0 : wr.frozen? ⟨w.heap.size + 1, 0, none⟩ = false := frozen_of_row _ _ _ _ _ H1.out
            have f1 : wr.frozen? ⟨w.heap.size + 1, 1, none⟩ = false := frozen_of_row _ _ _ _ _ H1.out
            have d0 : wr.cell? ⟨w.heap.size + 1 + 1, 0, none⟩ = some (.int .i64 (cs.length : Int)) := (cell_of_row _ _ 0 _ _ _ H2.out).trans rfl
            have d1 : wr.cell? ⟨w.heap.size + 1 + 1, 1, none⟩ = some (.slice A' F.length c') := (cell_of_row _ _ 1 _ _ _ H2.out).trans rfl
            clear HFk hU
            go_wp2_with fail
            have e2 := set_one (v := .slice A' F.length c') (set_zero2 (v := .int .i64 (cs.length : Int)) H1.out)
            have x0 := (cell_of_row _ _ 0 _ _ _ e2).trans (show _ = some (Value.int .i64 (cs.length : Int)) from rfl)
            have x1 := (cell_of_row _ _ 1 _ _ _ e2).trans (show _ = some (Value.slice A' F.length c') from rfl)
            have hbe : Below w.heap.size w ((wr.setCell ⟨w.heap.size + 1, 0, none⟩ (.int .i64 (cs.length : Int))).setCell ⟨w.heap.size + 1, 1, none⟩ (.slice A' F.length c')) := (hbr.setCell (by simp) _).setCell (by simp) _
            have ho : Out [w.heap.size + 1] wr ((wr.setCell ⟨w.heap.size + 1, 0, none⟩ (.int .i64 (cs.length : Int))).setCell ⟨w.heap.size + 1, 1, none⟩ (.slice A' F.length c')) := (set_out wr _ 0 _).trans (set_out _ _ 1 _) (fun b hb _ => hb)
            rw [HFU.out, HX.out]
            exact bodyPost_ret (v := .tuple #[.agg #[.int .i64 (cs.length : Int), .slice A' F.length c'], .int .i64 0]) (by simp [results, Try.results27, go_sem, x0, x1]) rfl
              ⟨hbe, .inl ⟨rfl, A', c', rfl, (SliceFar.out (U := []) HSf.out ho (fun b hb _ => by simp at hb; simp [hb]) (fun b hb _ => by cases hb)).is⟩⟩
end Go.Proofs.Ytgomfmfaoeojkaa
