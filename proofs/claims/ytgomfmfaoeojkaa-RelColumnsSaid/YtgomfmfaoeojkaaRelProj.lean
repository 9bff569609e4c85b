/- Project, and the document's. -/
import Derived.Test.YtgomfmfaoeojkaaRelSetsW
namespace Go.Proofs.Ytgomfmfaoeojkaa
open Go.RowKit Go.Shelf

def projU (L : List (List GV)) (cs : List Int) : List (List GV) := uniL [] (L.map fun t => pickV t cs)
theorem pickV_len (t : List GV) (cs : List Int) : (pickV t cs).length = cs.length := by simp [pickV]
theorem pickV_right {n : Nat} {t : List GV} {cs : List Int} (ht : rightT t = true) (hn : t.length = n) (hp : pickOk n cs = true) (h6 : ¬ 6 < cs.length) : rightT (pickV t cs) = true := by
  unfold rightT at ht ⊢
  rw [Bool.and_eq_true, decide_eq_true_eq, List.all_eq_true] at ht ⊢
  refine ⟨by rw [pickV_len]; omega, fun x hx => ?_⟩
  obtain ⟨c, hc, rfl⟩ := List.mem_map.1 hx
  have h1 := List.all_eq_true.1 hp c hc
  simp at h1
  have hl : c.toNat < t.length := by omega
  rw [List.getD_eq_getElem?_getD, List.getElem?_eq_getElem hl]
  exact ht.2 _ (List.getElem_mem hl)

set_option maxRecDepth 100000 in
set_option maxHeartbeats 2000000 in
theorem project_any {w : World} {S : List Nat} {p n : Nat} {rb : Option Nat} {L : List (List GV)} (h : RelAt w S p rb (n : Int) L) (B : Option Addr) (m d : Nat) (cs : List Int) (hc : SliceIs Enc.int w w.heap.size B m d cs) :
    Calls Try.prog 26 #[relP p, .slice B m d] w (OfPost w.heap.size m (pickE n cs) (projU L cs) w) := by
  obtain rfl : cs.length = m := hc.1
  have hm := hc.bound
  obtain ⟨A, c, hr, hL⟩ := h.row
  have HC := Lib.hid hc
  have HL := Lib.hid hL
  have HR := Lib.hid h.right
  have hlen := h.len
  have hpl : p < w.heap.size := (Array.getElem?_eq_some_iff.1 hr).1
  have c0 : w.cell? ⟨p, 0, none⟩ = some (.int .i64 (n : Int)) := (cell_of_row _ _ 0 _ _ _ hr).trans rfl
  have c1 : w.cell? ⟨p, 1, none⟩ = some (.slice A L.length c) := (cell_of_row _ _ 1 _ _ _ hr).trans rfl
  obtain ⟨xe, hxe⟩ : ∃ xe, Hid (xe = pickE n cs) := ⟨_, rfl⟩
  obtain ⟨U, hU⟩ : ∃ U, Hid (U = projU L cs) := ⟨_, rfl⟩
  rw [← hxe.out, ← hU.out]
  clear h hc hL hr
  unfold relP
  go_enter Try.func26, Try.ntmps26
  go_wp2_with fail
  go_loop [7, 21] (fun _ i => ∃ k : Nat, k ≤ cs.length ∧ i = .int .i64 k ∧ Hid (∀ y ∈ cs.take k, 0 ≤ y ∧ y < n)) (fun _ i => cs.length - (intOf i).toNat)
  case atStart => exact ⟨0, by omega, rfl, fun y hy => by simp at hy⟩
  case round =>
    obtain ⟨k, hk, rfl, HK⟩ := hrel
    have i0 : (0 : Int) ≤ (k : Int) := by omega
    by_cases hlt : k < cs.length
    · have i1 : (k : Int) < (cs.length : Int) := by omega
      obtain ⟨b, o, x, rfl, _, hx, hcx, -⟩ := HC.out.int_at hlt
      by_cases hok : 0 ≤ x ∧ x < n
      · obtain ⟨o1, o2⟩ := hok
        have o3 : ¬ x < 0 := by omega
        have o4 : ¬ (n : Int) ≤ x := by omega
        have HK2 : Hid (∀ y ∈ cs.take (k + 1), 0 ≤ y ∧ y < n) := by
          intro y hy
          rw [List.take_add_one, hx.out] at hy
          rcases List.mem_append.1 hy with hy | hy
          · exact HK.out y hy
          · simp at hy; subst hy; exact ⟨o1, o2⟩
        clear hx HK o1 o2
        go_wp2_with fail
        go_round
        case rel => exact ⟨k + 1, by omega, by go_num, HK2⟩
        case measure => simp [intOf]; omega
      · have HX : Hid (xe = 1) := by show _ = _; rw [hxe.out]; exact pickE_no (pickOk_false (List.mem_of_getElem? hx.out) hok)
        by_cases hx0 : x < 0
        · clear hok hx HK
          go_wp2_with fail
          go_ret2
          exact ⟨Below.refl _ _, .inr ⟨by rw [HX.out]; decide, by rw [HX.out]; rfl⟩⟩
        · have hxn : (n : Int) ≤ x := by omega
          clear hok hx HK
          go_wp2_with fail
          go_ret2
          exact ⟨Below.refl _ _, .inr ⟨by rw [HX.out]; decide, by rw [HX.out]; rfl⟩⟩
    · have i1 : ¬ (k : Int) < (cs.length : Int) := by omega
      have HP : Hid (pickOk n cs = true) := by
        have := HK.out
        rw [List.take_of_length_le (by omega)] at this
        exact pickOk_true this
      clear HK
      by_cases h6 : 6 < cs.length
      · have HX : Hid (xe = 6) := by show _ = _; rw [hxe.out]; exact pickE_long HP.out h6
        have HN := Lib.hid (new_no (cs.length : Int) (by omega) w)
        go_wp2_with fail
        refine HN.out.mono ?_
        rintro e w1 ⟨rfl, rfl⟩
        go_wp2_with fail
        go_ret2
        exact ⟨Below.refl _ _, .inr ⟨by rw [HX.out]; decide, by rw [HX.out]; rfl⟩⟩
      · have HX : Hid (xe = 0) := by show _ = _; rw [hxe.out]; exact pickE_ok HP.out h6
        have HN := Lib.hid (new_yes (cs.length : Int) (by omega) (by omega) w)
        go_wp2_with fail
        refine HN.out.mono ?_
        rintro e w1 ⟨rfl, hw1⟩
        have hb1 : Below w.heap.size w w1 := by rw [hw1]; exact belowA (Below.refl _ _) _
        have HR0 : Hid (RelNew w.heap.size w1 w.heap.size cs.length []) := by
          show RelNew _ _ _ _ _
          rw [hw1]
          exact ⟨none, RelAt.new _ (by simp), Nat.le_refl _, by simp, fun b hb => by cases hb⟩
        have e1 : w1.cell? ⟨p, 1, none⟩ = some (.slice A L.length c) := below_cell hb1 c1
        clear hw1 HN
        obtain ⟨q, hq⟩ : ∃ q, q = w.heap.size := ⟨_, rfl⟩
        rw [← hq] at HR0
        have HR1 : Hid (RelNew w.heap.size w1 q cs.length []) := by rw [← hq]; exact HR0.out
        unfold relP
        rw [← hq]
        have Hq := Lib.hid hq
        clear hq HR0
        go_wp2_with fail
        go_loopw [11, 12, 13, 14, 15, 51] (fun _ _ _ _ _ i wr => ∃ k : Nat, k ≤ L.length ∧ i = .int .i64 k ∧ Hid (RelNew w.heap.size wr q cs.length (uniL [] ((L.map fun t => pickV t cs).take k))) ∧ Below w.heap.size w wr) (fun _ _ _ _ _ i _ => L.length - (intOf i).toNat)
        case atStart => exact ⟨0, by omega, rfl, HR1, hb1⟩
        case round =>
          obtain ⟨j, hj, rfl, HNj, hbr⟩ := hrel
          have j0 : (0 : Int) ≤ (j : Int) := by omega
          by_cases hjt : j < L.length
          · have j1 : (j : Int) < (L.length : Int) := by omega
            obtain ⟨b, o, t, A1, n1, c1', rfl, hb, hx, hct, ht⟩ := (HL.out.below hbr).slice_at hjt
            obtain ⟨r1, r2⟩ := HR.out t (List.mem_of_getElem? hx.out)
            have hok := vals_ok ht
            have hPk := Lib.hid (pick_any A1 B n1 c1' cs.length d t cs wr (ht.mono hbr.size (fun _ _ => rfl)) (HC.out.mono hbr.size hbr.block))
            have hpe : pickE t.length cs = 0 := pickE_ok (by rw [show t.length = n by omega]; exact HP.out) h6
            rw [hpe, show pickL t cs = pickV t cs by simp [pickL, hpe]] at hPk
            have hm1 : (L.map fun t => pickV t cs)[j]? = some (pickV t cs) := by rw [List.getElem?_map, hx.out]; rfl
            have Hm := Lib.hid (uni_take (L := []) hm1)
            have hR2 := Lib.hid (pickV_right r2 (n := n) (by omega) HP.out h6)
            have Hok := Lib.hid (pickV_ok hok cs)
            have Hl := Lib.hid (pickV_len t cs)
            have hul : (uniL [] ((L.map fun t => pickV t cs).take j)).length < 2000 := by
              have := uniL_len ((L.map fun t => pickV t cs).take j) []
              rw [List.length_take, List.length_map] at this
              simp at this; omega
            generalize pickV t cs = pv at *
            clear hok hpe hm1 ht hx r1 r2
            go_wp2_with fail
            refine hPk.out.mono ?_
            rintro e w2 ⟨A2, c2, rfl, hown, hb2⟩
            have e00 : errV 45 0 = .nilIface := by simp [errV]
            rw [e00]
            clear e00
            have hb3 := below_next hbr hb2
            have hrn : RelNew w.heap.size w2 q cs.length (uniL [] ((L.map fun t => pickV t cs).take j)) := by
              obtain ⟨rb2, g1, g2, g3, g4⟩ := HNj.out
              have := hb2.size
              exact ⟨rb2, g1.on hb2, g2, by omega, fun b hb => by have := g4 b hb; omega⟩
            have hpl6 : pv.length ≤ 6 := by have := Hl.out; omega
            have HA := Lib.hid (add_new hrn hb3.size A2 pv.length c2 pv (TupOwn.is hown rfl (by simp [reachN]; omega) Hok.out))
            obtain ⟨u1, u2⟩ := add_put (ar := cs.length) (t := pv) (by rw [Hl.out]) hR2.out hul
            rw [u1, u2, ← Hm.out] at HA
            simp only [errV, if_true] at HA
            unfold relP at HA
            clear hown hrn u1 u2 hPk HNj
            go_wp2_with fail
            refine HA.out.mono ?_
            rintro e w3 ⟨rfl, hr3, hb4⟩
            have HN3 := Lib.hid hr3
            have hb5 := hb3.trans hb4
            clear hr3 HA
            go_wp2_with fail
            go_roundw
            case rel => exact ⟨j + 1, by omega, by go_num, HN3, hb5⟩
            case measure => simp [intOf]; omega
          · have j1 : ¬ (j : Int) < (L.length : Int) := by omega
            have HNU : Hid (RelNew w.heap.size wr q cs.length U) := by
              show RelNew _ _ _ _ _
              have := HNj.out
              rw [List.take_of_length_le (by simp; omega)] at this
              rw [hU.out]; exact this
            clear HNj
            go_wp2_with fail
            go_ret2
            exact ⟨hbr, .inl ⟨HX.out, q, rfl, HNU.out⟩⟩
end Go.Proofs.Ytgomfmfaoeojkaa
