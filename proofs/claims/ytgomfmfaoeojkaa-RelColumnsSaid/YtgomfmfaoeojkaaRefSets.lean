/- The document's Union, Minus, Both, Same, Of. Printed by wip/tools/gen_refsets.py. -/
import Derived.Test.YtgomfmfaoeojkaaRelSets0
import Derived.Test.YtgomfmfaoeojkaaRefDrop
import Derived.Deep.RegionWith
namespace Go.Proofs.Ytgomfmfaoeojkaa
open Go.RowKit

def RefRelI (S : List Nat) (ar : Int) (L : List (List GV)) (w : World) (e : Ending) (w' : World) : Prop :=
  ∃ A c, e = .returned (.tuple #[.agg #[.int .i64 ar, .slice A L.length c], .int .i64 0]) ∧ SliceFar (Enc.slice Enc.val) w' S A L.length c L ∧ Below w.heap.size w w'
def minL (L M : List (List GV)) : List (List GV) := M.foldl delL L
theorem minL_len : ∀ (M L : List (List GV)), (minL L M).length ≤ L.length + M.length
  | [], L => by simp [minL]
  | t :: M, L => by
    have h1 := minL_len M (delL L t)
    have h2 := del_len L t
    simp only [minL, List.foldl_cons, List.length_cons] at h1 ⊢
    omega
theorem min_take {L M : List (List GV)} {k : Nat} {t : List GV} (h : M[k]? = some t) : minL L (M.take (k + 1)) = delL (minL L (M.take k)) t := by
  unfold minL; rw [List.take_add_one, h, List.foldl_append]; rfl
theorem minL_sie : ∀ (M L : List (List GV)), minL L M = sieL (inM M) L
  | [], L => (List.filter_eq_self.2 (fun a _ => by simp [inM])).symm
  | t :: M, L => by
    have h1 := minL_sie M (delL L t)
    simp only [minL, List.foldl_cons] at h1 ⊢
    rw [h1]
    unfold sieL delL inM
    rw [List.filter_filter]
    congr 1
    funext x
    by_cases hx : x = t <;> by_cases hm : x ∈ M <;> simp [hx, hm]
set_option maxRecDepth 100000 in
set_option maxHeartbeats 4000000 in
theorem refUnion_any (ar arb : Int) (A B : Option Addr) (n c m d : Nat) (L M : List (List GV)) (w : World) (S : List Nat) (hS : ∀ b ∈ S, b < w.heap.size) (hl : SliceFar (Enc.slice Enc.val) w S A n c L) (hm : SliceIs (Enc.slice Enc.val) w w.heap.size B m d M) (hn : n + m ≤ 2000) (h6 : ∀ t ∈ M, t.length ≤ 100000) :
    Calls Try.prog 34 #[.agg #[.int .i64 ar, .slice A n c], .agg #[.int .i64 arb, .slice B m d]] w (RefRelI S ar (uniL L M) w) := by
  obtain rfl : L.length = n := hl.1
  obtain rfl : M.length = m := hm.1
  have HF := Lib.hid hl
  have HM := Lib.hid hm
  have H6 := Lib.hid h6
  have HS := Lib.hid hS
  have hbd := hm.bound
  obtain ⟨U, hU⟩ : ∃ U, Hid (U = uniL L M) := ⟨_, rfl⟩
  rw [← hU.out]
  clear hl hm h6 hS
  go_enter Try.func34, Try.ntmps34
  go_wp2_with fail
  have hb1 : Below w.heap.size w (((w.alloc (.cells #[.int .i64 ar, .slice A L.length c] 47)).alloc (.cells #[.int .i64 arb, .slice B M.length d] 47)).alloc (.cells #[.int .i64 0, .slice none 0 0] 47)) := belowA (belowA (belowA (Below.refl _ _) _) _) _
  have hr0 : (((w.alloc (.cells #[.int .i64 ar, .slice A L.length c] 47)).alloc (.cells #[.int .i64 arb, .slice B M.length d] 47)).alloc (.cells #[.int .i64 0, .slice none 0 0] 47)).heap[w.heap.size]? = some (.cells #[.int .i64 ar, .slice A L.length c] 47 (0, 0)) := heapOld (heapOld (heapNew rfl))
  have hr1 : (((w.alloc (.cells #[.int .i64 ar, .slice A L.length c] 47)).alloc (.cells #[.int .i64 arb, .slice B M.length d] 47)).alloc (.cells #[.int .i64 0, .slice none 0 0] 47)).heap[w.heap.size + 1]? = some (.cells #[.int .i64 arb, .slice B M.length d] 47 (0, 0)) := heapOld (heapNew (by simp))
  have hr2 : (((w.alloc (.cells #[.int .i64 ar, .slice A L.length c] 47)).alloc (.cells #[.int .i64 arb, .slice B M.length d] 47)).alloc (.cells #[.int .i64 0, .slice none 0 0] 47)).heap[w.heap.size + 1 + 1]? = some (.cells #[.int .i64 0, .slice none 0 0] 47 (0, 0)) := heapNew (by simp)
  have hf1 : SliceFar (Enc.slice Enc.val) (((w.alloc (.cells #[.int .i64 ar, .slice A L.length c] 47)).alloc (.cells #[.int .i64 arb, .slice B M.length d] 47)).alloc (.cells #[.int .i64 0, .slice none 0 0] 47)) (w.heap.size :: (w.heap.size + 1 + 1) :: S) A L.length c L := HF.out.out (S := []) (Out.of_below hb1 []) (fun _ h _ => by cases h) (fun b hb hbl => by
    rcases List.mem_cons.1 hb with h | hb
    · omega
    · rcases List.mem_cons.1 hb with h | hb
      · omega
      · exact hb)
  generalize (((w.alloc (.cells #[.int .i64 ar, .slice A L.length c] 47)).alloc (.cells #[.int .i64 arb, .slice B M.length d] 47)).alloc (.cells #[.int .i64 0, .slice none 0 0] 47)) = w1 at *
  have HF1 := Lib.hid hf1
  clear hf1
  go_loopw [6] (fun i wr => ∃ (k : Nat) (F : List (List GV)) (A' : Option Addr) (c' : Nat), k ≤ M.length ∧ i = .int .i64 k ∧ Hid (F = uniL L (M.take k)) ∧ Hid (wr.heap[w.heap.size]? = some (.cells #[.int .i64 ar, .slice A' F.length c'] 47 (0, 0))) ∧
      Hid (wr.heap[w.heap.size + 1]? = some (.cells #[.int .i64 arb, .slice B M.length d] 47 (0, 0))) ∧ Hid (wr.heap[w.heap.size + 1 + 1]? = some (.cells #[.int .i64 0, .slice none 0 0] 47 (0, 0))) ∧
      Hid (SliceFar (Enc.slice Enc.val) wr (w.heap.size :: (w.heap.size + 1 + 1) :: S) A' F.length c' F) ∧ Below w.heap.size w wr) (fun i _ => M.length - (intOf i).toNat)
  case atStart => exact ⟨0, L, A, c, by omega, rfl, rfl, hr0, hr1, hr2, HF1, hb1⟩
  case round =>
    obtain ⟨k, F, A', c', hk, rfl, HFk, H0, H1, H2, HSf, hbr⟩ := hrel
    have i0 : (0 : Int) ≤ (k : Int) := by omega
    have c0 : wr.cell? ⟨w.heap.size, 0, none⟩ = some (.int .i64 ar) := (cell_of_row _ _ 0 _ _ _ H0.out).trans rfl
    have c1 : wr.cell? ⟨w.heap.size, 1, none⟩ = some (.slice A' F.length c') := (cell_of_row _ _ 1 _ _ _ H0.out).trans rfl
    have c2 : wr.cell? ⟨w.heap.size + 1, 1, none⟩ = some (.slice B M.length d) := (cell_of_row _ _ 1 _ _ _ H1.out).trans rfl
    have hFl : F.length ≤ 2000 := by have := uniL_len (M.take k) L; rw [← HFk.out, List.length_take] at this; omega
    by_cases hlt : k < M.length
    · have i1 : (k : Int) < (M.length : Int) := by omega
      obtain ⟨b, o, x, A1, n1, c1', rfl, hb, hx, hc, h1⟩ := HM.out.slice_at hlt
      replace hc := below_cell hbr hc
      obtain rfl : x.length = n1 := h1.1
      have hxm := H6.out x (List.mem_of_getElem? hx.out)
      have HP := Lib.hid (fun (W : World) (hb : Below wr.heap.size wr W) => refPut_any ar A' A1 F.length c' x.length c1' F x W (w.heap.size :: (w.heap.size + 1 + 1) :: S) (by
          have z2 := (Array.getElem?_eq_some_iff.1 H2.out).1
          have := hb.size
          have := hbr.size
          intro b hb
          rcases List.mem_cons.1 hb with h | hb
          · omega
          · rcases List.mem_cons.1 hb with h | hb
            · omega
            · have := HS.out b hb; omega) (HSf.out.on hb) (h1.mono (below_next hbr hb).size (below_next hbr hb).block) (Nat.le_trans hFl (by decide)) hxm)
      have HF2 : Hid (putL F x = uniL L (M.take (k + 1))) := by show _ = _; rw [uni_take hx.out, HFk.out]
      clear h1 hx HFk
      go_wp2_with fail
      go_region_with ((go_at_call 49
                       with_reducible refine (HP.out _ ?s1).mono ?_
                       case s1 => repeat (first | with_reducible exact Below.refl _ _ | with_reducible refine Below.drew ?_)
                       rintro e w2 ⟨A2, c2', rfl, hs2, hq2⟩
                       have hb2 : Below wr.heap.size wr w2 := below_next (Below.drew (Below.refl _ _)) hq2
                       have k0 := (hb2.block _ (Array.getElem?_eq_some_iff.1 H0.out).1).trans H0.out
                       have f0 : w2.frozen? ⟨w.heap.size, 0, none⟩ = false := frozen_of_row _ _ _ _ _ k0
                       have f1 : w2.frozen? ⟨w.heap.size, 1, none⟩ = false := frozen_of_row _ _ _ _ _ k0
                       have d0 : w2.cell? ⟨w.heap.size, 0, none⟩ = some (.int .i64 ar) := (cell_of_row _ _ 0 _ _ _ k0).trans rfl
                       have d1 : w2.cell? ⟨w.heap.size, 1, none⟩ = some (.slice A' F.length c') := (cell_of_row _ _ 1 _ _ _ k0).trans rfl))
      all_goals
        have hb3 := below_next hbr hb2
        have k1 := (hb2.block _ (Array.getElem?_eq_some_iff.1 H1.out).1).trans H1.out
        have k2 := (hb2.block _ (Array.getElem?_eq_some_iff.1 H2.out).1).trans H2.out
        have Q0 := Lib.hid (set_one (v := .slice A2 (putL F x).length c2') (set_zero2 (v := .int .i64 ar) k0))
        have ho : Out [w.heap.size] w2 ((w2.setCell ⟨w.heap.size, 0, none⟩ (.int .i64 ar)).setCell ⟨w.heap.size, 1, none⟩ (.slice A2 (putL F x).length c2')) := (set_out w2 _ 0 _).trans (set_out _ _ 1 _) (fun b hb _ => hb)
        have Q1 := Lib.hid ((World.heap_setCells_other' (g := w.heap.size) (i := 1) (v := .slice A2 (putL F x).length c2') (by omega)).trans ((World.heap_setCells_other' (g := w.heap.size) (i := 0) (v := .int .i64 ar) (by omega)).trans k1))
        have Q2 := Lib.hid ((World.heap_setCells_other' (g := w.heap.size) (i := 1) (v := .slice A2 (putL F x).length c2') (by omega)).trans ((World.heap_setCells_other' (g := w.heap.size) (i := 0) (v := .int .i64 ar) (by omega)).trans k2))
        have QF := Lib.hid (SliceFar.out (U := w.heap.size :: (w.heap.size + 1 + 1) :: S) hs2 ho (fun b hb _ => by simp at hb; simp [hb]) (fun b hb _ => hb))
        have hb4 : Below w.heap.size w ((w2.setCell ⟨w.heap.size, 0, none⟩ (.int .i64 ar)).setCell ⟨w.heap.size, 1, none⟩ (.slice A2 (putL F x).length c2')) := (hb3.setCell (by simp) _).setCell (by simp) _
        clear k0 k1 k2 ho hs2 HP H0 H1 H2 HSf c0 c1 c2 f0 f1 d0 d1
        go_wp2_with fail
        go_roundw
        case rel => exact ⟨k + 1, _, A2, c2', by omega, by go_num, HF2, Q0, Q1, Q2, QF, hb4⟩
        case measure => simp [intOf]; omega
    · have i1 : ¬ (k : Int) < (M.length : Int) := by omega
      have HFU : Hid (U = F) := by show _ = _; rw [hU.out, HFk.out, List.take_of_length_le (by omega)]
      have g0 : wr.cell? ⟨w.heap.size + 1 + 1, 0, none⟩ = some (.int .i64 0) := (cell_of_row _ _ 0 _ _ _ H2.out).trans rfl
      have g1 : wr.cell? ⟨w.heap.size + 1 + 1, 1, none⟩ = some (.slice none 0 0) := (cell_of_row _ _ 1 _ _ _ H2.out).trans rfl
      have f0 : wr.frozen? ⟨w.heap.size + 1 + 1, 0, none⟩ = false := frozen_of_row _ _ _ _ _ H2.out
      have f1 : wr.frozen? ⟨w.heap.size + 1 + 1, 1, none⟩ = false := frozen_of_row _ _ _ _ _ H2.out
      have n1 : ¬ (2000 : Int) < (F.length : Int) := by omega
      clear HFk hU
      go_wp2_with fail
      have e2 := set_one (v := .slice A' F.length c') (set_zero2 (v := .int .i64 ar) H2.out)
      have x0 := (cell_of_row _ _ 0 _ _ _ e2).trans (show _ = some (Value.int .i64 ar) from rfl)
      have x1 := (cell_of_row _ _ 1 _ _ _ e2).trans (show _ = some (Value.slice A' F.length c') from rfl)
      have hbe : Below w.heap.size w ((wr.setCell ⟨w.heap.size + 1 + 1, 0, none⟩ (.int .i64 ar)).setCell ⟨w.heap.size + 1 + 1, 1, none⟩ (.slice A' F.length c')) := (hbr.setCell (by simp; omega) _).setCell (by simp; omega) _
      have ho : Out [w.heap.size + 1 + 1] wr ((wr.setCell ⟨w.heap.size + 1 + 1, 0, none⟩ (.int .i64 ar)).setCell ⟨w.heap.size + 1 + 1, 1, none⟩ (.slice A' F.length c')) := (set_out wr _ 0 _).trans (set_out _ _ 1 _) (fun b hb _ => hb)
      rw [HFU.out]
      exact bodyPost_ret (v := .tuple #[.agg #[.int .i64 ar, .slice A' F.length c'], .int .i64 0]) (by simp [results, Try.results34, go_sem, x0, x1]) rfl
        ⟨A', c', rfl, HSf.out.out ho (fun b hb _ => by simp at hb; simp [hb]) (fun b hb _ => by simp [hb]), hbe⟩

set_option maxRecDepth 100000 in
set_option maxHeartbeats 4000000 in
theorem refMinus_any (ar arb : Int) (A B : Option Addr) (n c m d : Nat) (L M : List (List GV)) (w : World) (S : List Nat) (hS : ∀ b ∈ S, b < w.heap.size) (hl : SliceFar (Enc.slice Enc.val) w S A n c L) (hm : SliceIs (Enc.slice Enc.val) w w.heap.size B m d M) (hn : n + m ≤ 2000) (h6 : ∀ t ∈ M, t.length ≤ 100000) :
    Calls Try.prog 35 #[.agg #[.int .i64 ar, .slice A n c], .agg #[.int .i64 arb, .slice B m d]] w (RefRel S ar (minL L M) w) := by
  obtain rfl : L.length = n := hl.1
  obtain rfl : M.length = m := hm.1
  have HF := Lib.hid hl
  have HM := Lib.hid hm
  have H6 := Lib.hid h6
  have HS := Lib.hid hS
  have hbd := hm.bound
  obtain ⟨U, hU⟩ : ∃ U, Hid (U = minL L M) := ⟨_, rfl⟩
  rw [← hU.out]
  clear hl hm h6 hS
  go_enter Try.func35, Try.ntmps35
  go_wp2_with fail
  have hb1 : Below w.heap.size w (((w.alloc (.cells #[.int .i64 ar, .slice A L.length c] 47)).alloc (.cells #[.int .i64 arb, .slice B M.length d] 47)).alloc (.cells #[.int .i64 0, .slice none 0 0] 47)) := belowA (belowA (belowA (Below.refl _ _) _) _) _
  have hr0 : (((w.alloc (.cells #[.int .i64 ar, .slice A L.length c] 47)).alloc (.cells #[.int .i64 arb, .slice B M.length d] 47)).alloc (.cells #[.int .i64 0, .slice none 0 0] 47)).heap[w.heap.size]? = some (.cells #[.int .i64 ar, .slice A L.length c] 47 (0, 0)) := heapOld (heapOld (heapNew rfl))
  have hr1 : (((w.alloc (.cells #[.int .i64 ar, .slice A L.length c] 47)).alloc (.cells #[.int .i64 arb, .slice B M.length d] 47)).alloc (.cells #[.int .i64 0, .slice none 0 0] 47)).heap[w.heap.size + 1]? = some (.cells #[.int .i64 arb, .slice B M.length d] 47 (0, 0)) := heapOld (heapNew (by simp))
  have hr2 : (((w.alloc (.cells #[.int .i64 ar, .slice A L.length c] 47)).alloc (.cells #[.int .i64 arb, .slice B M.length d] 47)).alloc (.cells #[.int .i64 0, .slice none 0 0] 47)).heap[w.heap.size + 1 + 1]? = some (.cells #[.int .i64 0, .slice none 0 0] 47 (0, 0)) := heapNew (by simp)
  have hf1 : SliceFar (Enc.slice Enc.val) (((w.alloc (.cells #[.int .i64 ar, .slice A L.length c] 47)).alloc (.cells #[.int .i64 arb, .slice B M.length d] 47)).alloc (.cells #[.int .i64 0, .slice none 0 0] 47)) (w.heap.size :: (w.heap.size + 1 + 1) :: S) A L.length c L := HF.out.out (S := []) (Out.of_below hb1 []) (fun _ h _ => by cases h) (fun b hb hbl => by
    rcases List.mem_cons.1 hb with h | hb
    · omega
    · rcases List.mem_cons.1 hb with h | hb
      · omega
      · exact hb)
  generalize (((w.alloc (.cells #[.int .i64 ar, .slice A L.length c] 47)).alloc (.cells #[.int .i64 arb, .slice B M.length d] 47)).alloc (.cells #[.int .i64 0, .slice none 0 0] 47)) = w1 at *
  have HF1 := Lib.hid hf1
  clear hf1
  go_loopw [5] (fun i wr => ∃ (k : Nat) (F : List (List GV)) (A' : Option Addr) (c' : Nat), k ≤ M.length ∧ i = .int .i64 k ∧ Hid (F = minL L (M.take k)) ∧ Hid (wr.heap[w.heap.size]? = some (.cells #[.int .i64 ar, .slice A' F.length c'] 47 (0, 0))) ∧
      Hid (wr.heap[w.heap.size + 1]? = some (.cells #[.int .i64 arb, .slice B M.length d] 47 (0, 0))) ∧ Hid (wr.heap[w.heap.size + 1 + 1]? = some (.cells #[.int .i64 0, .slice none 0 0] 47 (0, 0))) ∧
      Hid (SliceFar (Enc.slice Enc.val) wr (w.heap.size :: (w.heap.size + 1 + 1) :: S) A' F.length c' F) ∧ Below w.heap.size w wr) (fun i _ => M.length - (intOf i).toNat)
  case atStart => exact ⟨0, L, A, c, by omega, rfl, rfl, hr0, hr1, hr2, HF1, hb1⟩
  case round =>
    obtain ⟨k, F, A', c', hk, rfl, HFk, H0, H1, H2, HSf, hbr⟩ := hrel
    have i0 : (0 : Int) ≤ (k : Int) := by omega
    have c0 : wr.cell? ⟨w.heap.size, 0, none⟩ = some (.int .i64 ar) := (cell_of_row _ _ 0 _ _ _ H0.out).trans rfl
    have c1 : wr.cell? ⟨w.heap.size, 1, none⟩ = some (.slice A' F.length c') := (cell_of_row _ _ 1 _ _ _ H0.out).trans rfl
    have c2 : wr.cell? ⟨w.heap.size + 1, 1, none⟩ = some (.slice B M.length d) := (cell_of_row _ _ 1 _ _ _ H1.out).trans rfl
    have hFl : F.length ≤ 2000 := by have := minL_len (M.take k) L; rw [← HFk.out, List.length_take] at this; omega
    by_cases hlt : k < M.length
    · have i1 : (k : Int) < (M.length : Int) := by omega
      obtain ⟨b, o, x, A1, n1, c1', rfl, hb, hx, hc, h1⟩ := HM.out.slice_at hlt
      replace hc := below_cell hbr hc
      obtain rfl : x.length = n1 := h1.1
      have hxm := H6.out x (List.mem_of_getElem? hx.out)
      have HP := Lib.hid (fun (W : World) (hb : Below wr.heap.size wr W) => refDrop_any ar A' A1 F.length c' x.length c1' F x W (w.heap.size :: (w.heap.size + 1 + 1) :: S) (by
          have z2 := (Array.getElem?_eq_some_iff.1 H2.out).1
          have := hb.size
          have := hbr.size
          intro b hb
          rcases List.mem_cons.1 hb with h | hb
          · omega
          · rcases List.mem_cons.1 hb with h | hb
            · omega
            · have := HS.out b hb; omega) (HSf.out.on hb) (h1.mono (below_next hbr hb).size (below_next hbr hb).block) (Nat.le_trans hFl (by decide)))
      have HF2 : Hid (delL F x = minL L (M.take (k + 1))) := by show _ = _; rw [min_take hx.out, HFk.out]
      clear h1 hx HFk
      go_wp2_with fail
      go_region_with ((go_at_call 21
                       with_reducible refine (HP.out _ ?s1).mono ?_
                       case s1 => repeat (first | with_reducible exact Below.refl _ _ | with_reducible refine Below.drew ?_)
                       rintro e w2 ⟨A2, c2', rfl, hs2, hq2⟩
                       have hb2 : Below wr.heap.size wr w2 := below_next (Below.drew (Below.refl _ _)) hq2
                       have k0 := (hb2.block _ (Array.getElem?_eq_some_iff.1 H0.out).1).trans H0.out
                       have f0 : w2.frozen? ⟨w.heap.size, 0, none⟩ = false := frozen_of_row _ _ _ _ _ k0
                       have f1 : w2.frozen? ⟨w.heap.size, 1, none⟩ = false := frozen_of_row _ _ _ _ _ k0
                       have d0 : w2.cell? ⟨w.heap.size, 0, none⟩ = some (.int .i64 ar) := (cell_of_row _ _ 0 _ _ _ k0).trans rfl
                       have d1 : w2.cell? ⟨w.heap.size, 1, none⟩ = some (.slice A' F.length c') := (cell_of_row _ _ 1 _ _ _ k0).trans rfl))
      all_goals
        have hb3 := below_next hbr hb2
        have k1 := (hb2.block _ (Array.getElem?_eq_some_iff.1 H1.out).1).trans H1.out
        have k2 := (hb2.block _ (Array.getElem?_eq_some_iff.1 H2.out).1).trans H2.out
        have Q0 := Lib.hid (set_one (v := .slice A2 (delL F x).length c2') (set_zero2 (v := .int .i64 ar) k0))
        have ho : Out [w.heap.size] w2 ((w2.setCell ⟨w.heap.size, 0, none⟩ (.int .i64 ar)).setCell ⟨w.heap.size, 1, none⟩ (.slice A2 (delL F x).length c2')) := (set_out w2 _ 0 _).trans (set_out _ _ 1 _) (fun b hb _ => hb)
        have Q1 := Lib.hid ((World.heap_setCells_other' (g := w.heap.size) (i := 1) (v := .slice A2 (delL F x).length c2') (by omega)).trans ((World.heap_setCells_other' (g := w.heap.size) (i := 0) (v := .int .i64 ar) (by omega)).trans k1))
        have Q2 := Lib.hid ((World.heap_setCells_other' (g := w.heap.size) (i := 1) (v := .slice A2 (delL F x).length c2') (by omega)).trans ((World.heap_setCells_other' (g := w.heap.size) (i := 0) (v := .int .i64 ar) (by omega)).trans k2))
        have QF := Lib.hid (SliceFar.out (U := w.heap.size :: (w.heap.size + 1 + 1) :: S) hs2 ho (fun b hb _ => by simp at hb; simp [hb]) (fun b hb _ => hb))
        have hb4 : Below w.heap.size w ((w2.setCell ⟨w.heap.size, 0, none⟩ (.int .i64 ar)).setCell ⟨w.heap.size, 1, none⟩ (.slice A2 (delL F x).length c2')) := (hb3.setCell (by simp) _).setCell (by simp) _
        clear k0 k1 k2 ho hs2 HP H0 H1 H2 HSf c0 c1 c2 f0 f1 d0 d1
        go_wp2_with fail
        go_roundw
        case rel => exact ⟨k + 1, _, A2, c2', by omega, by go_num, HF2, Q0, Q1, Q2, QF, hb4⟩
        case measure => simp [intOf]; omega
    · have i1 : ¬ (k : Int) < (M.length : Int) := by omega
      have HFU : Hid (U = F) := by show _ = _; rw [hU.out, HFk.out, List.take_of_length_le (by omega)]
      have g0 : wr.cell? ⟨w.heap.size + 1 + 1, 0, none⟩ = some (.int .i64 0) := (cell_of_row _ _ 0 _ _ _ H2.out).trans rfl
      have g1 : wr.cell? ⟨w.heap.size + 1 + 1, 1, none⟩ = some (.slice none 0 0) := (cell_of_row _ _ 1 _ _ _ H2.out).trans rfl
      have f0 : wr.frozen? ⟨w.heap.size + 1 + 1, 0, none⟩ = false := frozen_of_row _ _ _ _ _ H2.out
      have f1 : wr.frozen? ⟨w.heap.size + 1 + 1, 1, none⟩ = false := frozen_of_row _ _ _ _ _ H2.out
      have n1 : ¬ (2000 : Int) < (F.length : Int) := by omega
      clear HFk hU
      go_wp2_with fail
      have e2 := set_one (v := .slice A' F.length c') (set_zero2 (v := .int .i64 ar) H2.out)
      have x0 := (cell_of_row _ _ 0 _ _ _ e2).trans (show _ = some (Value.int .i64 ar) from rfl)
      have x1 := (cell_of_row _ _ 1 _ _ _ e2).trans (show _ = some (Value.slice A' F.length c') from rfl)
      have hbe : Below w.heap.size w ((wr.setCell ⟨w.heap.size + 1 + 1, 0, none⟩ (.int .i64 ar)).setCell ⟨w.heap.size + 1 + 1, 1, none⟩ (.slice A' F.length c')) := (hbr.setCell (by simp; omega) _).setCell (by simp; omega) _
      have ho : Out [w.heap.size + 1 + 1] wr ((wr.setCell ⟨w.heap.size + 1 + 1, 0, none⟩ (.int .i64 ar)).setCell ⟨w.heap.size + 1 + 1, 1, none⟩ (.slice A' F.length c')) := (set_out wr _ 0 _).trans (set_out _ _ 1 _) (fun b hb _ => hb)
      rw [HFU.out]
      exact bodyPost_ret (v := .agg #[.int .i64 ar, .slice A' F.length c']) (by simp [results, Try.results35, go_sem, x0, x1]) rfl
        ⟨A', c', rfl, HSf.out.out ho (fun b hb _ => by simp at hb; simp [hb]) (fun b hb _ => by simp [hb]), hbe⟩
end Go.Proofs.Ytgomfmfaoeojkaa
