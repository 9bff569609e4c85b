/- The document's Of. -/
import Derived.Test.YtgomfmfaoeojkaaRefSets2

namespace Go.Proofs.Ytgomfmfaoeojkaa
open Go.RowKit

def RefOfPost (ar x : Int) (L : List (List GV)) (w : World) (e : Ending) (w' : World) : Prop :=
  Below w.heap.size w w' ∧ ((x = 0 ∧ ∃ A c, e = .returned (.tuple #[.agg #[.int .i64 ar, .slice A L.length c], .int .i64 0]) ∧ SliceIs (Enc.slice Enc.val) w' w'.heap.size A L.length c L) ∨
    (x ≠ 0 ∧ e = .returned (.tuple #[.agg #[.int .i64 0, .slice none 0 0], .int .i64 x])))

set_option maxRecDepth 100000 in
set_option maxHeartbeats 4000000 in
theorem refOf_any (ar : Int) (A : Option Addr) (n c : Nat) (l : List (List GV)) (w : World) (hl : SliceIs (Enc.slice Enc.val) w w.heap.size A n c l) (hn60 : n ≤ 60) (h50 : ∀ t ∈ l, t.length ≤ 50) :
    Calls Try.prog 25 #[.int .i64 ar, .slice A n c] w (RefOfPost ar (ofE ar l) (ofL ar l) w) := by
  have HL := Lib.hid hl
  have H50 := Lib.hid h50
  obtain rfl : l.length = n := hl.1
  clear hl h50
  obtain ⟨x, hx⟩ : ∃ x, Hid (x = ofE ar l) := ⟨_, rfl⟩
  obtain ⟨M, hM⟩ : ∃ M, Hid (M = ofL ar l) := ⟨_, rfl⟩
  rw [← hx.out, ← hM.out]
  go_enter Try.func25, Try.ntmps25
  have hr0 : (w.alloc (.cells #[.int .i64 0, .slice none 0 0] 47)).heap[w.heap.size]? = some (.cells #[.int .i64 0, .slice none 0 0] 47 (0, 0)) := heapNew rfl
  have c0 : (w.alloc (.cells #[.int .i64 0, .slice none 0 0] 47)).cell? ⟨w.heap.size, 0, none⟩ = some (.int .i64 0) := (cell_of_row _ _ 0 _ _ _ hr0).trans rfl
  have c1 : (w.alloc (.cells #[.int .i64 0, .slice none 0 0] 47)).cell? ⟨w.heap.size, 1, none⟩ = some (.slice none 0 0) := (cell_of_row _ _ 1 _ _ _ hr0).trans rfl
  have f0 : (w.alloc (.cells #[.int .i64 0, .slice none 0 0] 47)).frozen? ⟨w.heap.size, 0, none⟩ = false := frozen_of_row _ _ _ _ _ hr0
  have f1 : (w.alloc (.cells #[.int .i64 0, .slice none 0 0] 47)).frozen? ⟨w.heap.size, 1, none⟩ = false := frozen_of_row _ _ _ _ _ hr0
  have hb0 : Below w.heap.size w (w.alloc (.cells #[.int .i64 0, .slice none 0 0] 47)) := belowA (Below.refl _ _) _
  have zero : ∀ W, W.heap[w.heap.size]? = some (.cells #[.int .i64 0, .slice none 0 0] 47 (0, 0)) → Below w.heap.size w W →
      ((W.setCell ⟨w.heap.size, 0, none⟩ (.int .i64 0)).setCell ⟨w.heap.size, 1, none⟩ (.slice none 0 0)).cell? ⟨w.heap.size, 0, none⟩ = some (.int .i64 0) ∧ ((W.setCell ⟨w.heap.size, 0, none⟩ (.int .i64 0)).setCell ⟨w.heap.size, 1, none⟩ (.slice none 0 0)).cell? ⟨w.heap.size, 1, none⟩ = some (.slice none 0 0) ∧
      Below w.heap.size w ((W.setCell ⟨w.heap.size, 0, none⟩ (.int .i64 0)).setCell ⟨w.heap.size, 1, none⟩ (.slice none 0 0)) := fun W h hb => by
    have e2 := set_one (v := .slice none 0 0) (set_zero2 (v := .int .i64 0) h)
    exact ⟨(cell_of_row _ _ 0 _ _ _ e2).trans rfl, (cell_of_row _ _ 1 _ _ _ e2).trans rfl, (hb.setCell (by simp) _).setCell (by simp) _⟩
  have Hzero := Lib.hid zero
  clear zero
  by_cases h06 : 0 ≤ ar ∧ ar ≤ 6
  rotate_left
  · have HE : Hid (x = 6) := by show _ = _; rw [hx.out]; simp [ofE]; omega
    by_cases hlt0 : ar < 0
    · clear h06
      go_wp2_with fail
      exact bodyPost_ret (v := .tuple #[.agg #[.int .i64 0, .slice none 0 0], .int .i64 6]) (by simp [results, Try.results25, go_sem, c0, c1]) rfl ⟨hb0, .inr ⟨by rw [HE.out]; decide, by rw [HE.out]⟩⟩
    · have h6 : 6 < ar := by omega
      clear h06
      go_wp2_with fail
      exact bodyPost_ret (v := .tuple #[.agg #[.int .i64 0, .slice none 0 0], .int .i64 6]) (by simp [results, Try.results25, go_sem, c0, c1]) rfl ⟨hb0, .inr ⟨by rw [HE.out]; decide, by rw [HE.out]⟩⟩
  obtain ⟨h0, h6⟩ := h06
  have h0' : ¬ ar < 0 := by omega
  have h6' : ¬ 6 < ar := by omega
  have HE : Hid (ofE ar l = (ofGo ar [] (l.drop 0)).1 ∧ ofL ar l = (ofGo ar [] (l.drop 0)).2) := by
    show _ ∧ _
    exact ⟨by simp [ofE, h0, h6], by simp [ofL]⟩
  rw [← hx.out, ← hM.out] at HE
  go_wp2_with fail
  have hb1 : Below w.heap.size w ((w.alloc (.cells #[.int .i64 0, .slice none 0 0] 47)).alloc (.cells #[.int .i64 ar, .slice none 0 0] 47)) := belowA (belowA (Below.refl _ _) _) _
  have q0 : ((w.alloc (.cells #[.int .i64 0, .slice none 0 0] 47)).alloc (.cells #[.int .i64 ar, .slice none 0 0] 47)).heap[w.heap.size]? = some (.cells #[.int .i64 0, .slice none 0 0] 47 (0, 0)) := heapOld (heapNew rfl)
  have q1 : ((w.alloc (.cells #[.int .i64 0, .slice none 0 0] 47)).alloc (.cells #[.int .i64 ar, .slice none 0 0] 47)).heap[w.heap.size + 1]? = some (.cells #[.int .i64 ar, .slice none 0 0] 47 (0, 0)) := heapNew (by simp)
  generalize ((w.alloc (.cells #[.int .i64 0, .slice none 0 0] 47)).alloc (.cells #[.int .i64 ar, .slice none 0 0] 47)) = w1 at *
  clear c0 c1 f0 f1 hr0 hb0
  go_loopw [7] (fun i wr => ∃ (k : Nat) (L : List (List GV)) (A' : Option Addr) (c' : Nat), k ≤ l.length ∧ i = .int .i64 k ∧ Hid (x = (ofGo ar L (l.drop k)).1 ∧ M = (ofGo ar L (l.drop k)).2) ∧ Hid (wr.heap[w.heap.size]? = some (.cells #[.int .i64 0, .slice none 0 0] 47 (0, 0))) ∧
      Hid (wr.heap[w.heap.size + 1]? = some (.cells #[.int .i64 ar, .slice A' L.length c'] 47 (0, 0))) ∧ Hid (SliceFar (Enc.slice Enc.val) wr [w.heap.size, w.heap.size + 1] A' L.length c' L) ∧ L.length ≤ k ∧ Below w.heap.size w wr) (fun i _ => l.length - (intOf i).toNat)
  case atStart => exact ⟨0, [], none, 0, by omega, rfl, HE, q0, q1, SliceFar.nil, by simp, hb1⟩
  case round =>
    obtain ⟨k, L, A', c', hk, rfl, HX, H0, H1, HSf, hLk, hbr⟩ := hrel
    have i0 : (0 : Int) ≤ (k : Int) := by omega
    by_cases hlt : k < l.length
    · have i1 : (k : Int) < (l.length : Int) := by omega
      obtain ⟨b, o, t, A1, n1, c1, rfl, hb, ht, hc, h1⟩ := HL.out.slice_at hlt
      replace hc := below_cell hbr hc
      obtain rfl : t.length = n1 := h1.1
      have e0 : wr.cell? ⟨w.heap.size + 1, 0, none⟩ = some (.int .i64 ar) := (cell_of_row _ _ 0 _ _ _ H1.out).trans rfl
      have e1 : wr.cell? ⟨w.heap.size + 1, 1, none⟩ = some (.slice A' L.length c') := (cell_of_row _ _ 1 _ _ _ H1.out).trans rfl
      have hz := (Array.getElem?_eq_some_iff.1 H1.out).1
      have h50 := H50.out t (List.mem_of_getElem? ht.out)
      have HA := Lib.hid (fun (W : World) (hb : Below wr.heap.size wr W) => refAdd_any ar A' A1 L.length c' t.length c1 L t W [w.heap.size, w.heap.size + 1] (by intro b hb'; have := hb.size; simp at hb'; omega) (HSf.out.on hb) (h1.mono (below_next hbr hb).size (below_next hbr hb).block) (by omega) (by omega))
      have HB := Lib.hid (fun (W : World) (hb : Below wr.heap.size wr W) (hz8 : wr.heap.size < W.heap.size) => refAdd_any ar A' A1 L.length c' t.length c1 L t W [w.heap.size, w.heap.size + 1, wr.heap.size] (by intro b hb'; have := hb.size; simp at hb'; omega) (HSf.out.out (S := []) (Out.of_below hb []) (fun _ h _ => by cases h) (fun b hb' hbl => by simp at hb' ⊢; omega)) (h1.mono (below_next hbr hb).size (below_next hbr hb).block) (by omega) (by omega))
      have HG := Lib.hid (ofGo_at (ar := ar) (L := L) ht.out)
      have hL2 : (addL ar L t).length ≤ L.length + 1 := by
        unfold addL; split
        · have := posL_le L t; simp [insL]; omega
        · omega
      clear h1
      have a0 := cellA (o := .cells #[.int .i64 0, .slice none 0 0] 47) e0
      have a1 := cellA (o := .cells #[.int .i64 0, .slice none 0 0] 47) e1
      have a2 := cellA (o := .cells #[.int .i64 0, .slice none 0 0] 47) hc
      go_wp2_with fail
      go_region_with ((first
        | (go_at_call 22
           with_reducible refine (HB.out _ ?s1 ?s2).mono ?_
           case s2 => (simp; done)
           case s1 => repeat (first | with_reducible exact Below.refl _ _ | with_reducible refine Below.drew ?_ | with_reducible refine belowA ?_ _)
           rintro e w2 ⟨A2, c2', rfl, hs2, hq2⟩
           have HS2 := Lib.hid hs2
           have r8 : w2.heap[wr.heap.size]? = some (.cells #[.int .i64 0, .slice none 0 0] 47 (0, 0)) := (hq2.block _ (by simp)).trans (heapNew rfl)
           have r8a : w2.cell? ⟨wr.heap.size, 0, none⟩ = some (.int .i64 0) := (cell_of_row _ _ 0 _ _ _ r8).trans rfl
           have r8b : w2.cell? ⟨wr.heap.size, 1, none⟩ = some (.slice none 0 0) := (cell_of_row _ _ 1 _ _ _ r8).trans rfl
           have r8c : w2.frozen? ⟨wr.heap.size, 0, none⟩ = false := frozen_of_row _ _ _ _ _ r8
           have r8d : w2.frozen? ⟨wr.heap.size, 1, none⟩ = false := frozen_of_row _ _ _ _ _ r8
           have hbB : Below wr.heap.size wr w2 := by
             refine below_next ?_ hq2
             repeat (first | with_reducible exact Below.refl _ _ | with_reducible refine Below.drew ?_ | with_reducible refine belowA ?_ _)
           clear hs2 hq2)
        | (go_at_call 22
           with_reducible refine (HA.out _ ?s1).mono ?_
           case s1 => repeat (first | with_reducible exact Below.refl _ _ | with_reducible refine Below.drew ?_ | with_reducible refine belowA ?_ _)
           rintro e w2 ⟨A2, c2', rfl, hs2, hq2⟩
           have HS2 := Lib.hid hs2
           have hbA : Below wr.heap.size wr w2 := by
             refine below_next ?_ hq2
             repeat (first | with_reducible exact Below.refl _ _ | with_reducible refine Below.drew ?_ | with_reducible refine belowA ?_ _)
           clear hs2 hq2)))
      all_goals
        clear a0 a1 a2 e0 e1 hc HA HB
        first
        | (have hbB' := hbB
           have hb2 := hbB
           have j0 := (hb2.block _ (Array.getElem?_eq_some_iff.1 H0.out).1).trans H0.out
           have j1 := (hb2.block _ (Array.getElem?_eq_some_iff.1 H1.out).1).trans H1.out
           have p0 : ((w2.setCell ⟨wr.heap.size, 0, none⟩ (.int .i64 ar)).setCell ⟨wr.heap.size, 1, none⟩ (.slice A2 (addL ar L t).length c2')).heap[w.heap.size]? = some (.cells #[.int .i64 0, .slice none 0 0] 47 (0, 0)) := (World.heap_setCells_other' (by omega)).trans ((World.heap_setCells_other' (by omega)).trans j0)
           have p1 : ((w2.setCell ⟨wr.heap.size, 0, none⟩ (.int .i64 ar)).setCell ⟨wr.heap.size, 1, none⟩ (.slice A2 (addL ar L t).length c2')).heap[w.heap.size + 1]? = some (.cells #[.int .i64 ar, .slice A' L.length c'] 47 (0, 0)) := (World.heap_setCells_other' (by omega)).trans ((World.heap_setCells_other' (by omega)).trans j1)
           have p2 : ((w2.setCell ⟨wr.heap.size, 0, none⟩ (.int .i64 ar)).setCell ⟨wr.heap.size, 1, none⟩ (.slice A2 (addL ar L t).length c2')).heap[wr.heap.size]? = some (.cells #[.int .i64 ar, .slice A2 (addL ar L t).length c2'] 47 (0, 0)) := set_one (set_zero2 r8)
           have p3 : SliceFar (Enc.slice Enc.val) ((w2.setCell ⟨wr.heap.size, 0, none⟩ (.int .i64 ar)).setCell ⟨wr.heap.size, 1, none⟩ (.slice A2 (addL ar L t).length c2')) [w.heap.size, w.heap.size + 1] A2 (addL ar L t).length c2' (addL ar L t) := HS2.out.out ((set_out w2 wr.heap.size 0 _).trans (set_out _ _ 1 _) (fun b hb _ => hb)) (fun b hb _ => by simp at hb; simp [hb]) (fun b hb _ => by simp at hb ⊢; omega)
           have p4 : Below w.heap.size w ((w2.setCell ⟨wr.heap.size, 0, none⟩ (.int .i64 ar)).setCell ⟨wr.heap.size, 1, none⟩ (.slice A2 (addL ar L t).length c2')) := ((below_next hbr hb2).setCell (by simp; omega) _).setCell (by simp; omega) _
           clear j0 j1 r8 r8a r8b r8c r8d HS2
           obtain ⟨W8, hW8⟩ : ∃ W8, ((w2.setCell ⟨wr.heap.size, 0, none⟩ (.int .i64 ar)).setCell ⟨wr.heap.size, 1, none⟩ (.slice A2 (addL ar L t).length c2')) = W8 := ⟨_, rfl⟩
           rw [hW8] at p0 p1 p2 p3 p4 ⊢
           have m0 : W8.cell? ⟨wr.heap.size, 0, none⟩ = some (.int .i64 ar) := (cell_of_row _ _ 0 _ _ _ p2).trans rfl
           have m1 : W8.cell? ⟨wr.heap.size, 1, none⟩ = some (.slice A2 (addL ar L t).length c2') := (cell_of_row _ _ 1 _ _ _ p2).trans rfl
           have n0 : W8.cell? ⟨w.heap.size + 1, 0, none⟩ = some (.int .i64 ar) := (cell_of_row _ _ 0 _ _ _ p1).trans rfl
           have n1 : W8.cell? ⟨w.heap.size + 1, 1, none⟩ = some (.slice A' L.length c') := (cell_of_row _ _ 1 _ _ _ p1).trans rfl
           have n2 : W8.frozen? ⟨w.heap.size + 1, 0, none⟩ = false := frozen_of_row _ _ _ _ _ p1
           have n3 : W8.frozen? ⟨w.heap.size + 1, 1, none⟩ = false := frozen_of_row _ _ _ _ _ p1
           have o0 : W8.cell? ⟨w.heap.size, 0, none⟩ = some (.int .i64 0) := (cell_of_row _ _ 0 _ _ _ p0).trans rfl
           have o1 : W8.cell? ⟨w.heap.size, 1, none⟩ = some (.slice none 0 0) := (cell_of_row _ _ 1 _ _ _ p0).trans rfl
           have o2 : W8.frozen? ⟨w.heap.size, 0, none⟩ = false := frozen_of_row _ _ _ _ _ p0
           have o3 : W8.frozen? ⟨w.heap.size, 1, none⟩ = false := frozen_of_row _ _ _ _ _ p0
           have P3 := Lib.hid p3
           have HW8 := Lib.hid hW8
           clear hW8 p3
           by_cases hz : addE ar L t = 0
           · have HX2 : Hid (x = (ofGo ar (addL ar L t) (l.drop (k + 1))).1 ∧ M = (ofGo ar (addL ar L t) (l.drop (k + 1))).2) := by
               have h1 := HX.out
               rw [HG.out, if_pos hz] at h1
               exact h1
             have hz' : ((addE ar L t : Int) != 0) = false := by simp [hz]
             have ho : Out [w.heap.size + 1] W8 ((W8.setCell ⟨w.heap.size + 1, 0, none⟩ (.int .i64 ar)).setCell ⟨w.heap.size + 1, 1, none⟩ (.slice A2 (addL ar L t).length c2')) := (set_out W8 _ 0 _).trans (set_out _ _ 1 _) (fun b hb _ => hb)
             have Q0 := Lib.hid ((World.heap_setCells_other' (g := w.heap.size + 1) (i := 1) (v := .slice A2 (addL ar L t).length c2') (by omega)).trans ((World.heap_setCells_other' (g := w.heap.size + 1) (i := 0) (v := .int .i64 ar) (by omega)).trans p0))
             have Q1 := Lib.hid (set_one (v := .slice A2 (addL ar L t).length c2') (set_zero2 (v := .int .i64 ar) p1))
             have QF := Lib.hid (SliceFar.out (U := [w.heap.size, w.heap.size + 1]) P3.out ho (fun b hb _ => by simp at hb; simp [hb]) (fun b hb _ => hb))
             have hb9 : Below w.heap.size w ((W8.setCell ⟨w.heap.size + 1, 0, none⟩ (.int .i64 ar)).setCell ⟨w.heap.size + 1, 1, none⟩ (.slice A2 (addL ar L t).length c2')) := (p4.setCell (by simp) _).setCell (by simp) _
             clear hz HX HG p0 p1 p2 ho HSf H0 H1
             go_wp2_with fail
             go_roundw
             case rel => exact ⟨k + 1, addL ar L t, A2, c2', by omega, by go_num, HX2, Q0, Q1, QF, by omega, hb9⟩
             case measure => simp [intOf]; omega
           · have HX2 : Hid (x = addE ar L t) := by
               have h1 := HX.out.1
               rw [HG.out, if_neg hz] at h1
               exact h1
             have hz' : ((addE ar L t : Int) != 0) = true := by simp [hz]
             have Hz := Lib.hid hz
             obtain ⟨x0, x1, hbe⟩ := Hzero.out W8 p0 p4
             clear hz HX HG p0 p1 p2 HSf H0 H1
             go_wp2_with fail
             have e8 := HX2.out
             exact bodyPost_ret (v := .tuple #[.agg #[.int .i64 0, .slice none 0 0], .int .i64 x]) (by simp [results, Try.results25, go_sem, x0, x1, e8]) rfl ⟨hbe, .inr ⟨by rw [e8]; exact Hz.out, rfl⟩⟩
           )
        | (have hbA' := hbA
           have hb2 := hbA
           have hbx : Below w2.heap.size w2 (w2.alloc (.cells #[.int .i64 ar, .slice A2 (addL ar L t).length c2'] 47)) := belowA (Below.refl _ _) _
           have j0 := (hb2.block _ (Array.getElem?_eq_some_iff.1 H0.out).1).trans H0.out
           have j1 := (hb2.block _ (Array.getElem?_eq_some_iff.1 H1.out).1).trans H1.out
           have p0 : (w2.alloc (.cells #[.int .i64 ar, .slice A2 (addL ar L t).length c2'] 47)).heap[w.heap.size]? = some (.cells #[.int .i64 0, .slice none 0 0] 47 (0, 0)) := heapOld j0
           have p1 : (w2.alloc (.cells #[.int .i64 ar, .slice A2 (addL ar L t).length c2'] 47)).heap[w.heap.size + 1]? = some (.cells #[.int .i64 ar, .slice A' L.length c'] 47 (0, 0)) := heapOld j1
           have p2 : (w2.alloc (.cells #[.int .i64 ar, .slice A2 (addL ar L t).length c2'] 47)).heap[w2.heap.size]? = some (.cells #[.int .i64 ar, .slice A2 (addL ar L t).length c2'] 47 (0, 0)) := heapNew rfl
           have p3 : SliceFar (Enc.slice Enc.val) (w2.alloc (.cells #[.int .i64 ar, .slice A2 (addL ar L t).length c2'] 47)) [w.heap.size, w.heap.size + 1] A2 (addL ar L t).length c2' (addL ar L t) := HS2.out.on hbx
           have p4 : Below w.heap.size w (w2.alloc (.cells #[.int .i64 ar, .slice A2 (addL ar L t).length c2'] 47)) := below_next (below_next hbr hb2) hbx
           clear j0 j1 HS2 hbx
           obtain ⟨W8, hW8⟩ : ∃ W8, (w2.alloc (.cells #[.int .i64 ar, .slice A2 (addL ar L t).length c2'] 47)) = W8 := ⟨_, rfl⟩
           rw [hW8] at p0 p1 p2 p3 p4 ⊢
           have m0 : W8.cell? ⟨w2.heap.size, 0, none⟩ = some (.int .i64 ar) := (cell_of_row _ _ 0 _ _ _ p2).trans rfl
           have m1 : W8.cell? ⟨w2.heap.size, 1, none⟩ = some (.slice A2 (addL ar L t).length c2') := (cell_of_row _ _ 1 _ _ _ p2).trans rfl
           have n0 : W8.cell? ⟨w.heap.size + 1, 0, none⟩ = some (.int .i64 ar) := (cell_of_row _ _ 0 _ _ _ p1).trans rfl
           have n1 : W8.cell? ⟨w.heap.size + 1, 1, none⟩ = some (.slice A' L.length c') := (cell_of_row _ _ 1 _ _ _ p1).trans rfl
           have n2 : W8.frozen? ⟨w.heap.size + 1, 0, none⟩ = false := frozen_of_row _ _ _ _ _ p1
           have n3 : W8.frozen? ⟨w.heap.size + 1, 1, none⟩ = false := frozen_of_row _ _ _ _ _ p1
           have o0 : W8.cell? ⟨w.heap.size, 0, none⟩ = some (.int .i64 0) := (cell_of_row _ _ 0 _ _ _ p0).trans rfl
           have o1 : W8.cell? ⟨w.heap.size, 1, none⟩ = some (.slice none 0 0) := (cell_of_row _ _ 1 _ _ _ p0).trans rfl
           have o2 : W8.frozen? ⟨w.heap.size, 0, none⟩ = false := frozen_of_row _ _ _ _ _ p0
           have o3 : W8.frozen? ⟨w.heap.size, 1, none⟩ = false := frozen_of_row _ _ _ _ _ p0
           have P3 := Lib.hid p3
           have HW8 := Lib.hid hW8
           clear hW8 p3
           by_cases hz : addE ar L t = 0
           · have HX2 : Hid (x = (ofGo ar (addL ar L t) (l.drop (k + 1))).1 ∧ M = (ofGo ar (addL ar L t) (l.drop (k + 1))).2) := by
               have h1 := HX.out
               rw [HG.out, if_pos hz] at h1
               exact h1
             have hz' : ((addE ar L t : Int) != 0) = false := by simp [hz]
             have ho : Out [w.heap.size + 1] W8 ((W8.setCell ⟨w.heap.size + 1, 0, none⟩ (.int .i64 ar)).setCell ⟨w.heap.size + 1, 1, none⟩ (.slice A2 (addL ar L t).length c2')) := (set_out W8 _ 0 _).trans (set_out _ _ 1 _) (fun b hb _ => hb)
             have Q0 := Lib.hid ((World.heap_setCells_other' (g := w.heap.size + 1) (i := 1) (v := .slice A2 (addL ar L t).length c2') (by omega)).trans ((World.heap_setCells_other' (g := w.heap.size + 1) (i := 0) (v := .int .i64 ar) (by omega)).trans p0))
             have Q1 := Lib.hid (set_one (v := .slice A2 (addL ar L t).length c2') (set_zero2 (v := .int .i64 ar) p1))
             have QF := Lib.hid (SliceFar.out (U := [w.heap.size, w.heap.size + 1]) P3.out ho (fun b hb _ => by simp at hb; simp [hb]) (fun b hb _ => hb))
             have hb9 : Below w.heap.size w ((W8.setCell ⟨w.heap.size + 1, 0, none⟩ (.int .i64 ar)).setCell ⟨w.heap.size + 1, 1, none⟩ (.slice A2 (addL ar L t).length c2')) := (p4.setCell (by simp) _).setCell (by simp) _
             clear hz HX HG p0 p1 p2 ho HSf H0 H1
             go_wp2_with fail
             go_roundw
             case rel => exact ⟨k + 1, addL ar L t, A2, c2', by omega, by go_num, HX2, Q0, Q1, QF, by omega, hb9⟩
             case measure => simp [intOf]; omega
           · have HX2 : Hid (x = addE ar L t) := by
               have h1 := HX.out.1
               rw [HG.out, if_neg hz] at h1
               exact h1
             have hz' : ((addE ar L t : Int) != 0) = true := by simp [hz]
             have Hz := Lib.hid hz
             obtain ⟨x0, x1, hbe⟩ := Hzero.out W8 p0 p4
             clear hz HX HG p0 p1 p2 HSf H0 H1
             go_wp2_with fail
             have e8 := HX2.out
             exact bodyPost_ret (v := .tuple #[.agg #[.int .i64 0, .slice none 0 0], .int .i64 x]) (by simp [results, Try.results25, go_sem, x0, x1, e8]) rfl ⟨hbe, .inr ⟨by rw [e8]; exact Hz.out, rfl⟩⟩
           )
    · have i1 : ¬ (k : Int) < (l.length : Int) := by omega
      have HX2 : Hid (x = 0 ∧ M = L) := by
        have h1 := HX.out
        rw [List.drop_eq_nil_of_le (by omega)] at h1
        exact h1
      have g0 : wr.cell? ⟨w.heap.size, 0, none⟩ = some (.int .i64 0) := (cell_of_row _ _ 0 _ _ _ H0.out).trans rfl
      have g1 : wr.cell? ⟨w.heap.size, 1, none⟩ = some (.slice none 0 0) := (cell_of_row _ _ 1 _ _ _ H0.out).trans rfl
      have f0 : wr.frozen? ⟨w.heap.size, 0, none⟩ = false := frozen_of_row _ _ _ _ _ H0.out
      have f1 : wr.frozen? ⟨w.heap.size, 1, none⟩ = false := frozen_of_row _ _ _ _ _ H0.out
      have e0 : wr.cell? ⟨w.heap.size + 1, 0, none⟩ = some (.int .i64 ar) := (cell_of_row _ _ 0 _ _ _ H1.out).trans rfl
      have e1 : wr.cell? ⟨w.heap.size + 1, 1, none⟩ = some (.slice A' L.length c') := (cell_of_row _ _ 1 _ _ _ H1.out).trans rfl
      clear HX hx hM
      go_wp2_with fail
      have e2 := set_one (v := .slice A' L.length c') (set_zero2 (v := .int .i64 ar) H0.out)
      have x0 := (cell_of_row _ _ 0 _ _ _ e2).trans (show _ = some (Value.int .i64 ar) from rfl)
      have x1 := (cell_of_row _ _ 1 _ _ _ e2).trans (show _ = some (Value.slice A' L.length c') from rfl)
      have hbe : Below w.heap.size w ((wr.setCell ⟨w.heap.size, 0, none⟩ (.int .i64 ar)).setCell ⟨w.heap.size, 1, none⟩ (.slice A' L.length c')) := (hbr.setCell (by simp) _).setCell (by simp) _
      have ho : Out [w.heap.size] wr ((wr.setCell ⟨w.heap.size, 0, none⟩ (.int .i64 ar)).setCell ⟨w.heap.size, 1, none⟩ (.slice A' L.length c')) := (set_out wr _ 0 _).trans (set_out _ _ 1 _) (fun b hb _ => hb)
      obtain ⟨q1, q2⟩ := HX2.out
      rw [q1, q2]
      exact bodyPost_ret (v := .tuple #[.agg #[.int .i64 ar, .slice A' L.length c'], .int .i64 0]) (by simp [results, Try.results25, go_sem, x0, x1]) rfl
        ⟨hbe, .inl ⟨rfl, A', c', rfl, (SliceFar.out (U := []) HSf.out ho (fun b hb _ => by simp at hb; simp [hb]) (fun b hb _ => by cases hb)).is⟩⟩
end Go.Proofs.Ytgomfmfaoeojkaa
