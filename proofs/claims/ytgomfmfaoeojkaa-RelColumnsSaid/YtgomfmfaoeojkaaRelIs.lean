/- Is: a relation held against the document's one. -/
import Derived.Test.YtgomfmfaoeojkaaRelKept
import Derived.Test.YtgomfmfaoeojkaaRelHas
namespace Go.Proofs.Ytgomfmfaoeojkaa
open Go.RowKit Go.Shelf
attribute [local go_sem] Oper.semAt_some

theorem set_zero {W : World} {g e : Nat} {a v : Value} (h : W.heap[g]? = some (.cells #[a] e (0, 0))) : (W.setCell ⟨g, 0, none⟩ v).heap[g]? = some (.cells #[v] e (0, 0)) := by
  simp [World.setCell, Array.getElem?_modify, h]
theorem World.heap_setCells_other' {W : World} {g i b : Nat} {v : Value} (h : b ≠ g) : (W.setCell ⟨g, i, none⟩ v).heap[b]? = W.heap[b]? := by
  simp [World.setCell, Array.getElem?_modify, Ne.symm h]
theorem World.size_setCell' {W : World} {a : Addr} {v : Value} : (W.setCell a v).heap.size = W.heap.size := by
  simp [World.setCell]
theorem RelAt.lt {w : World} {S : List Nat} {p : Nat} {rb : Option Nat} {ar : Int} {L : List (List GV)} (h : RelAt w S p rb ar L) : ∀ b ∈ p :: rb.toList, b < w.heap.size := by
  obtain ⟨A, c, xs, h1, h2, h3, -⟩ := h.ex
  intro b hb
  simp at hb
  rcases hb with rfl | hb
  · exact (Array.getElem?_eq_some_iff.1 h1).1
  · rw [← h3] at hb
    rcases h2.2 with ⟨hn, _⟩ | ⟨g, cap, cur, hv, hg, hh, r⟩
    · rw [hn] at hb; cases hb
    · rw [hv] at hb; injection hb with hb; subst hb; exact (Array.getElem?_eq_some_iff.1 hh).1

set_option maxRecDepth 100000 in
set_option maxHeartbeats 4000000 in
theorem is_yes {w : World} {S : List Nat} {p : Nat} {rb : Option Nat} {ar : Int} {L : List (List GV)} (h : RelAt w S p rb ar L) (A : Option Addr) (c : Nat) (hl : SliceIs (Enc.slice Enc.val) w w.heap.size A L.length c L) :
    Calls Try.prog 24 #[relP p, .agg #[.int .i64 ar, .slice A L.length c]] w (RetBool true w) := by
  have hlen := h.len
  have HA := Lib.hid (fun (W : World) (hb : Below w.heap.size w W) => arity_any (h.on hb))
  have HN := Lib.hid (fun (W : World) (hb : Below w.heap.size w W) => len_any (h.on hb))
  unfold relP at HA HN ⊢
  refine (callsIn_wide (n := 8)).1 ?_
  refine callsIn_of_wp_marks Try.func24 rfl trivial ?_ rfl
  simp only [Try.ntmps24, List.size_toArray, List.length_cons, List.length_nil, Nat.reduceAdd, Nat.reduceSub, Array.replicate_succ, Array.replicate_zero, List.push_toArray, List.append_toArray, List.nil_append, List.cons_append]
  refine wpIn_wide.2 ?_
  go_wp2_with fail
  have hb1 : Below w.heap.size w ((w.alloc (.cells #[.int .i64 ar, .slice A L.length c] 47)).alloc (.cells #[.bool false] 4)) := belowA (belowA (Below.refl _ _) _) _
  have hr0 : ((w.alloc (.cells #[.int .i64 ar, .slice A L.length c] 47)).alloc (.cells #[.bool false] 4)).heap[w.heap.size]? = some (.cells #[.int .i64 ar, .slice A L.length c] 47 (0, 0)) := heapOld (heapNew rfl)
  have hr1 : ((w.alloc (.cells #[.int .i64 ar, .slice A L.length c] 47)).alloc (.cells #[.bool false] 4)).heap[w.heap.size + 1]? = some (.cells #[.bool false] 4 (0, 0)) := heapNew (by simp)
  have hz1 : ((w.alloc (.cells #[.int .i64 ar, .slice A L.length c] 47)).alloc (.cells #[.bool false] 4)).heap.size = w.heap.size + 2 := by simp
  generalize ((w.alloc (.cells #[.int .i64 ar, .slice A L.length c] 47)).alloc (.cells #[.bool false] 4)) = w1 at *
  have ca : w1.cell? ⟨w.heap.size, 0, none⟩ = some (.int .i64 ar) := (cell_of_row _ _ 0 _ _ _ hr0).trans rfl
  have cl : w1.cell? ⟨w.heap.size, 1, none⟩ = some (.slice A L.length c) := (cell_of_row _ _ 1 _ _ _ hr0).trans rfl
  have HA1 := Lib.hid (fun n => HA.out (w1.drewN n) (below_next hb1 (below_drewN _ _ _)))
  have HN1 := Lib.hid (fun n => HN.out (w1.drewN n) (below_next hb1 (below_drewN _ _ _)))
  go_quiet ((first | (go_at_call 50; exact Calls.quiet_of_same (HA1.out _)) | (go_at_call 13; exact Calls.quiet_of_same (HN1.out _))))
  go_wp2_with fail
  have hb2 : Below w.heap.size w ((w1.drewN nq).alloc (.cells #[.int .i64 0] 3)) := belowA (below_next hb1 (below_drewN _ _ _)) _
  have q0 : ((w1.drewN nq).alloc (.cells #[.int .i64 0] 3)).heap[w.heap.size]? = some (.cells #[.int .i64 ar, .slice A L.length c] 47 (0, 0)) := heapOld hr0
  have q1 : ((w1.drewN nq).alloc (.cells #[.int .i64 0] 3)).heap[w.heap.size + 1]? = some (.cells #[.bool false] 4 (0, 0)) := heapOld hr1
  have q2 : ((w1.drewN nq).alloc (.cells #[.int .i64 0] 3)).heap[w.heap.size + 2]? = some (.cells #[.int .i64 0] 3 (0, 0)) := heapNew (by simpa using hz1)
  generalize ((w1.drewN nq).alloc (.cells #[.int .i64 0] 3)) = w2 at *
  refine (all_any p _).mono ?_
  rintro e w3 ⟨hb3, g, hg, rfl, cg, ck⟩
  go_wp2_with fail
  have q2l := (Array.getElem?_eq_some_iff.1 q2).1
  have hbw := hb2.trans (hb3.mono (Nat.le_of_lt (by omega)))
  have s0 := (hb3.block _ (by omega)).trans q0
  have s1 := (hb3.block _ (by omega)).trans q1
  have s2 := (hb3.block _ (by omega)).trans q2
  have hz3 := hb3.size
  have hz2 := hb2.size
  have hbS : ∀ b ∈ p :: rb.toList, b < w.heap.size := fun b hb => h.lt b hb
  have HR : RelAt w3 ((w.heap.size + 2) :: (w.heap.size + 1) :: (p :: rb.toList)) p rb ar L := h.own.out (T := []) (Out.of_below hbw []) (fun _ h _ => by cases h) (fun b hb hbl => by simp only [List.mem_cons] at hb; rcases hb with hb | hb | hb; omega; omega; exact List.mem_cons.2 hb) (by simp) (fun b hb => by simp [hb])
  have HQ := all_seq HR cg ck (by intro hh; simp only [List.mem_cons] at hh; rcases hh with hh | hh | hh; omega; omega; have := hbS _ (by simpa using hh); omega) (by intro b hh; simp only [List.mem_cons] at hh; rcases hh with hh | hh | hh; omega; omega; have := hbS _ (by simpa using hh); omega)
  refine (wpIn_wide (n := 8)).1 (range_law (hg := rfl) (eg := enters_of Try.func60 (by kernel_rfl) rfl) (hseq := HQ) (hb0 := Below.refl _ _) ?hS (hps := fun _ => rfl) rx_soft
    (I := fun N pre W => W.heap[w.heap.size]? = some (.cells #[.int .i64 ar, .slice A L.length c] 47 (0, 0)) ∧ W.heap[w.heap.size + 1]? = some (.cells #[.bool false] 4 (0, 0)) ∧ W.heap[w.heap.size + 2]? = some (.cells #[.int .i64 pre.length] 3 (0, 0)) ∧ Below w.heap.size w W)
    (Ix := fun _ _ _ _ => False) ?hI (fun _ _ _ _ _ h _ => h) ?h0 ?round ?done (fun _ _ _ _ _ h => h.elim))
  case hS => intro b hh; simp only [List.mem_cons] at hh; rcases hh with hh | hh | hh; omega; omega; have := hbS _ (by simpa using hh); omega
  case hI =>
    rintro N pre W W' ⟨h1, h2, h3, h4⟩ hs
    exact ⟨hs.row h1, hs.row h2, hs.row h3, h4.trans (hs.below (by omega) h4.size)⟩
  case h0 =>
    intro N W hs _ _
    exact ⟨hs.row s0, hs.row s1, hs.row s2, hbw.trans (hs.below (by omega) hbw.size)⟩
  case round =>
    rintro k N pre x W0 W1 W2 K ⟨h1, h2, h3, h4⟩ hs hN hN2 hx hK
    have HK := Lib.hid hK
    clear hK
    simp only [encX]
    gi_wp2
    refine HK.out _ ?_
    clear HK
    obtain ⟨hx1, hx2⟩ := rx_at hx
    have hxs := rx_is hx
    have t1 := hs.row h1
    have t2 := hs.row h2
    have t3 := hs.row h3
    have hb4 : Below w.heap.size w W2 := h4.trans (hs.below (by omega) h4.size)
    have cm : W2.cell? ⟨w.heap.size, 1, none⟩ = some (.slice A L.length c) := (cell_of_row _ _ 1 _ _ _ t1).trans rfl
    have cn : W2.cell? ⟨w.heap.size + 2, 0, none⟩ = some (.int .i64 pre.length) := (cell_of_row _ _ 0 _ _ _ t3).trans rfl
    have i0 : (0 : Int) ≤ (pre.length : Int) := by omega
    have i1 : (pre.length : Int) < (L.length : Int) := by omega
    obtain ⟨b, o, y, A1, n1, c1, rfl, hb, hy, hc, hsl⟩ := (hl.below hb4).slice_at hx2
    have hyx : y = x.t := by have := hy.out; rw [hx1] at this; injection this with this; exact this.symm
    have HT := Lib.hid (tuple_eq x.A A1 x.t.length n1 x.c c1 x.t W2 hxs (by rw [← hyx]; exact hsl.mono hb4.size (fun _ _ => rfl)))
    generalize hpl : pre.length = k0 at *
    clear hx h1 h2 h3 h4 hsl hy hyx hxs hx1 HA HN HQ HR ca cl HA1 HN1 h hl
    have hlk : decide (L.length ≤ k0) = false := by simp; omega
    gi_wp2_with fail
    refine ⟨trivial, (fun h => by cases h), (CallsIn.inRound _ (callsIn_wide.2 HT.out)).mono ?_⟩
    rintro e w4 ⟨rfl, hb5⟩
    have u1 := (hb5.block _ (Array.getElem?_eq_some_iff.1 t1).1).trans t1
    have u2 := (hb5.block _ (Array.getElem?_eq_some_iff.1 t2).1).trans t2
    have u3 := (hb5.block _ (Array.getElem?_eq_some_iff.1 t3).1).trans t3
    have cn4 : w4.cell? ⟨w.heap.size + 2, 0, none⟩ = some (.int .i64 k0) := (cell_of_row _ _ 0 _ _ _ u3).trans rfl
    have f4 : w4.frozen? ⟨w.heap.size + 2, 0, none⟩ = false := frozen_of_row _ _ _ _ _ u3
    clear HT
    gi_wp2_with fail
    refine ⟨?_, ?_, ?_, ?_, ?_⟩
    · exact Turn.of_out ((Out.of_below hb5 [w.heap.size + 2]).trans (set_out w4 (w.heap.size + 2) 0 _) (fun b hb _ => hb)) (by have := hs.size; omega) (fun b hb => .inl (by simp at hb; simp [hb]))
    · exact (World.heap_setCells_other' (by omega)).trans u1
    · exact (World.heap_setCells_other' (by omega)).trans u2
    · have := set_zero (v := .int .i64 ((k0 : Int) + 1)) u3
      rw [this]; simp [hpl]
    · exact (hb4.trans (hb5.mono hb4.size)).setCell (by simp) _
  case done =>
    rintro N xs W hxs ⟨h1, h2, h3, h4⟩ hD
    have hlx : xs.length = L.length := by rw [← hxs]; simp
    rw [hlx] at h3
    have cm : W.cell? ⟨w.heap.size, 1, none⟩ = some (.slice A L.length c) := (cell_of_row _ _ 1 _ _ _ h1).trans rfl
    have cn : W.cell? ⟨w.heap.size + 2, 0, none⟩ = some (.int .i64 L.length) := (cell_of_row _ _ 0 _ _ _ h3).trans rfl
    have f4 : W.frozen? ⟨w.heap.size + 1, 0, none⟩ = false := frozen_of_row _ _ _ _ _ h2
    have cr : W.cell? ⟨w.heap.size + 1, 0, none⟩ = some (.bool false) := (cell_of_row _ _ 0 _ _ _ h2).trans rfl
    clear HA HN HQ HR ca cl HA1 HN1 h hl hxs hlx
    go_wp2_with fail
    have v2 := set_zero (v := .bool true) h2
    have hDl := (Array.getElem?_eq_some_iff.1 hD).1
    have hD2 : (W.setCell ⟨w.heap.size + 1, 0, none⟩ (.bool true)).heap[w3.heap.size]? = some (.deferred (some [])) := (World.heap_setCells_other' (by omega)).trans hD
    refine ⟨by simp, .inl ⟨_, _, rfl, run_takeDeferred hD2, ?_⟩⟩
    have cr2 : ((W.setCell ⟨w.heap.size + 1, 0, none⟩ (.bool true)).putObj w3.heap.size (.deferred none)).cell? ⟨w.heap.size + 1, 0, none⟩ = some (.bool true) := (cell_of_row _ _ 0 _ _ _ ((World.putObj_heap_other (by omega)).trans v2)).trans rfl
    have hb9 : Below w.heap.size w ((W.setCell ⟨w.heap.size + 1, 0, none⟩ (.bool true)).putObj w3.heap.size (.deferred none)) :=
      (h4.setCell (by simp) _).trans ((Soft.putObj _ (Nat.le_refl _) hD2 rfl).below (by omega) (by rw [World.size_setCell']; have := h4.size; omega))
    clear v2 hD2 hD h2 cr f4 cn cm
    exact ⟨.bool true, by simp [results, Try.results24, go_sem, cr2], rfl, hb9⟩
end Go.Proofs.Ytgomfmfaoeojkaa
