/- RelWalks: the walk. -/
import Derived.Test.YtgomfmfaoeojkaaRelWInv
import Derived.Test.YtgomfmfaoeojkaaRelAlive
namespace Go.Proofs.Ytgomfmfaoeojkaa
open Go.RowKit Go.Shelf
attribute [local go_sem] Oper.semAt_some

theorem one_tuple {w : World} {A : Option Addr} {n c : Nat} {l : List GV} (h : SliceIs Enc.val w w.heap.size A n c l) : SliceIs (Enc.slice Enc.val) (w.alloc (.cells #[.slice A n c] 24)) (w.alloc (.cells #[.slice A n c] 24)).heap.size (some ⟨w.heap.size, 0, none⟩) 1 1 [l] := by
  have hbe : Below w.heap.size w (w.alloc (.cells #[.slice A n c] 24)) := belowA (Below.refl _ _) _
  refine ⟨rfl, by omega, by simp [maxLen], by simp [reachN], .inr ⟨w.heap.size, 0, rfl, by simp, ?_⟩⟩
  have hrow := Go.heap_alloc_new w (.cells #[.slice A n c] 24)
  intro i x hx
  match i, hx with
  | 0, hx =>
    simp at hx; subst hx
    refine ⟨[.slice A n c], ⟨A, n, c, rfl, (h.below hbe).mono (by simp) (fun _ _ => rfl)⟩, ?_⟩
    intro j v hv
    match j, hv with
    | 0, hv => simp at hv; subst hv; exact (cell_of_row _ _ 0 _ _ _ hrow).trans rfl
  | i + 1, hx => simp at hx

set_option maxRecDepth 100000 in
set_option maxHeartbeats 4000000 in
theorem relWalks_walk (A B : Option Addr) (n c m d : Nat) (l : List (List GV)) (more : List GV) (w : World) (hl : SliceIs (Enc.slice Enc.val) w w.heap.size A n c l) (ht : SliceIs Enc.val w w.heap.size B m d more) :
    Calls Try.prog 3 #[.slice A n c, .slice B m d] w (RetBool true w) := by
  have hn := hl.bound
  have HL := Lib.hid hl
  have HT := Lib.hid ht
  have Hll := Lib.hid hl.1
  clear hl ht
  refine (callsIn_wide (n := 8)).1 ?_
  refine callsIn_of_wp_marks Try.func3 rfl trivial ?_ rfl
  simp only [Try.ntmps3, List.size_toArray, List.length_cons, List.length_nil, Nat.reduceAdd, Nat.reduceSub, Array.replicate_succ, Array.replicate_zero, List.push_toArray, List.append_toArray, List.nil_append, List.cons_append]
  refine wpIn_wide.2 ?_
  go_wp2_with fail
  have hb1 : Below w.heap.size w ((w.alloc (.cells #[.slice B m d] 24)).alloc (.cells #[.bool false] 4)) := belowA (belowA (Below.refl _ _) _) _
  have hr0 : ((w.alloc (.cells #[.slice B m d] 24)).alloc (.cells #[.bool false] 4)).heap[w.heap.size]? = some (.cells #[.slice B m d] 24 (0, 0)) := heapOld (heapNew rfl)
  have hr1 : ((w.alloc (.cells #[.slice B m d] 24)).alloc (.cells #[.bool false] 4)).heap[w.heap.size + 1]? = some (.cells #[.bool false] 4 (0, 0)) := heapNew (by simp)
  have hz1 : w.heap.size + 2 ≤ ((w.alloc (.cells #[.slice B m d] 24)).alloc (.cells #[.bool false] 4)).heap.size := by simp
  generalize ((w.alloc (.cells #[.slice B m d] 24)).alloc (.cells #[.bool false] 4)) = w1 at *
  refine (alive_any _).mono ?_
  rintro e w2 ⟨rfl, hb2⟩
  replace hr0 := (hb2.block _ (by omega)).trans hr0
  replace hr1 := (hb2.block _ (by omega)).trans hr1
  replace hz1 := Nat.le_trans hz1 hb2.size
  replace hb1 := below_next hb1 hb2
  clear hb2
  have H1 := Lib.hid (large_any A n c l w2 (HL.out.mono hb1.size hb1.block))
  go_wp2_with fail
  refine H1.out.mono ?_
  rintro e w3 ⟨r, rfl, hr, hb2⟩
  replace hr0 := (hb2.block _ (by omega)).trans hr0
  replace hr1 := (hb2.block _ (by omega)).trans hr1
  replace hz1 := Nat.le_trans hz1 hb2.size
  replace hb1 := below_next hb1 hb2
  clear hb2 H1
  have cr : w3.cell? ⟨w.heap.size + 1, 0, none⟩ = some (.bool false) := (cell_of_row _ _ 0 _ _ _ hr1).trans rfl
  have cf : w3.frozen? ⟨w.heap.size + 1, 0, none⟩ = false := frozen_of_row _ _ _ _ _ hr1
  have cm : w3.cell? ⟨w.heap.size, 0, none⟩ = some (.slice B m d) := (cell_of_row _ _ 0 _ _ _ hr0).trans rfl
  cases r with
  | true =>
    clear hr
    go_wp2_with fail
    exact ⟨.bool true, by simp [results, Try.results3, go_sem, cr], rfl, hb1.setCell (by simp) _⟩
  | false =>
  obtain ⟨h60, h50⟩ := hr rfl
  clear hr
  have hln : l.length = n := Hll.out
  cases hl0 : n with
  | zero =>
    subst hl0
    go_wp2_with fail
    exact ⟨.bool true, by simp [results, Try.results3, go_sem, cr], rfl, hb1.setCell (by simp) _⟩
  | succ n0 =>
  rw [← hl0]
  have i0 : ((n : Int) == 0) = false := by simp; omega
  have i1 : (0 : Int) < (n : Int) := by omega
  have HLg := Lib.hid (long02_any (some ⟨w3.heap.size, 0, none⟩) 1 1 [more] _ (one_tuple (HT.out.mono hb1.size hb1.block)))
  have Hn0 := Lib.hid hl0
  have H50 := Lib.hid h50
  clear hl0 h50 hln
  go_wp2_with fail
  refine HLg.out.mono ?_
  rintro e w4 ⟨r, rfl, hr, hb2⟩
  replace hb2 := belowA (Below.refl w3.heap.size w3) (.cells #[.slice B m d] 24) |>.trans (hb2.mono (by simp))
  replace hr0 := (hb2.block _ (by omega)).trans hr0
  replace hr1 := (hb2.block _ (by omega)).trans hr1
  replace hz1 := Nat.le_trans hz1 hb2.size
  replace hb1 := below_next hb1 hb2
  clear hb2 HLg cr cf cm
  have cr : w4.cell? ⟨w.heap.size + 1, 0, none⟩ = some (.bool false) := (cell_of_row _ _ 0 _ _ _ hr1).trans rfl
  have cf : w4.frozen? ⟨w.heap.size + 1, 0, none⟩ = false := frozen_of_row _ _ _ _ _ hr1
  have cm : w4.cell? ⟨w.heap.size, 0, none⟩ = some (.slice B m d) := (cell_of_row _ _ 0 _ _ _ hr0).trans rfl
  cases r with
  | true =>
    clear hr
    go_wp2_with fail
    exact ⟨.bool true, by simp [results, Try.results3, go_sem, cr], rfl, hb1.setCell (by simp) _⟩
  | false =>
  clear hr
  obtain ⟨b, o, t0, A0, n1, c1, rfl, hb, hx0, hc0, hs0⟩ := (HL.out.below hb1).slice_at (i := 0) (by have := Hn0.out; omega)
  have HO := Lib.hid (of_any (n1 : Int) _ _ _ _ w4 (HL.out.mono hb1.size hb1.block))
  rw [Nat.add_zero] at hc0
  clear hs0 HL hx0
  go_wp2_with fail
  refine HO.out.mono ?_
  rintro e w5 ⟨hb2, hor⟩
  have HOr := Lib.hid hor
  clear hor HO
  replace hr0 := (hb2.block _ (by omega)).trans hr0
  replace hr1 := (hb2.block _ (by omega)).trans hr1
  have hz4 := hz1
  replace hz1 := Nat.le_trans hz1 hb2.size
  replace hb1 := below_next hb1 hb2
  clear hb2 cr cf cm hc0
  have cr : w5.cell? ⟨w.heap.size + 1, 0, none⟩ = some (.bool false) := (cell_of_row _ _ 0 _ _ _ hr1).trans rfl
  have cf : w5.frozen? ⟨w.heap.size + 1, 0, none⟩ = false := frozen_of_row _ _ _ _ _ hr1
  rcases HOr.out with ⟨hE, p, rfl, hrel⟩ | ⟨hE, rfl⟩
  rotate_left
  · clear HOr hE
    have hr2 : (w5.alloc (.cells #[.pointer none] 28)).heap[w.heap.size + 1]? = some (.cells #[.bool false] 4 (0, 0)) := heapOld hr1
    have cr2 : (w5.alloc (.cells #[.pointer none] 28)).cell? ⟨w.heap.size + 1, 0, none⟩ = some (.bool false) := (cell_of_row _ _ 0 _ _ _ hr2).trans rfl
    have cf2 : (w5.alloc (.cells #[.pointer none] 28)).frozen? ⟨w.heap.size + 1, 0, none⟩ = false := frozen_of_row _ _ _ _ _ hr2
    have cq2 : (w5.alloc (.cells #[.pointer none] 28)).cell? ⟨w5.heap.size, 0, none⟩ = some (.pointer none) := (cell_of_row _ _ 0 _ _ _ (heapNew rfl)).trans rfl
    have hb6 := belowA hb1 (.cells #[.pointer none] 28)
    clear hr0 hr1 hr2 hz4 cr cf
    go_wp2_with fail
    exact ⟨.bool true, by simp [results, Try.results3, go_sem, cr2], rfl, hb6.setCell (by simp) _⟩
  · clear HOr
    have hr2 : (w5.alloc (.cells #[relP p] 28)).heap[w5.heap.size]? = some (.cells #[relP p] 28 (0, 0)) := heapNew rfl
    have Hrel : Hid (RelNew w4.heap.size w5 p n1 (ofL n1 l)) := hrel
    have hb2 : Below w5.heap.size w5 (w5.alloc (.cells #[relP p] 28)) := belowA (Below.refl _ _) _
    replace hr0 := (hb2.block _ (by omega)).trans hr0
    replace hr1 := (hb2.block _ (by omega)).trans hr1
    have hz5 : w5.heap.size < (w5.alloc (.cells #[relP p] 28)).heap.size := by simp
    replace hb1 := below_next hb1 hb2
    clear hE hrel cr cf
    have HR5 : Hid (∃ rb, RelAt (w5.alloc (.cells #[relP p] 28)) (p :: rb.toList) p rb n1 (ofL n1 l) ∧ w.heap.size + 2 ≤ p ∧ p < w5.heap.size ∧ ∀ b, rb = some b → w.heap.size + 2 ≤ b ∧ b < w5.heap.size) := by
      obtain ⟨rb, h1, h2, h3, h4⟩ := Hrel.out
      exact ⟨rb, h1.on hb2, by omega, h3, fun b hb => by have := h4 b hb; omega⟩
    have hcw : (w5.alloc (.cells #[relP p] 28)).cell? ⟨w5.heap.size, 0, none⟩ = some (relP p) := (cell_of_row _ _ 0 _ _ _ hr2).trans rfl
    have hL60 : (ofL n1 l).length ≤ 60 := by
      have h1 := ofGo_sub (ar := n1) l []
      simp at h1
      have : l.length = n := Hll.out
      unfold ofL; omega
    generalize ofL n1 l = L at HR5 hL60
    obtain ⟨rb0, hR, hp0, hpr, hrb0⟩ := HR5.out
    have HC := Lib.hid (rcopy_any hR)
    have HR := Lib.hid hR
    have HB0 := Lib.hid hrb0
    clear HR5 Hrel hz4 hz1 hR hrb0
    unfold relP at hcw HC
    unfold relP
    go_wp2_with fail
    refine HC.out.mono ?_
    rintro e w7 ⟨q, qb, rfl, hb7, hcop, hq1, hq2, hqb⟩
    have HR7 := Lib.hid (HR.out.on hb7)
    have HQ7 := Lib.hid hcop
    have HQB := Lib.hid hqb
    replace hr0 := (hb7.block _ (Array.getElem?_eq_some_iff.1 hr0).1).trans hr0
    replace hr1 := (hb7.block _ (Array.getElem?_eq_some_iff.1 hr1).1).trans hr1
    replace hr2 := (hb7.block _ (Array.getElem?_eq_some_iff.1 hr2).1).trans hr2
    replace hb1 := below_next hb1 hb7
    have hq1' : w5.heap.size < q := by simp at hq1; omega
    have hqb' : Hid (∀ b, qb = some b → w5.heap.size < b ∧ b < w7.heap.size) := fun b hb => by have := hqb b hb; simp at this; omega
    clear HR HC hcop hb7 hcw hqb HQB hb2 hq1 hz5
    generalize w5.heap.size = gr at *
    unfold relP
    have hb8 : Below w7.heap.size w7 (w7.alloc (.cells #[relP q] 28)) := belowA (Below.refl _ _) _
    have hr3 : (w7.alloc (.cells #[relP q] 28)).heap[w7.heap.size]? = some (.cells #[relP q] 28 (0, 0)) := heapNew rfl
    have cr8 : (w7.alloc (.cells #[relP q] 28)).cell? ⟨gr, 0, none⟩ = some (relP p) := (cell_of_row _ _ 0 _ _ _ ((hb8.block _ (Array.getElem?_eq_some_iff.1 hr2).1).trans hr2)).trans rfl
    have HLn := Lib.hid (len_any (HR7.out.on hb8))
    unfold relP at cr8 HLn
    go_wp2_with fail
    refine HLn.out.mono ?_
    rintro e w8 ⟨rfl, hw8⟩
    have H8 : Hid (w8 = w7.alloc (.cells #[relP q] 28)) := hw8
    clear hw8
    have hb9 : Below w7.heap.size w7 w8 := by rw [H8.out]; exact hb8
    replace hr0 := (hb9.block _ (Array.getElem?_eq_some_iff.1 hr0).1).trans hr0
    replace hr1 := (hb9.block _ (Array.getElem?_eq_some_iff.1 hr1).1).trans hr1
    replace hr2 := (hb9.block _ (Array.getElem?_eq_some_iff.1 hr2).1).trans hr2
    replace hr3 : w8.heap[w7.heap.size]? = some (.cells #[relP q] 28 (0, 0)) := by rw [H8.out]; exact hr3
    replace hb1 := below_next hb1 hb9
    have HR8 := Lib.hid (HR7.out.on hb9)
    have HQ8 := Lib.hid (HQ7.out.on hb9)
    clear HR7 HQ7 hb8 hb9 HLn H8 cr8
    generalize w7.heap.size = gc at *
    have hb10 : Below w8.heap.size w8 (w8.alloc (.cells #[.int .i64 0] 3)) := belowA (Below.refl _ _) _
    have cr10 : (w8.alloc (.cells #[.int .i64 0] 3)).cell? ⟨gr, 0, none⟩ = some (relP p) := (cell_of_row _ _ 0 _ _ _ ((hb10.block _ (Array.getElem?_eq_some_iff.1 hr2).1).trans hr2)).trans rfl
    have hr4 : (w8.alloc (.cells #[.int .i64 0] 3)).heap[w8.heap.size]? = some (.cells #[.int .i64 0] 3 (0, 0)) := heapNew rfl
    have HAl := Lib.hid (all_any p (w8.alloc (.cells #[.int .i64 0] 3)))
    unfold relP at cr10 HAl
    go_wp2_with fail
    have hb12 : Below w8.heap.size w8 (w8.alloc (.cells #[.int .i64 0] 3)) := belowA (Below.refl _ _) _
    refine HAl.out.mono ?_
    rintro e w9 ⟨hb11, g, hg, rfl, cg, ck⟩
    have hs10 : w8.heap.size < (w8.alloc (.cells #[.int .i64 0] 3)).heap.size := by simp
    have hb9 : Below w8.heap.size w8 w9 := below_next hb12 hb11
    have hs9 := hb9.size
    have hg8 : w8.heap.size < g := by omega
    have hg9 : g + 1 < w9.heap.size := World.block_lt_of_cell? w9 _ ck
    have hqc : q < gc := by omega
    replace hr4 := (hb11.block _ hs10).trans hr4
    have r3l := (Array.getElem?_eq_some_iff.1 hr3).1
    replace hr0 := (hb9.block _ (Array.getElem?_eq_some_iff.1 hr0).1).trans hr0
    replace hr1 := (hb9.block _ (Array.getElem?_eq_some_iff.1 hr1).1).trans hr1
    replace hr2 := (hb9.block _ (Array.getElem?_eq_some_iff.1 hr2).1).trans hr2
    replace hr3 := (hb9.block _ (Array.getElem?_eq_some_iff.1 hr3).1).trans hr3
    replace hb1 := below_next hb1 hb9
    obtain ⟨K, HK⟩ : ∃ K : WK, Hid (K = ⟨w.heap.size, gr, gc, w8.heap.size, p, q, rb0, qb, n1, L, .slice B m d⟩) := ⟨_, rfl⟩
    have HO : Hid (WOrd K) := by
      rw [HK.out]
      exact ⟨hp0, hpr, HB0.out, hq1', hqc, fun b hb => by have := hqb'.out b hb; omega, r3l⟩
    have HR9 : Hid (RelAt w9 (w8.heap.size :: p :: rb0.toList) p rb0 n1 L) := HR8.out.out (T := []) (Out.of_below hb9 []) (fun _ h _ => by cases h) (fun b hb hbl => by simp only [List.mem_cons] at hb ⊢; rcases hb with hb | hb; omega; exact hb) (by simp) (fun b hb => by simp [hb])
    have HI0 : Hid (∀ N, w9.heap.size + 2 ≤ N → ∀ W, Soft w9.heap.size w9 W → N ≤ W.heap.size → WInv K w N 0 rb0 L W) := by
      intro N hN W hs hNW
      rw [HK.out]
      have h1 : WInv ⟨w.heap.size, gr, gc, w8.heap.size, p, q, rb0, qb, n1, L, .slice B m d⟩ w w9.heap.size 0 rb0 L w9 :=
        ⟨HR9.out, HQ8.out.out (T := []) (Out.of_below hb9 []) (fun _ h _ => by cases h) (fun b hb hbl => by
            simp only [List.mem_cons, List.mem_append] at hb ⊢
            rcases hb with hb | hb | hb | hb
            · exact .inl hb
            · exact .inr (.inl hb)
            · omega
            · exact .inr (.inr hb)) (by simp) (fun b hb => by simp [hb]), fun b hb => .inl hb, hr0, hr1, hr2, hr3, hr4, hb1, Nat.le_refl _, by show w8.heap.size < w9.heap.size; omega⟩
      have h2 := h1.soft hs (by have := hb1.size; omega)
      exact ⟨h2.rel, h2.cop, fun b hb => .inl hb, h2.r0, h2.r1, h2.r2, h2.r3, h2.r4, h2.low, hNW, by show w8.heap.size < N; omega⟩
    have hbS : ∀ b ∈ w8.heap.size :: p :: rb0.toList, b < g := by
      intro b hb
      simp only [List.mem_cons, Option.mem_toList] at hb
      rcases hb with hb | hb | hb
      · omega
      · omega
      · have := HB0.out b hb; omega
    have HQ := Lib.hid (all_seq HR9.out cg ck (fun hh => by have := hbS _ hh; omega) (fun b hh => by have := hbS b hh; omega))
    have Hsort := Lib.hid (HR9.out).sorted
    clear hr0 hr1 hr2 hr3 hr4 HR9 HR8 HQ8 hb10 hb12 hb11 hb9 cr10 HAl cg ck
    go_wp2_with fail
    refine (wpIn_wide (n := 8)).1 (range_law (hg := rfl) (eg := enters_of Try.func60 (by kernel_rfl) rfl) (hseq := HQ.out) (hb0 := Below.refl _ _) ?hS (hps := fun _ => rfl) rx_soft
      (I := fun N pre W => ∃ rb M, Hid (WInv K w N pre.length rb M W) ∧ Hid (InvM L pre.length more M))
      (Ix := fun _ _ _ _ => False) ?hI (fun _ _ _ _ _ h _ => h) ?h0 ?round ?done (fun _ _ _ _ _ h => h.elim))
    case hS => intro b hh; have := hbS b hh; omega
    case hI =>
      rintro N pre W W' ⟨rb, M, h1, h2⟩ hs
      exact ⟨rb, M, h1.out.soft hs (by rw [HK.out]; have := hb1.size; show w.heap.size ≤ _; omega), h2⟩
    case h0 =>
      intro N W hs hN hNW
      exact ⟨rb0, L, HI0.out N hN W hs hNW, ⟨fun x hx => by simpa using hx, fun x hx => .inl (by simpa using hx)⟩⟩
    case round =>
      rintro k N pre x W0 W1 W2 K1 ⟨rb, M, h1, h2⟩ hs hN hN2 hx hK
      have HK1 := Lib.hid hK
      clear hK
      simp only [encX]
      gi_wp2
      refine HK1.out _ ?_
      clear HK1
      have hk := HK.out
      subst hk
      have ho := HO.out
      obtain ⟨hx1, hx2⟩ := rx_at hx
      have hxs := rx_is hx
      have hxo := hx.2.1
      have hW2 := h1.out.soft hs (by show w.heap.size ≤ _; omega)
      obtain ⟨hm, hstep⟩ := h2.out.step (ar := n1) Hsort.out hx1
      have hlt0 := fun b (hb : b ∈ p :: rb.toList) => RelAt.lt h1.out.rel b hb
      have hT2 : ∀ b ∈ p :: rb.toList, b ∈ w8.heap.size :: p :: rb0.toList ∨ N ≤ b := by
        intro b hb
        simp only [List.mem_cons, Option.mem_toList] at hb ⊢
        rcases hb with hb | hb
        · exact .inl (.inr (.inl hb))
        · rcases h1.out.rbN b hb with hb | hb
          · exact .inl (.inr (.inr hb))
          · exact .inr hb
      have hNW2 : N ≤ W2.heap.size := Nat.le_trans hN2 hs.size
      have hbase := hs.size
      have q3 : W2.cell? ⟨gc, 0, none⟩ = some (.pointer (some ⟨q, 0, none⟩)) := (cell_of_row _ _ 0 _ _ _ hW2.r3).trans rfl
      have hmL : decide (x.t ∈ L) = true := by simpa using List.mem_of_getElem? hx1
      have HH := Lib.hid (has_any hW2.cop x.A x.t.length x.c x.t hxs)
      rw [hmL] at HH
      unfold relP at HH
      have HW2 := Lib.hid hW2
      have HX2 := Lib.hid hxo
      have Hm := Lib.hid hm
      have HSt := Lib.hid hstep
      have HT2 := Lib.hid hT2
      have HL0 := Lib.hid hlt0
      have Hok := Lib.hid hx.2.2.1
      have h6 := hx.2.2.2
      clear hW2 hxs hxo hm hstep hx hx1 h1 h2 hmL HI0 HQ hT2 hlt0 HO
      gi_wp2_with fail
      refine ⟨trivial, (fun h => by cases h), (CallsIn.inRound _ (callsIn_wide.2 HH.out)).mono ?_⟩
      rintro e W3 ⟨rfl, hb3⟩
      have hW3 := HW2.out.soft (Soft.of_below w9.heap.size hb3) (by show w.heap.size ≤ _; omega)
      have hX3 : TupOwn W3 W0.heap.size (.slice x.A x.t.length x.c) x.t := own_out' HX2.out (Out.of_below hb3 []) (fun b _ hb => by cases hb)
      have hT3 := Turn.of_below (S := w8.heap.size :: p :: rb0.toList) hb3 hNW2
      have q3 : W3.cell? ⟨gr, 0, none⟩ = some (.pointer (some ⟨p, 0, none⟩)) := (cell_of_row _ _ 0 _ _ _ hW3.r2).trans rfl
      have HD := Lib.hid (drop_any hW3.rel x.A x.t.length x.c x.t (TupOwn.is hX3 rfl (by simp [reachN]; omega) Hok.out))
      rw [show decide (x.t ∈ M) = true by simpa using Hm.out] at HD
      unfold relP at HD
      have HW3 := Lib.hid hW3
      have HX3 := Lib.hid hX3
      clear hW3 hX3 HW2 HX2 HH
      gi_wp2_with fail
      refine ⟨trivial, (fun h => by cases h), (CallsIn.inRound _ (callsIn_wide.2 HD.out)).mono ?_⟩
      rintro e W4 ⟨rfl, hr4, ho4⟩
      have hxb : ∀ b, (Value.slice x.A x.t.length x.c).ownBlock = some b → b ∉ p :: rb.toList := by
        intro b hb hb'
        have h1 := (own_blk HX3.out hb).1
        have h2 := HL0.out b hb'
        omega
      have hW4 := HW3.out.out ho ho4 hr4 (fun b hb => .inl hb)
      have hX4 : TupOwn W4 W0.heap.size (.slice x.A x.t.length x.c) x.t := own_out' HX3.out ho4 hxb
      have hT4 := hT3.trans (Turn.of_out ho4 (by have := hb3.size; omega) HT2.out)
      have q4 : W4.cell? ⟨gr, 0, none⟩ = some (.pointer (some ⟨p, 0, none⟩)) := (cell_of_row _ _ 0 _ _ _ hW4.r2).trans rfl
      have HD4 := Lib.hid (drop_any hW4.rel x.A x.t.length x.c x.t (TupOwn.is hX4 rfl (by simp [reachN]; omega) Hok.out))
      rw [show decide (x.t ∈ delL M x.t) = false by simp [mem_del], show delL (delL M x.t) x.t = delL M x.t from del_not (by simp [mem_del])] at HD4
      unfold relP at HD4
      have HW4 := Lib.hid hW4
      clear hW4 hX4 HW3 HX3 HD hxb hr4
      gi_wp2_with fail
      refine ⟨trivial, (fun h => by cases h), (CallsIn.inRound _ (callsIn_wide.2 HD4.out)).mono ?_⟩
      rintro e W5 ⟨rfl, hr5, ho5⟩
      have hW5 := HW4.out.out ho ho5 hr5 (fun b hb => .inl hb)
      have hT5 := hT4.trans (Turn.of_out ho5 (by have := hT4.size; omega) HT2.out)
      have q5 : W5.cell? ⟨gr, 0, none⟩ = some (.pointer (some ⟨p, 0, none⟩)) := (cell_of_row _ _ 0 _ _ _ hW5.r2).trans rfl
      have q6 : W5.cell? ⟨w.heap.size, 0, none⟩ = some (.slice B m d) := (cell_of_row _ _ 0 _ _ _ hW5.r0).trans rfl
      have HA5 := Lib.hid (add_any hW5.rel (by
          intro b hb
          rcases List.mem_cons.1 hb with hb | hb
          · subst hb; exact (Array.getElem?_eq_some_iff.1 hW5.r4).1
          · exact RelAt.lt hW5.rel b hb) B m d more (HT.out.mono hW5.low.size hW5.low.block))
      unfold relP at HA5
      have HW5 := Lib.hid hW5
      clear hW5 HW4 HD4 hr5
      gi_wp2_with fail
      refine ⟨trivial, (fun h => by cases h), (CallsIn.inRound _ (callsIn_wide.2 HA5.out)).mono ?_⟩
      rintro e W6 ⟨rb6, rfl, hr6, ho6, hrb6⟩
      have hW6 := HW5.out.out ho ho6 (hr6.out (T := []) (Out.refl [] W6) (fun _ h _ => by cases h) (fun b hb _ => by
          simp only [List.mem_cons, List.mem_append, Option.mem_toList] at hb ⊢
          rcases hb with hb | hb | hb
          · exact .inr (.inl hb)
          · exact .inr (.inr (.inl hb))
          · exact .inl hb) (by simp) (fun b hb => by simp [hb])) (fun b hb => (hrb6 b hb).2)
      have hT6 := hT5.trans (Turn.of_out ho6 (by have := hT5.size; omega) HT2.out)
      have q7 : W6.cell? ⟨w8.heap.size, 0, none⟩ = some (.int .i64 pre.length) := (cell_of_row _ _ 0 _ _ _ hW6.r4).trans rfl
      have q8 : W6.frozen? ⟨w8.heap.size, 0, none⟩ = false := frozen_of_row _ _ _ _ _ hW6.r4
      have hk60 : pre.length < 60 := by omega
      have HW6 := Lib.hid hW6
      generalize addB (↑n1) (delL M x.t) more = b6
      generalize errV 45 (addE (↑n1) (delL M x.t) more) = e6
      clear hW6 HW5 HA5 hr6 hrb6
      gi_wp2_with fail
      refine ⟨hT6.trans (Turn.of_out (set_out W6 w8.heap.size 0 _) (by have := hT6.size; omega) (fun b hb => .inl (by simp at hb; simp [hb]))), rb6, addL n1 (delL M x.t) more, ?_, ?_⟩
      · have h9 := HW6.out.inc ho
        simp only [List.length_append, List.length_cons, List.length_nil]
        exact h9
      · simp only [List.length_append, List.length_cons, List.length_nil]
        exact HSt.out
    case done =>
      rintro N xs W hxs ⟨rb, M, h1, h2⟩ hD
      have hk := HK.out
      subst hk
      have hlx : xs.length = L.length := by rw [← hxs]; simp
      rw [hlx] at h1 h2
      have hw := h1.out
      have hM := h2.out.done hw.rel.sorted
      have c1 : W.cell? ⟨w8.heap.size, 0, none⟩ = some (.int .i64 L.length) := (cell_of_row _ _ 0 _ _ _ hw.r4).trans rfl
      have c2 : W.cell? ⟨gc, 0, none⟩ = some (.pointer (some ⟨q, 0, none⟩)) := (cell_of_row _ _ 0 _ _ _ hw.r3).trans rfl
      have c3 : W.cell? ⟨gr, 0, none⟩ = some (.pointer (some ⟨p, 0, none⟩)) := (cell_of_row _ _ 0 _ _ _ hw.r2).trans rfl
      have c4 : W.cell? ⟨w.heap.size + 1, 0, none⟩ = some (.bool false) := (cell_of_row _ _ 0 _ _ _ hw.r1).trans rfl
      have f4 : W.frozen? ⟨w.heap.size + 1, 0, none⟩ = false := frozen_of_row _ _ _ _ _ hw.r1
      have HL1 := Lib.hid (len_any hw.cop)
      have HL2 := Lib.hid (len_any hw.rel)
      have HR1 := Lib.hid hw.r1
      have HLw := Lib.hid hw.low
      have hsz := hb1.size
      unfold relP at HL1 HL2
      have hM' : (M.length : Int) ≤ 1 := by omega
      clear h1 h2 hw hxs hlx HI0 HQ HO hM hbS
      go_wp2_with fail
      refine HL1.out.mono ?_
      rintro e W8 ⟨rfl, h8⟩
      have H8 := Lib.hid h8
      subst h8
      go_wp2_with fail
      refine HL2.out.mono ?_
      rintro e W9 ⟨rfl, h9⟩
      subst h9
      go_wp2_with fail
      have v2 := set_zero (v := .bool true) HR1.out
      have hD2 : (W9.setCell ⟨w.heap.size + 1, 0, none⟩ (.bool true)).heap[w9.heap.size]? = some (.deferred (some [])) := (World.heap_setCells_other' (by omega)).trans hD
      refine ⟨by simp, .inl ⟨_, _, rfl, run_takeDeferred hD2, ?_⟩⟩
      have cr2 : ((W9.setCell ⟨w.heap.size + 1, 0, none⟩ (.bool true)).putObj w9.heap.size (.deferred none)).cell? ⟨w.heap.size + 1, 0, none⟩ = some (.bool true) := (cell_of_row _ _ 0 _ _ _ ((World.putObj_heap_other (by omega)).trans v2)).trans rfl
      have hb20 : Below w.heap.size w ((W9.setCell ⟨w.heap.size + 1, 0, none⟩ (.bool true)).putObj w9.heap.size (.deferred none)) :=
        (HLw.out.setCell (by simp) _).trans ((Soft.putObj _ (Nat.le_refl _) hD2 rfl).below (by omega) (by rw [World.size_setCell']; have := HLw.out.size; exact this))
      clear v2 hD2 hD HLw
      exact ⟨.bool true, by simp [results, Try.results3, go_sem, cr2], rfl, hb20⟩
end Go.Proofs.Ytgomfmfaoeojkaa
