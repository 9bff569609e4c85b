/- RelColumns: the walk. -/
import Derived.Test.YtgomfmfaoeojkaaRelWhere
import Derived.Test.YtgomfmfaoeojkaaRefProj
import Derived.Test.YtgomfmfaoeojkaaRelWalks
namespace Go.Proofs.Ytgomfmfaoeojkaa
open Go.RowKit Go.Shelf
attribute [local go_sem] Oper.semAt_some

theorem idx_some (x : Int) (n : Nat) (h : 0 < n) (hn : n ≤ 1000000) : ∃ k : Nat, k < n ∧ wrap64 ((IntKind.u64.wrap x).tmod (n : Int)) = (k : Int) ∧ IntKind.i64.wrap ((IntKind.u64.wrap x).tmod (n : Int)) = (k : Int) := by
  have h0 : 0 ≤ IntKind.u64.wrap x := by simp [IntKind.wrap, IntKind.signed, IntKind.bits]; omega
  rw [Int.tmod_eq_emod_of_nonneg h0]
  generalize IntKind.u64.wrap x = q at h0
  have h2 := Int.emod_nonneg q (b := (n : Int)) (by omega)
  have h3 := Int.emod_lt_of_pos q (b := (n : Int)) (by omega)
  refine ⟨(q % n).toNat, by omega, ?_, ?_⟩
  · unfold wrap64; omega
  · simp [IntKind.wrap, IntKind.signed, IntKind.bits]; omega

theorem stop_some (x : Int) : ∃ k : Nat, 1 ≤ k ∧ k ≤ 10 ∧ wrap64 (1 + wrap64 ((IntKind.u64.wrap x).tmod 10)) = (k : Int) := by
  have h0 : 0 ≤ IntKind.u64.wrap x := by simp [IntKind.wrap, IntKind.signed, IntKind.bits]; omega
  rw [Int.tmod_eq_emod_of_nonneg h0]
  generalize IntKind.u64.wrap x = q at h0
  refine ⟨(1 + q % 10).toNat, by omega, by omega, ?_⟩
  unfold wrap64; omega
/-- a box of one cell holds no tuple's values -/
theorem far_wide {w : World} {S : List Nat} {B : Option Addr} {n d : Nat} {t : List GV} (h : SliceFar Enc.val w S B n d t) {b0 : Nat} {v : Value} {e : TypeId} (hb0 : w.heap[b0]? = some (.cells #[v] e (0, 0))) : SliceFar Enc.val w (b0 :: S) B n d t := by
  obtain ⟨q1, q2, q3, q4, q5⟩ := h
  refine ⟨q1, q2, q3, q4, ?_⟩
  rcases q5 with q5 | ⟨b, o, hA, hb, hc⟩
  · exact .inl q5
  · refine .inr ⟨b, o, hA, hb, fun j x hx => ?_⟩
    obtain ⟨cs, hok, hcs⟩ := hc j x hx
    have hne : b ≠ b0 := by
      rintro rfl
      have h5 := hok.1
      have h6 := (kept_up w S _).cell hb (hcs 2 (.string x.s) (by rw [h5]; rfl))
      rw [cell_of_row _ _ _ _ _ _ hb0] at h6
      rw [Array.getElem?_eq_none (by simp)] at h6
      cases h6
    refine ⟨cs, hok, fun k u hk => ?_⟩
    have h7 := hcs k u hk
    unfold World.cell? at h7 ⊢
    rw [show (sans w (b0 :: S)).heap[b]? = (sans w S).heap[b]? by rw [sans_get, sans_get]; simp [hne]]
    exact h7
theorem RelAt.wide {w : World} {S : List Nat} {p : Nat} {rb : Option Nat} {ar : Int} {L : List (List GV)} (h : RelAt w S p rb ar L) {b0 : Nat} {v : Value} {e : TypeId} (hb0 : w.heap[b0]? = some (.cells #[v] e (0, 0))) : RelAt w (b0 :: S) p rb ar L := by
  obtain ⟨A, c, xs, h1, h2, h3, h4⟩ := h.ex
  refine ⟨⟨A, c, xs, h1, h2, h3, fun i t hi => ?_⟩, List.mem_cons_of_mem _ h.pS, fun b hb => ⟨List.mem_cons_of_mem _ (h.rS b hb).1, (h.rS b hb).2⟩, h.sorted, h.len, h.right⟩
  obtain ⟨B, n, d, hx, q⟩ := h4 i t hi
  exact ⟨B, n, d, hx, far_wide q hb0⟩
theorem HdrIs.box {W W' : World} {xs : List Value} {L : List (List GV)} (h : HdrIs W xs L) {b0 : Nat} {v : Value} {e : TypeId} (hb0 : W.heap[b0]? = some (.cells #[v] e (0, 0))) (ho : Out [b0] W W') : HdrIs W' xs L := by
  refine ⟨h.1, fun i t hi => ?_⟩
  obtain ⟨B, n, d, h1, h2⟩ := h.2 i t hi
  have h3 : SliceFar Enc.val W [] B n d t := SliceFar.old h2 (Nat.le_refl _) (by simp)
  exact ⟨B, n, d, h1, (SliceFar.out (U := []) (far_wide h3 hb0) ho (fun b hb _ => hb) (fun b hb => by cases hb)).is⟩
theorem HdrIs.of_out {V W : World} {S : List Nat} {xs : List Value} {L : List (List GV)} (h : HdrIs (sans V S) xs L) (ho : Out S V W) : HdrIs W xs L := by
  refine ⟨h.1, fun i t hi => ?_⟩
  obtain ⟨B, n, d, h1, h2⟩ := h.2 i t hi
  rw [sans_size] at h2
  exact ⟨B, n, d, h1, (SliceFar.out (U := []) h2 ho (fun b hb _ => hb) (fun b hb => by cases hb)).is⟩

set_option maxRecDepth 100000 in
set_option maxHeartbeats 8000000 in
theorem relColumns_walk (A B : Option Addr) (n c m d : Nat) (l : List (List GV)) (cs : List Int) (stop : Int) (w : World) (hl : SliceIs (Enc.slice Enc.val) w w.heap.size A n c l) (hc : SliceIs Enc.int w w.heap.size B m d cs) :
    Calls Try.prog 5 #[.slice A n c, .slice B m d, .int .i64 stop] w (RetBool true w) := by
  have hn := hl.bound
  have hm := hc.bound
  have HL := Lib.hid hl
  have HC := Lib.hid hc
  have Hll := Lib.hid hl.1
  obtain rfl : cs.length = m := hc.1
  clear hl hc
  refine (callsIn_wide (n := 8)).1 ?_
  refine callsIn_of_wp_marks Try.func5 rfl trivial ?_ rfl
  simp only [Try.ntmps5, List.size_toArray, List.length_cons, List.length_nil, Nat.reduceAdd, Nat.reduceSub, Array.replicate_succ, Array.replicate_zero, List.push_toArray, List.append_toArray, List.nil_append, List.cons_append]
  refine wpIn_wide.2 ?_
  go_wp2_with fail
  have hb1 : Below w.heap.size w ((w.alloc (.cells #[.int .i64 stop] 3)).alloc (.cells #[.bool false] 4)) := belowA (belowA (Below.refl _ _) _) _
  have hr0 : ((w.alloc (.cells #[.int .i64 stop] 3)).alloc (.cells #[.bool false] 4)).heap[w.heap.size]? = some (.cells #[.int .i64 stop] 3 (0, 0)) := heapOld (heapNew rfl)
  have hr1 : ((w.alloc (.cells #[.int .i64 stop] 3)).alloc (.cells #[.bool false] 4)).heap[w.heap.size + 1]? = some (.cells #[.bool false] 4 (0, 0)) := heapNew (by simp)
  have hz1 : w.heap.size + 2 ≤ ((w.alloc (.cells #[.int .i64 stop] 3)).alloc (.cells #[.bool false] 4)).heap.size := by simp
  generalize ((w.alloc (.cells #[.int .i64 stop] 3)).alloc (.cells #[.bool false] 4)) = w1 at *
  refine (alive_any _).mono ?_
  rintro e w2 ⟨rfl, hb2⟩
  replace hr0 := (hb2.block _ (by omega)).trans hr0
  replace hr1 := (hb2.block _ (by omega)).trans hr1
  replace hz1 := Nat.le_trans hz1 hb2.size
  replace hb1 := below_next hb1 hb2
  clear hb2
  have H1 := Lib.hid (large_any A n c l w2 (HL.out.mono hb1.size hb1.block))
  go_wp2_with fail
  refine H1.out.mono ?_
  rintro e w3 ⟨r, rfl, hr, hb2⟩
  replace hr0 := (hb2.block _ (by omega)).trans hr0
  replace hr1 := (hb2.block _ (by omega)).trans hr1
  replace hz1 := Nat.le_trans hz1 hb2.size
  replace hb1 := below_next hb1 hb2
  clear hb2 H1
  have cr : w3.cell? ⟨w.heap.size + 1, 0, none⟩ = some (.bool false) := (cell_of_row _ _ 0 _ _ _ hr1).trans rfl
  have cf : w3.frozen? ⟨w.heap.size + 1, 0, none⟩ = false := frozen_of_row _ _ _ _ _ hr1
  cases r with
  | true =>
    clear hr
    go_wp2_with fail
    exact ⟨.bool true, by simp [results, Try.results5, go_sem, cr], rfl, hb1.setCell (by simp) _⟩
  | false =>
  obtain ⟨h60, h50⟩ := hr rfl
  clear hr
  have hln : l.length = n := Hll.out
  cases hl0 : n with
  | zero =>
    subst hl0
    go_wp2_with fail
    exact ⟨.bool true, by simp [results, Try.results5, go_sem, cr], rfl, hb1.setCell (by simp) _⟩
  | succ n0 =>
  rw [← hl0]
  have i0 : ((n : Int) == 0) = false := by simp; omega
  have i1 : (0 : Int) < (n : Int) := by omega
  have Hn0 := Lib.hid hl0
  have H50 := Lib.hid h50
  clear hl0 h50 hln
  by_cases h20 : (20 : Int) < (cs.length : Int)
  · go_wp2_with fail
    exact ⟨.bool true, by simp [results, Try.results5, go_sem, cr], rfl, hb1.setCell (by simp) _⟩
  obtain ⟨b, o, t0, A0, n1, c1, rfl, hb, hx0, hc0, hs0⟩ := (HL.out.below hb1).slice_at (i := 0) (by have := Hn0.out; omega)
  have HO := Lib.hid (of_any (n1 : Int) _ _ _ _ w3 (HL.out.mono hb1.size hb1.block))
  rw [Nat.add_zero] at hc0
  have Hc0 : Hid (∀ W, Below w.heap.size w W → W.cell? ⟨b, o, none⟩ = some (.slice A0 n1 c1)) := fun W hW => (hW.cell (p := ⟨b, o, none⟩) hb).trans ((hb1.cell (p := ⟨b, o, none⟩) hb).symm.trans hc0)
  have HS0 := Lib.hid (hs0.via hb1 (Below.refl _ _))
  have H50n : Hid (n1 ≤ 50) := by
    have h1 := H50.out t0 (List.mem_of_getElem? hx0.out)
    have h2 := hs0.1
    show _ ≤ _; omega
  clear hs0
  go_wp2_with fail
  refine HO.out.mono ?_
  rintro e w4 ⟨hb2, hor⟩
  have HOr := Lib.hid hor
  replace hr0 := (hb2.block _ (by omega)).trans hr0
  replace hr1 := (hb2.block _ (by omega)).trans hr1
  have hz3 := hz1
  replace hz1 := Nat.le_trans hz1 hb2.size
  replace hb1 := below_next hb1 hb2
  replace hc0 := (below_cell hb2 hc0)
  clear HO hor cr cf
  have R1 := Lib.hid (refOf_any (n1 : Int) _ n c l w4 (HL.out.mono hb1.size hb1.block) (by have := Hll.out; omega) H50.out)
  have hL60 : (ofL n1 l).length ≤ 60 := by
    have h1 := ofGo_sub (ar := n1) l []
    simp at h1
    have : l.length = n := Hll.out
    unfold ofL; omega
  have hLn : ∀ t ∈ ofL n1 l, True := fun _ _ => trivial
  generalize hxe : ofE n1 l = xe at *
  generalize hLL : ofL n1 l = L at *
  rcases HOr.out with ⟨hE, p, rfl, hrel⟩ | ⟨hE, rfl⟩
  rotate_left
  · have HE := Lib.hid hE
    clear HOr hE
    go_wp2_with fail
    refine R1.out.mono ?_
    rintro e w5 ⟨hq, hor2⟩
    rcases hor2 with ⟨hz, -⟩ | ⟨-, rfl⟩
    · exact absurd hz HE.out
    have q1 : (xe != 0) = true := by simpa using HE.out
    have hb6 : Below w.heap.size w (w5.alloc (.cells #[.int .i64 0, .slice none 0 0] 47)) := belowA (below_next hb1 hq) _
    replace hr1 := (hq.block _ (by omega)).trans hr1
    have hr2 : (w5.alloc (.cells #[.int .i64 0, .slice none 0 0] 47)).heap[w.heap.size + 1]? = some (.cells #[.bool false] 4 (0, 0)) := heapOld hr1
    clear hr0 hr1 R1 hc0 hb1 hq
    go_wp2_with fail
    refine (numE_any xe HE.out _).mono ?_
    rintro e w7 ⟨rfl, hq⟩
    replace hr2 := (hq.block _ (Array.getElem?_eq_some_iff.1 hr2).1).trans hr2
    replace hb6 := below_next hb6 hq
    have cr : w7.cell? ⟨w.heap.size + 1, 0, none⟩ = some (.bool false) := (cell_of_row _ _ 0 _ _ _ hr2).trans rfl
    have cf : w7.frozen? ⟨w.heap.size + 1, 0, none⟩ = false := frozen_of_row _ _ _ _ _ hr2
    have q2 : (xe == xe) = true := by simp
    clear hq hr2
    go_wp2_with fail
    exact ⟨.bool true, by simp [results, Try.results5, go_sem, cr], rfl, hb6.setCell (by simp) _⟩
  · clear HOr
    unfold relP
    go_wp2_with fail
    refine R1.out.mono ?_
    rintro e w5 ⟨hq, hor2⟩
    rcases hor2 with ⟨-, A5, c5, rfl, hs5⟩ | ⟨hz, -⟩
    rotate_left
    · exact absurd hE hz
    subst hE
    obtain ⟨rb, hR, hp1, hp2, hrb⟩ := hrel
    have hR6 := (hR.on hq).on (belowA (Below.refl w5.heap.size w5) (.cells #[.int .i64 n1, .slice A5 L.length c5] 47))
    have hbe : Below w5.heap.size w5 (w5.alloc (.cells #[.int .i64 n1, .slice A5 L.length c5] 47)) := belowA (Below.refl _ _) _
    have hs6 := hs5.mono hbe.size hbe.block
    have hb6 : Below w.heap.size w (w5.alloc (.cells #[.int .i64 n1, .slice A5 L.length c5] 47)) := belowA (below_next hb1 hq) _
    replace hr0 := heapOld (o := .cells #[.int .i64 n1, .slice A5 L.length c5] 47) ((hq.block _ (by omega)).trans hr0)
    replace hr1 := heapOld (o := .cells #[.int .i64 n1, .slice A5 L.length c5] 47) ((hq.block _ (by omega)).trans hr1)
    have hr2 : (w5.alloc (.cells #[.int .i64 n1, .slice A5 L.length c5] 47)).heap[w5.heap.size]? = some (.cells #[.int .i64 n1, .slice A5 L.length c5] 47 (0, 0)) := heapNew rfl
    have hz5 : p < w5.heap.size ∧ (∀ b, rb = some b → b < w5.heap.size) ∧ w.heap.size + 2 ≤ w5.heap.size ∧ w.heap.size + 2 ≤ p ∧ (∀ b, rb = some b → w.heap.size + 2 ≤ b) := by
      have := hq.size
      exact ⟨by omega, fun b hb => by have := hrb b hb; omega, by omega, by omega, fun b hb => by have := hrb b hb; omega⟩
    have HZ := Lib.hid hz5
    have HRlen : Hid (∀ t ∈ L, t.length = n1) := fun t ht => by have := (hR.right t ht).1; omega
    have HR6 := Lib.hid hR6
    have HS6 := Lib.hid hs6
    have HP := Lib.hid (project_any hR6 B cs.length d cs (HC.out.mono hb6.size hb6.block))
    have HZ6 : Hid ((w5.alloc (.cells #[.int .i64 n1, .slice A5 L.length c5] 47)).heap.size = w5.heap.size + 1) := by show _ = _; simp
    clear hq hs5 hR hrb hR6 hs6 R1 hbe hc0 hb1 hp1 hp2 hz3 hz1 hb2 hz5
    unfold relP at HP
    go_wp2_with fail
    generalize (w5.alloc (.cells #[.int .i64 n1, .slice A5 L.length c5] 47)) = w6 at *
    generalize w5.heap.size = gm at *
    refine HP.out.mono ?_
    rintro e w7 ⟨hq, hor⟩
    have HOr := Lib.hid hor
    have HRP := Lib.hid (refProj_any n1 A5 B L.length c5 cs.length d L cs w7 (HS6.out.mono hq.size hq.block) ((HC.out.mono hb6.size hb6.block).mono hq.size hq.block) (by omega) (by omega) HRlen.out)
    replace hr0 := (hq.block _ (Array.getElem?_eq_some_iff.1 hr0).1).trans hr0
    replace hr1 := (hq.block _ (Array.getElem?_eq_some_iff.1 hr1).1).trans hr1
    replace hr2 := (hq.block _ (Array.getElem?_eq_some_iff.1 hr2).1).trans hr2
    have HR7 := Lib.hid (HR6.out.on hq)
    replace hb6 := below_next hb6 hq
    have cm0 : w7.cell? ⟨gm, 0, none⟩ = some (.int .i64 n1) := (cell_of_row _ _ 0 _ _ _ hr2).trans rfl
    have cm1 : w7.cell? ⟨gm, 1, none⟩ = some (.slice A5 L.length c5) := (cell_of_row _ _ 1 _ _ _ hr2).trans rfl
    have HS7 := Lib.hid (HS6.out.below hq)
    have hq67 := hq.size
    clear hor HP HR6 hq
    generalize hpe : pickE n1 cs = xp at *
    generalize hU : projU L cs = U at *
    have hcs0 : cs.length = 0 → xp = 0 := by
      intro h
      have : cs = [] := List.eq_nil_of_length_eq_zero h
      subst this
      rw [← hpe]; exact pickE_ok (by simp [pickOk]) (by simp)
    have key : cs.length ≠ 0 → True := fun _ => trivial
    rcases HOr.out with ⟨hX, q, rfl, hqn⟩ | ⟨hX, rfl⟩
    rotate_left
    focus
      have HX := Lib.hid hX
      have q3 : ((cs.length : Int) == 0) = false := by
        have : cs.length ≠ 0 := fun h => hX (hcs0 h)
        simp; intro h; exact this (by simp [h])
      have q1 : (xp != xp) = false := by simp
      have q2 : (xp == 0) = false := by simpa using hX
      clear HOr hX key hcs0
      go_wp2_with fail
      refine HRP.out.mono ?_
      rintro e w8 ⟨hq, hor2⟩
      rcases hor2 with ⟨hz, -⟩ | ⟨-, rfl⟩
      · exact absurd hz HX.out
      have hq9 : Below w7.heap.size w7 (w8.alloc (.cells #[.int .i64 0, .slice none 0 0] 47)) := belowA hq _
      clear HRP hq
      go_wp2_with fail
      refine (numE_any xp HX.out _).mono ?_
      rintro e w10 ⟨rfl, hq⟩
      have hqq := below_next hq9 hq
      clear hq9 hq
      have hbv : Below w10.heap.size w10 ((w10.alloc (.cells #[.slice none 0 0] 22)).alloc (.cells #[.int .i64 0, .int .i64 0, .string ⟨#[]⟩] 56)) := belowA (belowA (Below.refl _ _) _) _
      have hqv := below_next hqq hbv
      have r0 := (hqv.block _ (Array.getElem?_eq_some_iff.1 hr0).1).trans hr0
      have r1 := (hqv.block _ (Array.getElem?_eq_some_iff.1 hr1).1).trans hr1
      have r2 := (hqv.block _ (Array.getElem?_eq_some_iff.1 hr2).1).trans hr2
      have r3 : ((w10.alloc (.cells #[.slice none 0 0] 22)).alloc (.cells #[.int .i64 0, .int .i64 0, .string ⟨#[]⟩] 56)).heap[w10.heap.size]? = some (.cells #[.slice none 0 0] 22 (0, 0)) := heapOld (heapNew rfl)
      have r4 : ((w10.alloc (.cells #[.slice none 0 0] 22)).alloc (.cells #[.int .i64 0, .int .i64 0, .string ⟨#[]⟩] 56)).heap[w10.heap.size + 1]? = some (.cells #[.int .i64 0, .int .i64 0, .string ⟨#[]⟩] 56 (0, 0)) := heapNew (by simp)
      have hbw := below_next hb6 hqv
      have HSV := Lib.hid ((HS7.out.below (hqv.mono hq67)))
      have HRv := Lib.hid (HR7.out.out (S' := w10.heap.size :: (w10.heap.size + 1) :: p :: rb.toList) (T := []) (Out.of_below hqv []) (fun _ h _ => by cases h) (fun b hb hbl => by
        have h1 := hqq.size
        rcases List.mem_cons.1 hb with hb | hb
        · omega
        · rcases List.mem_cons.1 hb with hb | hb
          · omega
          · exact hb) (by simp) (fun b hb => by simp [hb]))
      have hgw : gm < w10.heap.size := by have := (Array.getElem?_eq_some_iff.1 hr2).1; have := hqq.size; omega
      have g0 : ((w10.alloc (.cells #[.slice none 0 0] 22)).alloc (.cells #[.int .i64 0, .int .i64 0, .string ⟨#[]⟩] 56)).cell? ⟨gm, 1, none⟩ = some (.slice A5 L.length c5) := (cell_of_row _ _ 1 _ _ _ r2).trans rfl
      clear hr0 hr1 hr2 hb6 hqq HR7 hbv cm0 cm1
      obtain ⟨bx, ox, x0, rfl, hbx, hx0c, hcx, -⟩ := HC.out.int_at (i := 0) (Nat.pos_of_ne_zero fun h => by rw [h] at q3; simp at q3)
      rw [Nat.add_zero] at hcx
      have Hcx : Hid (∀ W, Below w.heap.size w W → W.cell? ⟨bx, ox, none⟩ = some (.int .i64 x0)) := fun W hW => (hW.cell (p := ⟨bx, ox, none⟩) hbx).trans hcx
      have j0 : (0 : Int) < (cs.length : Int) := by
        have h1 : cs.length ≠ 0 := fun h => by rw [h] at q3; simp at q3
        omega
      have hgw6 : w6.heap.size ≤ w10.heap.size := by have := HZ6.out; omega
      clear hcx hx0c hqv
      by_cases hn1 : 0 < n1
      rotate_left
      focus
        go_wp2_with fail
        generalize ((w10.alloc (.cells #[.slice none 0 0] 22)).alloc (.cells #[.int .i64 0, .int .i64 0, .string ⟨#[]⟩] 56)) = V at *
        generalize w10.heap.size = gh at *
        obtain ⟨vb, hvb⟩ : ∃ vb : GV, V.heap[gh + 1]? = some (.cells #[.int .i64 vb.k, .int .i64 vb.n, .string vb.s] 56 (0, 0)) := ⟨⟨0, 0, ⟨#[]⟩⟩, r4⟩
        have HRv2 := HRv
        clear r4 HRv hn1 Hc0 HS0 H50n g0
      rotate_left
      focus
        obtain ⟨kx, hkx, hke, hke2⟩ := idx_some x0 n1 hn1 (by have := H50n.out; omega)
        obtain ⟨b9, o9, vb, rfl, hb9, -, y0, y1, y2, -⟩ := HS0.out.val_at hkx
        have e17 : ∀ W, Below w.heap.size w W → W.cell? ⟨b, o, none⟩ = some (.slice (some ⟨b9, o9, none⟩) n1 c1) ∧ W.cell? ⟨bx, ox, none⟩ = some (.int .i64 x0) ∧ W.cell? ⟨b9, o9 + kx * 3, none⟩ = some (.int .i64 vb.k) ∧ W.cell? ⟨b9, o9 + kx * 3 + 1, none⟩ = some (.int .i64 vb.n) ∧ W.cell? ⟨b9, o9 + kx * 3 + 2, none⟩ = some (.string vb.s) := fun W hW =>
          ⟨Hc0.out W hW, Hcx.out W hW, (hW.cell (p := ⟨b9, o9 + kx * 3, none⟩) hb9).trans y0, (hW.cell (p := ⟨b9, o9 + kx * 3 + 1, none⟩) hb9).trans y1, (hW.cell (p := ⟨b9, o9 + kx * 3 + 2, none⟩) hb9).trans y2⟩
        have E17 := Lib.hid e17
        have j1 : (0 : Int) ≤ (kx : Int) := by omega
        have j2 : (kx : Int) < (n1 : Int) := by omega
        have j3 : (n1 : Int) ≤ 50 := by have := H50n.out; omega
        have j4 : (0 : Int) < (n1 : Int) := by omega
        have j5 : IntKind.u64.wrap (n1 : Int) = n1 := by simp [IntKind.wrap, IntKind.signed, IntKind.bits]; omega
        have j6 : ((n1 : Int) == 0) = false := by simp; omega
        have j7 : ¬ (n1 : Int) = 0 := by omega
        have j8 : ¬ n1 = 0 := by omega
        have i1n : 0 < n := by omega
        have j0n : 0 < cs.length := by omega
        clear Hc0 HS0 H50n e17 y0 y1 y2
        go_wp2_with fail
        have hbwA := hbw
        generalize ((w10.alloc (.cells #[.slice none 0 0] 22)).alloc (.cells #[.int .i64 0, .int .i64 0, .string ⟨#[]⟩] 56)) = U0 at *
        generalize w10.heap.size = gh at *
        have f0 : U0.frozen? ⟨gh + 1, 0, none⟩ = false := frozen_of_row _ _ _ _ _ r4
        have f1 : U0.frozen? ⟨gh + 1, 1, none⟩ = false := frozen_of_row _ _ _ _ _ r4
        have f2 : U0.frozen? ⟨gh + 1, 2, none⟩ = false := frozen_of_row _ _ _ _ _ r4
        have d0 : U0.cell? ⟨gh + 1, 0, none⟩ = some (.int .i64 0) := (cell_of_row _ _ 0 _ _ _ r4).trans rfl
        have d1 : U0.cell? ⟨gh + 1, 1, none⟩ = some (.int .i64 0) := (cell_of_row _ _ 1 _ _ _ r4).trans rfl
        have d2 : U0.cell? ⟨gh + 1, 2, none⟩ = some (.string ⟨#[]⟩) := (cell_of_row _ _ 2 _ _ _ r4).trans rfl
        have hw9 : w.heap.size ≤ gh + 1 := by have := HZ.out.2.2.1; omega
        go_region_held3 (fun w' => w'.cell? ⟨b, o, none⟩ = some (.slice (some ⟨b9, o9, none⟩) n1 c1) ∧ w'.cell? ⟨bx, ox, none⟩ = some (.int .i64 x0) ∧ w'.cell? ⟨b9, o9 + kx * 3, none⟩ = some (.int .i64 vb.k) ∧ w'.cell? ⟨b9, o9 + kx * 3 + 1, none⟩ = some (.int .i64 vb.n) ∧ w'.cell? ⟨b9, o9 + kx * 3 + 2, none⟩ = some (.string vb.s))
          ((refine E17.out _ ?_; (repeat (first | with_reducible exact hbwA | with_reducible refine Below.drew ?_ | refine Below.setCell ?_ hw9 _)); done))
          (fail)
        have hoV : Out [gh + 1] U0 (((U0.setCell ⟨gh + 1, 0, none⟩ (.int .i64 vb.k)).setCell ⟨gh + 1, 1, none⟩ (.int .i64 vb.n)).setCell ⟨gh + 1, 2, none⟩ (.string vb.s)).drew := (((set_out U0 (gh + 1) 0 _).trans (set_out _ (gh + 1) 1 _) (fun b hb _ => hb)).trans (set_out _ (gh + 1) 2 _) (fun b hb _ => hb)).trans (Out.of_below (Below.drew (Below.refl _ _)) []) (by simp)
        have hvb : (((U0.setCell ⟨gh + 1, 0, none⟩ (.int .i64 vb.k)).setCell ⟨gh + 1, 1, none⟩ (.int .i64 vb.n)).setCell ⟨gh + 1, 2, none⟩ (.string vb.s)).drew.heap[gh + 1]? = some (.cells #[.int .i64 vb.k, .int .i64 vb.n, .string vb.s] 56 (0, 0)) := by
          show (((U0.setCell ⟨gh + 1, 0, none⟩ (.int .i64 vb.k)).setCell ⟨gh + 1, 1, none⟩ (.int .i64 vb.n)).setCell ⟨gh + 1, 2, none⟩ (.string vb.s)).heap[gh + 1]? = _
          simp [World.setCell, Array.getElem?_modify, r4]
        have hzV := (Array.getElem?_eq_some_iff.1 r4).1
        have hw2 := HZ.out.2.2.1
        replace r0 := (hoV.block _ (by omega) (by simp; omega)).trans r0
        replace r1 := (hoV.block _ (by omega) (by simp; omega)).trans r1
        replace r3 := (hoV.block _ (by omega) (by simp)).trans r3
        replace r2 := (hoV.block _ (by omega) (by simp; omega)).trans r2
        replace g0 : (((U0.setCell ⟨gh + 1, 0, none⟩ (.int .i64 vb.k)).setCell ⟨gh + 1, 1, none⟩ (.int .i64 vb.n)).setCell ⟨gh + 1, 2, none⟩ (.string vb.s)).drew.cell? ⟨gm, 1, none⟩ = some (.slice A5 L.length c5) := (cell_of_row _ _ 1 _ _ _ r2).trans rfl
        have hbw3 := hbw.trans ((hoV.below (B := gh + 1) (by simp) (by omega)).mono (by omega))
        have HSV3 := Lib.hid (HSV.out.mono (Nat.le_refl _) (fun b hb => hoV.block b (by omega) (by simp; omega)))
        have HRv2 : Hid (RelAt (((U0.setCell ⟨gh + 1, 0, none⟩ (.int .i64 vb.k)).setCell ⟨gh + 1, 1, none⟩ (.int .i64 vb.n)).setCell ⟨gh + 1, 2, none⟩ (.string vb.s)).drew (gh :: (gh + 1) :: p :: rb.toList) p rb n1 L) := HRv.out.out (T := [gh + 1]) hoV (fun b hb _ => by
          simp only [List.mem_singleton] at hb
          subst hb
          have h1 := HZ.out.1
          refine ⟨by simp, by omega, fun h => ?_⟩
          have := HZ.out.2.1 _ h; omega) (fun b hb _ => hb) (by simp) (fun b hb => by simp [hb])
        clear f0 f1 f2 d0 d1 d2 hbw hbwA HSV HRv hoV r4 hw2 hzV hw9
        have hbw := hbw3
        have HSV := HSV3
        clear hbw3 HSV3 E17 hke hke2 hkx j1 j2 j3 j4 j5 j6 j7 j8 i1n j0n hn1 hb9
        generalize (((U0.setCell ⟨gh + 1, 0, none⟩ (.int .i64 vb.k)).setCell ⟨gh + 1, 1, none⟩ (.int .i64 vb.n)).setCell ⟨gh + 1, 2, none⟩ (.string vb.s)).drew = V at *
        go_wp2_with fail
        clear g0
    rotate_left 2
    focus
      subst hX
      clear HOr key hcs0
      obtain ⟨qb, hQ, -, -, -⟩ := hqn
      have HQ := Lib.hid hQ
      clear hQ
      unfold relP
      go_wp2_with fail
      refine HRP.out.mono ?_
      rintro e w8 ⟨hq, hor2⟩
      rcases hor2 with ⟨-, A8, c8, rfl, hs8⟩ | ⟨hz, -⟩
      rotate_left
      · exact absurd rfl hz
      have hb9 : Below w8.heap.size w8 (w8.alloc (.cells #[.int .i64 cs.length, .slice A8 U.length c8] 47)) := belowA (Below.refl _ _) _
      have hq9 := below_next hq hb9
      have HS9 := Lib.hid (hs8.mono hb9.size hb9.block)
      have HQ9 := Lib.hid (HQ.out.on hq9)
      have hr9 : (w8.alloc (.cells #[.int .i64 cs.length, .slice A8 U.length c8] 47)).heap[w8.heap.size]? = some (.cells #[.int .i64 cs.length, .slice A8 U.length c8] 47 (0, 0)) := heapNew rfl
      clear HRP hq hb9 hs8 HQ
      go_wp2_with fail
      generalize (w8.alloc (.cells #[.int .i64 cs.length, .slice A8 U.length c8] 47)) = w9 at *
      refine (num0_any _).mono ?_
      rintro e w10 ⟨rfl, hq⟩
      have HIs := Lib.hid (is_yes (HQ9.out.on hq) A8 c8 (HS9.out.mono hq.size hq.block))
      unfold relP at HIs
      replace hr9 := (hq.block _ (Array.getElem?_eq_some_iff.1 hr9).1).trans hr9
      have k0 : w10.cell? ⟨w8.heap.size, 0, none⟩ = some (.int .i64 cs.length) := (cell_of_row _ _ 0 _ _ _ hr9).trans rfl
      have k1 : w10.cell? ⟨w8.heap.size, 1, none⟩ = some (.slice A8 U.length c8) := (cell_of_row _ _ 1 _ _ _ hr9).trans rfl
      have hqq0 := below_next hq9 hq
      have HQ10 := Lib.hid (HQ9.out.on hq)
      have HS10 := Lib.hid (HS9.out.mono hq.size hq.block)
      clear hq hq9 HQ9 HS9
      go_wp2_with fail
      refine HIs.out.mono ?_
      rintro e w11 ⟨rfl, hq⟩
      have HIs2 := Lib.hid (num0_any w11)
      have hqq := below_next hqq0 hq
      replace hr9 := (hq.block _ (Array.getElem?_eq_some_iff.1 hr9).1).trans hr9
      have HQ11 := Lib.hid (HQ10.out.on hq)
      have HS11 := Lib.hid (HS10.out.mono hq.size hq.block)
      clear hq HIs k0 k1 HQ10 HS10 hqq0
      by_cases hz : cs.length = 0
      · have q3 : ((cs.length : Int) == 0) = true := by simp [hz]
        clear hz
        go_wp2_with fail
        refine HIs2.out.mono ?_
        rintro e w12 ⟨rfl, hq⟩
        have HIs3 := Lib.hid (is_yes (HQ11.out.on hq) A8 c8 (HS11.out.mono hq.size hq.block))
        unfold relP at HIs3
        replace hr9 := (hq.block _ (Array.getElem?_eq_some_iff.1 hr9).1).trans hr9
        have k0 : w12.cell? ⟨w8.heap.size, 0, none⟩ = some (.int .i64 cs.length) := (cell_of_row _ _ 0 _ _ _ hr9).trans rfl
        have k1 : w12.cell? ⟨w8.heap.size, 1, none⟩ = some (.slice A8 U.length c8) := (cell_of_row _ _ 1 _ _ _ hr9).trans rfl
        have hq12 := below_next hqq hq
        clear hq HQ11 HS11 hqq
        go_wp2_with fail
        refine HIs3.out.mono ?_
        rintro e w13 ⟨rfl, hq⟩
        have hq13 := below_next hq12 hq
        have r1 := (hq13.block _ (Array.getElem?_eq_some_iff.1 hr1).1).trans hr1
        have hb13 := below_next hb6 hq13
        have cr : w13.cell? ⟨w.heap.size + 1, 0, none⟩ = some (.bool false) := (cell_of_row _ _ 0 _ _ _ r1).trans rfl
        have cf : w13.frozen? ⟨w.heap.size + 1, 0, none⟩ = false := frozen_of_row _ _ _ _ _ r1
        clear hq hq12 hq13 r1 k0 k1 hr9 hr0 hr1 hr2
        go_wp2_with fail
        exact ⟨.bool true, by simp [results, Try.results5, go_sem, cr], rfl, hb13.setCell (by simp) _⟩
      have q3 : ((cs.length : Int) == 0) = false := by simp; intro h; exact hz (by simp [h])
      clear HIs2 HQ11 HS11 hr9
      have hbv : Below w11.heap.size w11 ((w11.alloc (.cells #[.slice none 0 0] 22)).alloc (.cells #[.int .i64 0, .int .i64 0, .string ⟨#[]⟩] 56)) := belowA (belowA (Below.refl _ _) _) _
      have hqv := below_next hqq hbv
      have r0 := (hqv.block _ (Array.getElem?_eq_some_iff.1 hr0).1).trans hr0
      have r1 := (hqv.block _ (Array.getElem?_eq_some_iff.1 hr1).1).trans hr1
      have r2 := (hqv.block _ (Array.getElem?_eq_some_iff.1 hr2).1).trans hr2
      have r3 : ((w11.alloc (.cells #[.slice none 0 0] 22)).alloc (.cells #[.int .i64 0, .int .i64 0, .string ⟨#[]⟩] 56)).heap[w11.heap.size]? = some (.cells #[.slice none 0 0] 22 (0, 0)) := heapOld (heapNew rfl)
      have r4 : ((w11.alloc (.cells #[.slice none 0 0] 22)).alloc (.cells #[.int .i64 0, .int .i64 0, .string ⟨#[]⟩] 56)).heap[w11.heap.size + 1]? = some (.cells #[.int .i64 0, .int .i64 0, .string ⟨#[]⟩] 56 (0, 0)) := heapNew (by simp)
      have hbw := below_next hb6 hqv
      have HSV := Lib.hid ((HS7.out.below (hqv.mono hq67)))
      have HRv := Lib.hid (HR7.out.out (S' := w11.heap.size :: (w11.heap.size + 1) :: p :: rb.toList) (T := []) (Out.of_below hqv []) (fun _ h _ => by cases h) (fun b hb hbl => by
        have h1 := hqq.size
        rcases List.mem_cons.1 hb with hb | hb
        · omega
        · rcases List.mem_cons.1 hb with hb | hb
          · omega
          · exact hb) (by simp) (fun b hb => by simp [hb]))
      have hgw : gm < w11.heap.size := by have := (Array.getElem?_eq_some_iff.1 hr2).1; have := hqq.size; omega
      have g0 : ((w11.alloc (.cells #[.slice none 0 0] 22)).alloc (.cells #[.int .i64 0, .int .i64 0, .string ⟨#[]⟩] 56)).cell? ⟨gm, 1, none⟩ = some (.slice A5 L.length c5) := (cell_of_row _ _ 1 _ _ _ r2).trans rfl
      clear hr0 hr1 hr2 hb6 hqq HR7 hbv cm0 cm1
      obtain ⟨bx, ox, x0, rfl, hbx, hx0c, hcx, -⟩ := HC.out.int_at (i := 0) (Nat.pos_of_ne_zero fun h => by rw [h] at q3; simp at q3)
      rw [Nat.add_zero] at hcx
      have Hcx : Hid (∀ W, Below w.heap.size w W → W.cell? ⟨bx, ox, none⟩ = some (.int .i64 x0)) := fun W hW => (hW.cell (p := ⟨bx, ox, none⟩) hbx).trans hcx
      have j0 : (0 : Int) < (cs.length : Int) := by
        have h1 : cs.length ≠ 0 := fun h => by rw [h] at q3; simp at q3
        omega
      have hgw6 : w6.heap.size ≤ w11.heap.size := by have := HZ6.out; omega
      clear hcx hx0c hqv
      by_cases hn1 : 0 < n1
      rotate_left
      focus
        go_wp2_with fail
        generalize ((w11.alloc (.cells #[.slice none 0 0] 22)).alloc (.cells #[.int .i64 0, .int .i64 0, .string ⟨#[]⟩] 56)) = V at *
        generalize w11.heap.size = gh at *
        obtain ⟨vb, hvb⟩ : ∃ vb : GV, V.heap[gh + 1]? = some (.cells #[.int .i64 vb.k, .int .i64 vb.n, .string vb.s] 56 (0, 0)) := ⟨⟨0, 0, ⟨#[]⟩⟩, r4⟩
        have HRv2 := HRv
        clear r4 HRv hn1 Hc0 HS0 H50n g0
      rotate_left
      focus
        obtain ⟨kx, hkx, hke, hke2⟩ := idx_some x0 n1 hn1 (by have := H50n.out; omega)
        obtain ⟨b9, o9, vb, rfl, hb9, -, y0, y1, y2, -⟩ := HS0.out.val_at hkx
        have e17 : ∀ W, Below w.heap.size w W → W.cell? ⟨b, o, none⟩ = some (.slice (some ⟨b9, o9, none⟩) n1 c1) ∧ W.cell? ⟨bx, ox, none⟩ = some (.int .i64 x0) ∧ W.cell? ⟨b9, o9 + kx * 3, none⟩ = some (.int .i64 vb.k) ∧ W.cell? ⟨b9, o9 + kx * 3 + 1, none⟩ = some (.int .i64 vb.n) ∧ W.cell? ⟨b9, o9 + kx * 3 + 2, none⟩ = some (.string vb.s) := fun W hW =>
          ⟨Hc0.out W hW, Hcx.out W hW, (hW.cell (p := ⟨b9, o9 + kx * 3, none⟩) hb9).trans y0, (hW.cell (p := ⟨b9, o9 + kx * 3 + 1, none⟩) hb9).trans y1, (hW.cell (p := ⟨b9, o9 + kx * 3 + 2, none⟩) hb9).trans y2⟩
        have E17 := Lib.hid e17
        have j1 : (0 : Int) ≤ (kx : Int) := by omega
        have j2 : (kx : Int) < (n1 : Int) := by omega
        have j3 : (n1 : Int) ≤ 50 := by have := H50n.out; omega
        have j4 : (0 : Int) < (n1 : Int) := by omega
        have j5 : IntKind.u64.wrap (n1 : Int) = n1 := by simp [IntKind.wrap, IntKind.signed, IntKind.bits]; omega
        have j6 : ((n1 : Int) == 0) = false := by simp; omega
        have j7 : ¬ (n1 : Int) = 0 := by omega
        have j8 : ¬ n1 = 0 := by omega
        have i1n : 0 < n := by omega
        have j0n : 0 < cs.length := by omega
        clear Hc0 HS0 H50n e17 y0 y1 y2
        go_wp2_with fail
        have hbwA := hbw
        generalize ((w11.alloc (.cells #[.slice none 0 0] 22)).alloc (.cells #[.int .i64 0, .int .i64 0, .string ⟨#[]⟩] 56)) = U0 at *
        generalize w11.heap.size = gh at *
        have f0 : U0.frozen? ⟨gh + 1, 0, none⟩ = false := frozen_of_row _ _ _ _ _ r4
        have f1 : U0.frozen? ⟨gh + 1, 1, none⟩ = false := frozen_of_row _ _ _ _ _ r4
        have f2 : U0.frozen? ⟨gh + 1, 2, none⟩ = false := frozen_of_row _ _ _ _ _ r4
        have d0 : U0.cell? ⟨gh + 1, 0, none⟩ = some (.int .i64 0) := (cell_of_row _ _ 0 _ _ _ r4).trans rfl
        have d1 : U0.cell? ⟨gh + 1, 1, none⟩ = some (.int .i64 0) := (cell_of_row _ _ 1 _ _ _ r4).trans rfl
        have d2 : U0.cell? ⟨gh + 1, 2, none⟩ = some (.string ⟨#[]⟩) := (cell_of_row _ _ 2 _ _ _ r4).trans rfl
        have hw9 : w.heap.size ≤ gh + 1 := by have := HZ.out.2.2.1; omega
        go_region_held3 (fun w' => w'.cell? ⟨b, o, none⟩ = some (.slice (some ⟨b9, o9, none⟩) n1 c1) ∧ w'.cell? ⟨bx, ox, none⟩ = some (.int .i64 x0) ∧ w'.cell? ⟨b9, o9 + kx * 3, none⟩ = some (.int .i64 vb.k) ∧ w'.cell? ⟨b9, o9 + kx * 3 + 1, none⟩ = some (.int .i64 vb.n) ∧ w'.cell? ⟨b9, o9 + kx * 3 + 2, none⟩ = some (.string vb.s))
          ((refine E17.out _ ?_; (repeat (first | with_reducible exact hbwA | with_reducible refine Below.drew ?_ | refine Below.setCell ?_ hw9 _)); done))
          (fail)
        have hoV : Out [gh + 1] U0 (((U0.setCell ⟨gh + 1, 0, none⟩ (.int .i64 vb.k)).setCell ⟨gh + 1, 1, none⟩ (.int .i64 vb.n)).setCell ⟨gh + 1, 2, none⟩ (.string vb.s)).drew := (((set_out U0 (gh + 1) 0 _).trans (set_out _ (gh + 1) 1 _) (fun b hb _ => hb)).trans (set_out _ (gh + 1) 2 _) (fun b hb _ => hb)).trans (Out.of_below (Below.drew (Below.refl _ _)) []) (by simp)
        have hvb : (((U0.setCell ⟨gh + 1, 0, none⟩ (.int .i64 vb.k)).setCell ⟨gh + 1, 1, none⟩ (.int .i64 vb.n)).setCell ⟨gh + 1, 2, none⟩ (.string vb.s)).drew.heap[gh + 1]? = some (.cells #[.int .i64 vb.k, .int .i64 vb.n, .string vb.s] 56 (0, 0)) := by
          show (((U0.setCell ⟨gh + 1, 0, none⟩ (.int .i64 vb.k)).setCell ⟨gh + 1, 1, none⟩ (.int .i64 vb.n)).setCell ⟨gh + 1, 2, none⟩ (.string vb.s)).heap[gh + 1]? = _
          simp [World.setCell, Array.getElem?_modify, r4]
        have hzV := (Array.getElem?_eq_some_iff.1 r4).1
        have hw2 := HZ.out.2.2.1
        replace r0 := (hoV.block _ (by omega) (by simp; omega)).trans r0
        replace r1 := (hoV.block _ (by omega) (by simp; omega)).trans r1
        replace r3 := (hoV.block _ (by omega) (by simp)).trans r3
        replace r2 := (hoV.block _ (by omega) (by simp; omega)).trans r2
        replace g0 : (((U0.setCell ⟨gh + 1, 0, none⟩ (.int .i64 vb.k)).setCell ⟨gh + 1, 1, none⟩ (.int .i64 vb.n)).setCell ⟨gh + 1, 2, none⟩ (.string vb.s)).drew.cell? ⟨gm, 1, none⟩ = some (.slice A5 L.length c5) := (cell_of_row _ _ 1 _ _ _ r2).trans rfl
        have hbw3 := hbw.trans ((hoV.below (B := gh + 1) (by simp) (by omega)).mono (by omega))
        have HSV3 := Lib.hid (HSV.out.mono (Nat.le_refl _) (fun b hb => hoV.block b (by omega) (by simp; omega)))
        have HRv2 : Hid (RelAt (((U0.setCell ⟨gh + 1, 0, none⟩ (.int .i64 vb.k)).setCell ⟨gh + 1, 1, none⟩ (.int .i64 vb.n)).setCell ⟨gh + 1, 2, none⟩ (.string vb.s)).drew (gh :: (gh + 1) :: p :: rb.toList) p rb n1 L) := HRv.out.out (T := [gh + 1]) hoV (fun b hb _ => by
          simp only [List.mem_singleton] at hb
          subst hb
          have h1 := HZ.out.1
          refine ⟨by simp, by omega, fun h => ?_⟩
          have := HZ.out.2.1 _ h; omega) (fun b hb _ => hb) (by simp) (fun b hb => by simp [hb])
        clear f0 f1 f2 d0 d1 d2 hbw hbwA HSV HRv hoV r4 hw2 hzV hw9
        have hbw := hbw3
        have HSV := HSV3
        clear hbw3 HSV3 E17 hke hke2 hkx j1 j2 j3 j4 j5 j6 j7 j8 i1n j0n hn1 hb9
        generalize (((U0.setCell ⟨gh + 1, 0, none⟩ (.int .i64 vb.k)).setCell ⟨gh + 1, 1, none⟩ (.int .i64 vb.n)).setCell ⟨gh + 1, 2, none⟩ (.string vb.s)).drew = V at *
        go_wp2_with fail
        clear g0
    all_goals
      have j0n : 0 < cs.length := by omega
      have zV : gh + 2 ≤ V.heap.size := (Array.getElem?_eq_some_iff.1 hvb).1
      have hZ := HZ.out
      have hgm2 : w.heap.size + 2 ≤ gm := hZ.2.2.1
      clear hZ
      have hS1 : Hid (SliceIs (Enc.slice Enc.val) V gh A5 L.length c5 L) := HSV.out.mono hgw6 (fun _ _ => rfl)
      go_loopw [17, 123] (fun _ i wr => ∃ (k : Nat) (F : List (List GV)) (xs : List Value) (A' : Option Addr) (c' : Nat), k ≤ L.length ∧ i = .int .i64 k ∧ Hid (F = (L.take k).filter (whereB x0 vb)) ∧ Hid (wr.heap[gh]? = some (.cells #[.slice A' F.length c'] 22 (0, 0))) ∧
          Hid (wr.ownsRow V.heap.size 24 1 (.slice A' F.length c') F.length xs) ∧ Hid (HdrIs (sans V [gh]) xs F) ∧ Hid (Out [gh] V wr)) (fun _ i _ => L.length - (intOf i).toNat)
      case atStart => exact ⟨0, [], [], none, 0, by omega, rfl, rfl, r3, World.ownsRow_nil _ _ _ _, HdrIs.nil, Out.refl _ _⟩
      case round =>
        obtain ⟨k, F, xs, A', c', hk, rfl, HF, H3, HO, HX, HOut⟩ := hrel
        have i0 : (0 : Int) ≤ (k : Int) := by omega
        have hbr : Below gh V wr := HOut.out.below (by simp) (by omega)
        have hbx2 : Below w.heap.size w wr := hbw.trans (hbr.mono (by omega))
        by_cases hlt : k < L.length
        · have i1 : (k : Int) < (L.length : Int) := by omega
          obtain ⟨b2, o2, x, A1, n2, c2, rfl, hb2, hx, hc2, hsx⟩ := hS1.out.slice_at hlt
          replace hc2 := (hbr.cell (p := ⟨b2, o2 + k, none⟩) hb2).trans hc2
          obtain rfl : n1 = n2 := by have h1 := hsx.1; have h2 := HRlen.out x (List.mem_of_getElem? hx.out); omega
          have Hxn : Hid (x.length = n1) := hsx.1
          have e0 := Hcx.out wr hbx2
          have v9 := (HOut.out.block (gh + 1) (by omega) (by simp)).trans hvb
          have v0 : wr.cell? ⟨gh + 1, 0, none⟩ = some (.int .i64 vb.k) := (cell_of_row _ _ 0 _ _ _ v9).trans rfl
          have v1 : wr.cell? ⟨gh + 1, 1, none⟩ = some (.int .i64 vb.n) := (cell_of_row _ _ 1 _ _ _ v9).trans rfl
          have v2 : wr.cell? ⟨gh + 1, 2, none⟩ = some (.string vb.s) := (cell_of_row _ _ 2 _ _ _ v9).trans rfl
          have HT1 : Hid ((L.take (k + 1)).filter (whereB x0 vb) = F ++ [x].filter (whereB x0 vb)) := by
            show _ = _
            rw [List.take_add_one, hx.out, List.filter_append, HF.out]; rfl
          have HSx : Hid (SliceIs Enc.val (sans V [gh]) (sans V [gh]).heap.size A1 n1 c2 x) := by
            have := SliceFar.old (w := V) (S := [gh]) hsx (by omega) (by simp)
            show SliceIs _ _ _ _ _ _ _; rw [sans_size]; exact this
          by_cases h0 : 0 ≤ x0
          · by_cases h1 : x0 < (n1 : Int)
            · have o1 : decide (0 ≤ x0) = true := by simpa using h0
              have o2 : decide (x0 < (n1 : Int)) = true := by simpa using h1
              obtain ⟨j, rfl⟩ : ∃ j : Nat, x0 = (j : Int) := ⟨x0.toNat, by omega⟩
              have hj : j < n1 := by omega
              obtain ⟨b3, o3, y, rfl, hb3, hy, y1, y2, y3, -⟩ := hsx.val_at hj
              replace y1 := (hbr.cell (p := ⟨b3, o3 + j * 3, none⟩) hb3).trans y1
              replace y2 := (hbr.cell (p := ⟨b3, o3 + j * 3 + 1, none⟩) hb3).trans y2
              replace y3 := (hbr.cell (p := ⟨b3, o3 + j * 3 + 2, none⟩) hb3).trans y3
              have e1 : whereB j vb x = y.beq vb := by
                unfold whereB
                simp only [Int.toNat_natCast, hy.out, GV.beq_dec, Option.some.injEq]
                simp
              have rn := run_eql_value y vb
              have E1 := Lib.hid e1
              generalize y.beq vb = bb at *
              have HLn : Hid (F.length ≤ 60) := by
                have h1 := List.length_filter_le (whereB j vb) (L.take k)
                rw [← HF.out, List.length_take] at h1
                show _ ≤ _; omega
              have HNew : Hid (∀ W, Below wr.heap.size wr W → ∃ A9 c9 w9, (∀ ty, (Builtin.append_ #[22, 22] ty #[.slice A' F.length c', .slice (some ⟨W.heap.size, 0, none⟩) 1 1]).run Try.prog (W.alloc (.cells #[.slice (some ⟨b3, o3, none⟩) n1 c2] 24)) = .ok (.slice A9 (F.length + 1) c9) w9) ∧ w9.heap[gh]? = some (.cells #[.slice A' F.length c'] 22 (0, 0)) ∧
                  w9.ownsRow V.heap.size 24 1 (.slice A9 (F.length + 1) c9) (F.length + 1) (xs ++ [.slice (some ⟨b3, o3, none⟩) n1 c2]) ∧ Out [gh] V w9) := by
                intro W hW
                have hz := HOut.out.size
                have hz2 := hW.size
                have h1 := HLn.out
                obtain ⟨A9, c9, w9, q1, q2, q3, q4⟩ := rows_push (W := W.alloc (.cells #[.slice (some ⟨b3, o3, none⟩) n1 c2] 24)) (own_below HO.out (belowA hW _)) (heapNew rfl) (by omega) (by simp; omega)
                refine ⟨A9, c9, w9, q1, ?_, q2, ?_⟩
                · exact (q4.block _ (by omega)).trans (((belowA hW (.cells #[.slice (some ⟨b3, o3, none⟩) n1 c2] 24)).block _ (by omega)).trans H3.out)
                · refine (HOut.out.trans (Out.of_below (belowA hW _) []) (by simp)).trans q3 ?_
                  intro b hb hbl
                  have := (own_blk HO.out (b := b) (by simpa using hb)).1
                  omega
              have y8 : wr.cell? ⟨gh, 0, none⟩ = some (.slice A' F.length c') := (cell_of_row _ _ 0 _ _ _ H3.out).trans rfl
              have HK3 := Lib.hid H3.out
              have hlen1 : (F ++ [x]).length = F.length + 1 := by simp
              have Hlen1 := Lib.hid hlen1
              clear hx hsx hy e1 H3 v9 hlen1
              go_wp2_with fail
              cases bb with
              | true =>
                have HF2 : Hid (F ++ [x] = (L.take (k + 1)).filter (whereB j vb)) := by
                  show _ = _; rw [HT1.out]; simp [E1.out]
                go_quiet (fail)
                obtain ⟨A9, c9, w9, q1, q2, q3, q4⟩ := HNew.out (wr.drewN nq) (below_drewN _ _ _)
                have HRun := Lib.hid q1
                have y9 : w9.cell? ⟨gh, 0, none⟩ = some (.slice A' F.length c') := (cell_of_row _ _ 0 _ _ _ q2).trans rfl
                have f9 : w9.frozen? ⟨gh, 0, none⟩ = false := frozen_of_row _ _ _ _ _ q2
                have Q3 := Lib.hid q3
                have Q2 := Lib.hid q2
                have Q4 := Lib.hid q4
                clear q1 q2 q3 q4 HNew HT1 E1 HF HO
                go_wp2_with (at_builtin; refine wpList_append_run (o := ⟨some 151, _, _, _, _, _⟩) rfl _ _ _ rfl _ _ rfl rfl (HRun.out _) ?_)
                go_roundw
                case rel =>
                  refine ⟨k + 1, F ++ [x], xs ++ [.slice (some ⟨b3, o3, none⟩) n1 c2], A9, c9, by omega, by go_num, HF2, ?_, ?_, HX.out.app (HdrIs.one HSx.out), Q4.out.trans (set_out w9 gh 0 _) (by simp)⟩
                  · show _ = _; rw [Hlen1.out]; exact set_zero Q2.out
                  · show World.ownsRow _ _ _ _ _ _ _; rw [Hlen1.out]
                    exact own_out' Q3.out (set_out w9 gh 0 _) (fun b hb hb' => by have := (own_blk Q3.out hb).1; simp at hb'; omega)
                case measure => simp [intOf]; omega
              | false =>
                have HF2 : Hid (F = (L.take (k + 1)).filter (whereB j vb)) := by
                  show _ = _; rw [HT1.out]; simp [E1.out]
                clear HNew HT1 E1 HF
                go_quiet (fail)
                go_wp2_with fail
                go_roundw
                case rel => exact ⟨k + 1, F, xs, A', c', by omega, by go_num, HF2, HK3.out, own_below HO.out (below_drewN _ _ _), HX, HOut.out.trans (Out.of_below (below_drewN _ _ _) []) (by simp)⟩
                case measure => simp [intOf]; omega
            · have o1 : decide (0 ≤ x0) = true := by simpa using h0
              have o2 : decide (x0 < (n1 : Int)) = false := by simpa using h1
              have HF2 : Hid (F = (L.take (k + 1)).filter (whereB x0 vb)) := by
                have e1 : whereB x0 vb x = false := by
                  unfold whereB
                  rw [List.getElem?_eq_none (by have := Hxn.out; omega)]; simp
                show _ = _; rw [HT1.out]; simp [e1]
              clear hx hsx HT1 HF v9
              go_wp2_with fail
              go_quiet (fail)
              go_wp2_with fail
              go_roundw
              case rel => exact ⟨k + 1, F, xs, A', c', by omega, by go_num, HF2, H3, own_below HO.out (below_drewN _ _ _), HX, HOut.out.trans (Out.of_below (below_drewN _ _ _) []) (by simp)⟩
              case measure => simp [intOf]; omega
          · have o1 : decide (0 ≤ x0) = false := by simpa using h0
            have HF2 : Hid (F = (L.take (k + 1)).filter (whereB x0 vb)) := by
              have e1 : whereB x0 vb x = false := by simp [whereB, h0]
              show _ = _; rw [HT1.out]; simp [e1]
            clear hx hsx HT1 HF v9
            go_wp2_with fail
            go_quiet (fail)
            go_wp2_with fail
            go_roundw
            case rel => exact ⟨k + 1, F, xs, A', c', by omega, by go_num, HF2, H3, own_below HO.out (below_drewN _ _ _), HX, HOut.out.trans (Out.of_below (below_drewN _ _ _) []) (by simp)⟩
            case measure => simp [intOf]; omega
        · have i1 : ¬ (k : Int) < (L.length : Int) := by omega
          have HF2 : Hid (F = L.filter (whereB x0 vb)) := by show _ = _; rw [HF.out, List.take_of_length_le (by omega)]
          have HLn : Hid (F.length ≤ 60) := by
            have h1 := List.length_filter_le (whereB x0 vb) L
            rw [← HF2.out] at h1
            show _ ≤ _; omega
          have hx0 := Hcx.out wr hbx2
          have v9 := (HOut.out.block (gh + 1) (by omega) (by simp)).trans hvb
          have s0 := (HOut.out.block w.heap.size (by omega) (by simp; omega)).trans r0
          have s1 := (HOut.out.block (w.heap.size + 1) (by omega) (by simp; omega)).trans r1
          obtain ⟨st, hst1, hst2, hst⟩ := stop_some stop
          have b0 := H3.out
          have HRl : Hid (RelAt wr (p :: rb.toList) p rb n1 L) := HRv2.out.out (T := [gh]) HOut.out (fun b hb _ => by
            simp only [List.mem_singleton] at hb
            subst hb
            have h1 := HZ.out.1
            refine ⟨by simp, by omega, fun h => ?_⟩
            have := HZ.out.2.1 _ h; omega) (fun b hb _ => List.mem_cons_of_mem _ (List.mem_cons_of_mem _ hb)) (by simp) (fun b hb => by simp [hb])
          have HXr : Hid (HdrIs wr xs F) := HX.out.of_out HOut.out
          have HOr := Lib.hid HO.out
          have hzr := HOut.out.size
          have hww : w.heap.size < wr.heap.size := by omega
          have sc : wr.cell? ⟨w.heap.size, 0, none⟩ = some (.int .i64 stop) := (cell_of_row _ _ 0 _ _ _ s0).trans rfl
          have sf : wr.frozen? ⟨w.heap.size, 0, none⟩ = false := frozen_of_row _ _ _ _ _ s0
          clear r0 r1 r3 hvb HF HX HO HOut HRv2 hS1 HSV hbr H3
          have ho8 : Out [w.heap.size] wr ((wr.setCell ⟨w.heap.size, 0, none⟩ (.int .i64 st)).alloc (.cells #[.int .i64 0] 3)) := (set_out wr w.heap.size 0 _).trans (Out.of_below (belowA (Below.refl _ _) _) []) (by simp)
          have k0 : ((wr.setCell ⟨w.heap.size, 0, none⟩ (.int .i64 st)).alloc (.cells #[.int .i64 0] 3)).heap[w.heap.size]? = some (.cells #[.int .i64 st] 3 (0, 0)) := heapOld (set_zero s0)
          have k1 := (ho8.block (w.heap.size + 1) (by omega) (by simp)).trans s1
          have k3 := (ho8.block gh (by omega) (by simp; omega)).trans b0
          have k4 := (ho8.block (gh + 1) (by omega) (by simp; omega)).trans v9
          have k5 : ((wr.setCell ⟨w.heap.size, 0, none⟩ (.int .i64 st)).alloc (.cells #[.int .i64 0] 3)).heap[wr.heap.size]? = some (.cells #[.int .i64 0] 3 (0, 0)) := heapNew (by rw [World.size_setCell'])
          have hz8 : wr.heap.size < ((wr.setCell ⟨w.heap.size, 0, none⟩ (.int .i64 st)).alloc (.cells #[.int .i64 0] 3)).heap.size := (Array.getElem?_eq_some_iff.1 k5).1
          have hb8 : Below w.heap.size w ((wr.setCell ⟨w.heap.size, 0, none⟩ (.int .i64 st)).alloc (.cells #[.int .i64 0] 3)) := hbx2.trans (ho8.below (by simp) (by omega))
          have hs1w := s1
          have HR8 : Hid (RelAt ((wr.setCell ⟨w.heap.size, 0, none⟩ (.int .i64 st)).alloc (.cells #[.int .i64 0] 3)) (wr.heap.size :: p :: rb.toList) p rb n1 L) := (HRl.out.wide s0).out (T := [w.heap.size]) ho8 (fun b hb _ => by
            simp only [List.mem_singleton] at hb
            subst hb
            have h1 := HZ.out.2.2.2.1
            refine ⟨by simp, by omega, fun h => ?_⟩
            have := HZ.out.2.2.2.2 _ h; omega) (fun b hb hbl => by
              rcases List.mem_cons.1 hb with hb | hb
              · omega
              · exact List.mem_cons_of_mem _ hb) (by simp) (fun b hb => by simp [hb])
          have HLr : Hid (SliceIs (Enc.slice Enc.val) ((wr.setCell ⟨w.heap.size, 0, none⟩ (.int .i64 st)).alloc (.cells #[.int .i64 0] 3)) wr.heap.size A' F.length c' F) := by
            have h1 := HLn.out
            have ho9 : Out [w.heap.size] wr (wr.setCell ⟨w.heap.size, 0, none⟩ (.int .i64 st)) := set_out wr w.heap.size 0 _
            have h2 := SliceIs.of_hdr (own_out' HOr.out ho9 (fun b hb hb' => by have := (own_blk HOr.out hb).1; simp at hb'; omega)) (HXr.out.box s0 ho9) (by simp [reachN]; omega)
            rw [World.size_setCell'] at h2
            exact h2.below (by have h3 := belowA (Below.refl (wr.setCell ⟨w.heap.size, 0, none⟩ (.int .i64 st)).heap.size (wr.setCell ⟨w.heap.size, 0, none⟩ (.int .i64 st))) (.cells #[.int .i64 0] 3); rw [World.size_setCell'] at h3; exact h3)
          clear s0 s1 b0 v9 hs1w HRl
          go_wp2_with fail
          generalize ((wr.setCell ⟨w.heap.size, 0, none⟩ (.int .i64 st)).alloc (.cells #[.int .i64 0] 3)) = w12 at *
          generalize wr.heap.size = gn at *
          have e0 := Hcx.out w12 hb8
          have v0 : w12.cell? ⟨gh + 1, 0, none⟩ = some (.int .i64 vb.k) := (cell_of_row _ _ 0 _ _ _ k4).trans rfl
          have v1 : w12.cell? ⟨gh + 1, 1, none⟩ = some (.int .i64 vb.n) := (cell_of_row _ _ 1 _ _ _ k4).trans rfl
          have v2 : w12.cell? ⟨gh + 1, 2, none⟩ = some (.string vb.s) := (cell_of_row _ _ 2 _ _ _ k4).trans rfl
          have Hk := Lib.hid (fun (W : World) (hb : Below w12.heap.size w12 W) => And.intro (below_cell hb e0) (And.intro (below_cell hb v0) (And.intro (below_cell hb v1) (below_cell hb v2))))
          have Hwh := Lib.hid (fun W => where_any p x0 vb W)
          unfold relP at Hwh
          clear e0 v0 v1 v2 k4
          go_region_held3 (fun w' => w'.cell? ⟨bx, ox, none⟩ = some (.int .i64 x0) ∧ w'.cell? ⟨gh + 1, 0, none⟩ = some (.int .i64 vb.k) ∧ w'.cell? ⟨gh + 1, 1, none⟩ = some (.int .i64 vb.n) ∧ w'.cell? ⟨gh + 1, 2, none⟩ = some (.string vb.s))
            ((refine Hk.out _ ?_; (repeat (first | with_reducible exact Below.refl _ _ | with_reducible assumption | with_reducible refine Below.drew ?_)); done))
            ((go_at_call 28
              with_reducible refine (Hwh.out _).mono ?_
              rintro e w14 ⟨hb13, g, gc, gv, hg, hgc, hgv, rfl, cg, ck, rc, rv⟩
              have hb14 : Below w12.heap.size w12 w14 := below_next (Below.drew (Below.refl _ _)) hb13
              have hg' : w12.heap.size ≤ g := hg
              have hgc' : w12.heap.size ≤ gc := hgc
              have hgv' : w12.heap.size ≤ gv := hgv))
          all_goals
            have hg1 : g + 1 < w14.heap.size := World.block_lt_of_cell? w14 _ ck
            have hz14 := hb14.size
            have hgn14 : gn < w14.heap.size := by omega
            have m0 := (hb14.block _ (by omega)).trans k0
            have m1 := (hb14.block _ (by omega)).trans k1
            have m3 := (hb14.block _ (by omega)).trans k3
            have m5 := (hb14.block _ (by omega)).trans k5
            have hbw14 := below_next hb8 hb14
            have HR14 := Lib.hid (HR8.out.on hb14)
            have HL14 : Hid (SliceIs (Enc.slice Enc.val) w14 gn A' F.length c' F) := HLr.out.below (hb14.mono (by omega))
            have hbS : ∀ b ∈ gn :: p :: rb.toList, b < w12.heap.size := fun b hb => by
              rcases List.mem_cons.1 hb with hb | hb
              · omega
              · have := RelAt.lt HR8.out b hb; omega
            unfold whereFn at ck
            have HQ := Lib.hid (kept_seq (kf := 53) (klb := #[.pointer (some ⟨gc, 0, none⟩), .pointer (some ⟨gv, 0, none⟩)]) (whereB x0 vb) (enters_of Try.func53 (by kernel_rfl) rfl) HR14.out cg ck (fun h => by have := hbS _ h; omega) (fun b hb => by have := hbS b hb; omega)
              (fun W B d t hW hsl => whereK_any hsl ((hW gc (Array.getElem?_eq_some_iff.1 rc).1 (fun h => by have := hbS _ h; omega)).trans rc) ((hW gv (Array.getElem?_eq_some_iff.1 rv).1 (fun h => by have := hbS _ h; omega)).trans rv)))
            rw [← HF2.out] at HQ
            clear k0 k1 k3 k5 HR8 HLr Hk Hwh HR14 rc rv cg ck hb13 hg hgc hgv
            go_wp2_with fail
            refine (wpIn_wide (n := 8)).1 (range_law (hg := rfl) (eg := enters_of Try.func60 (by kernel_rfl) rfl) (hseq := HQ.out) (hb0 := Below.refl _ _) ?hS (hps := fun _ => rfl) rx_soft
              (I := fun N pre W => pre.length < st ∧ W.heap[w.heap.size]? = some (.cells #[.int .i64 st] 3 (0, 0)) ∧ W.heap[w.heap.size + 1]? = some (.cells #[.bool false] 4 (0, 0)) ∧ W.heap[gh]? = some (.cells #[.slice A' F.length c'] 22 (0, 0)) ∧ W.heap[gn]? = some (.cells #[.int .i64 pre.length] 3 (0, 0)) ∧ Below w.heap.size w W ∧ Hid (SliceIs (Enc.slice Enc.val) W gn A' F.length c' F))
              (Ix := fun c N pre W => c = .exit 2 ∧ pre.length = st ∧ W.heap[w.heap.size]? = some (.cells #[.int .i64 st] 3 (0, 0)) ∧ W.heap[w.heap.size + 1]? = some (.cells #[.bool false] 4 (0, 0)) ∧ W.heap[gh]? = some (.cells #[.slice A' F.length c'] 22 (0, 0)) ∧ W.heap[gn]? = some (.cells #[.int .i64 pre.length] 3 (0, 0)) ∧ Below w.heap.size w W) ?hI ?hIx ?h0 ?round ?done ?stop)
            case hS => intro b hh; have := hbS b hh; omega
            case hI =>
              rintro N pre W W' ⟨h1, h2, h3, h4, h5, h6, h7⟩ hs
              exact ⟨h1, hs.row h2, hs.row h3, hs.row h4, hs.row h5, h6.trans (hs.below (by omega) h6.size), h7.out.mono' (Nat.le_refl _) (hs.kept _)⟩
            case hIx =>
              rintro c N pre W W' ⟨h0, h1, h2, h3, h4, h5, h6⟩ hs
              exact ⟨h0, h1, hs.row h2, hs.row h3, hs.row h4, hs.row h5, h6.trans (hs.below (by omega) h6.size)⟩
            case h0 =>
              intro N W hs _ _
              exact ⟨by simp; omega, hs.row m0, hs.row m1, hs.row m3, hs.row m5, hbw14.trans (hs.below (by omega) hbw14.size), HL14.out.mono' (Nat.le_refl _) (hs.kept _)⟩
            case round =>
              rintro k N pre x W0 W1 W2 K ⟨h1, h2, h3, h4, h5, h6, h7⟩ hs hN hN2 hx hK
              have HK := Lib.hid hK
              clear hK
              simp only [encX]
              gi_wp2
              refine HK.out _ ?_
              clear HK
              obtain ⟨hx1, hx2⟩ := rx_at hx
              have hxs := rx_is hx
              have t0 := hs.row h2
              have t1 := hs.row h3
              have t3 := hs.row h4
              have t5 := hs.row h5
              have hb4 : Below w.heap.size w W2 := h6.trans (hs.below (by omega) h6.size)
              have hl2 := h7.out.mono' (Nat.le_refl _) (hs.kept gn)
              have hgnW : gn < W2.heap.size := (Array.getElem?_eq_some_iff.1 t5).1
              obtain ⟨b5, o5, y, A5', n5, c5', rfl, hb5, hy, hc5, hsl⟩ := hl2.slice_at hx2
              have hyx : y = x.t := by have := hy.out; rw [hx1] at this; injection this with this; exact this.symm
              have HT := Lib.hid (tuple_eq x.A A5' x.t.length n5 x.c c5' x.t W2 hxs (by rw [← hyx]; exact hsl.mono (by omega) (fun _ _ => rfl)))
              have HL2 := Lib.hid hl2
              have ch : W2.cell? ⟨gh, 0, none⟩ = some (.slice (some ⟨b5, o5, none⟩) F.length c') := (cell_of_row _ _ 0 _ _ _ t3).trans rfl
              have cn : W2.cell? ⟨gn, 0, none⟩ = some (.int .i64 pre.length) := (cell_of_row _ _ 0 _ _ _ t5).trans rfl
              have hpl2 : (pre ++ [x]).length = pre.length + 1 := by simp
              have Hpl2 := Lib.hid hpl2
              have z0 : (0 : Int) ≤ (pre.length : Int) := by omega
              have z1 : (pre.length : Int) < (F.length : Int) := by omega
              have hlk : decide (F.length ≤ pre.length) = false := by simp; omega
              have HF60 := HLn.out
              generalize pre.length = kk at *
              clear hx h2 h3 h4 h5 h7 hsl hy hyx hxs hx1 hl2 hpl2 HQ m0 m1 m3 m5
              gi_wp2_with fail
              refine ⟨trivial, (fun h => by cases h), (CallsIn.inRound _ (callsIn_wide.2 HT.out)).mono ?_⟩
              rintro e w4 ⟨rfl, hb9⟩
              have u0 := (hb9.block _ (Array.getElem?_eq_some_iff.1 t0).1).trans t0
              have u1 := (hb9.block _ (Array.getElem?_eq_some_iff.1 t1).1).trans t1
              have u3 := (hb9.block _ (Array.getElem?_eq_some_iff.1 t3).1).trans t3
              have u5 := (hb9.block _ (Array.getElem?_eq_some_iff.1 t5).1).trans t5
              have cn4 : w4.cell? ⟨gn, 0, none⟩ = some (.int .i64 kk) := (cell_of_row _ _ 0 _ _ _ u5).trans rfl
              have f4 : w4.frozen? ⟨gn, 0, none⟩ = false := frozen_of_row _ _ _ _ _ u5
              have hgw0 : gn ≠ w.heap.size := by omega
              have x0' : (w4.setCell ⟨gn, 0, none⟩ (.int .i64 ((kk : Int) + 1))).heap[w.heap.size]? = some (.cells #[.int .i64 st] 3 (0, 0)) := (World.heap_setCells_other' (by omega)).trans u0
              have x1' : (w4.setCell ⟨gn, 0, none⟩ (.int .i64 ((kk : Int) + 1))).heap[w.heap.size + 1]? = some (.cells #[.bool false] 4 (0, 0)) := (World.heap_setCells_other' (by omega)).trans u1
              have x3' : (w4.setCell ⟨gn, 0, none⟩ (.int .i64 ((kk : Int) + 1))).heap[gh]? = some (.cells #[.slice (some ⟨b5, o5, none⟩) F.length c'] 22 (0, 0)) := (World.heap_setCells_other' (by omega)).trans u3
              have x5' := set_zero (v := .int .i64 ((kk : Int) + 1)) u5
              have y0 : (w4.setCell ⟨gn, 0, none⟩ (.int .i64 ((kk : Int) + 1))).cell? ⟨w.heap.size, 0, none⟩ = some (.int .i64 st) := (cell_of_row _ _ 0 _ _ _ x0').trans rfl
              have y5 : (w4.setCell ⟨gn, 0, none⟩ (.int .i64 ((kk : Int) + 1))).cell? ⟨gn, 0, none⟩ = some (.int .i64 ((kk : Int) + 1)) := (cell_of_row _ _ 0 _ _ _ x5').trans rfl
              have hbz : Below w.heap.size w (w4.setCell ⟨gn, 0, none⟩ (.int .i64 ((kk : Int) + 1))) := (hb4.trans (hb9.mono hb4.size)).setCell (by show w.heap.size ≤ gn; omega) _
              have HTurn : Hid (Turn (gn :: p :: rb.toList) N W2 (w4.setCell ⟨gn, 0, none⟩ (.int .i64 ((kk : Int) + 1)))) :=
                Turn.of_out ((Out.of_below hb9 [gn]).trans (set_out w4 gn 0 _) (fun b hb _ => hb)) (by have := hs.size; omega) (fun b hb => .inl (by simp at hb; simp [hb]))
              have HLz : Hid (SliceIs (Enc.slice Enc.val) (w4.setCell ⟨gn, 0, none⟩ (.int .i64 ((kk : Int) + 1))) gn (some ⟨b5, o5, none⟩) F.length c' F) :=
                HL2.out.mono (Nat.le_refl _) (fun b hb => (World.heap_setCells_other' (by omega)).trans (hb9.block b (by omega)))
              clear HT u0 u1 u3 u5 t0 t1 t3 t5 ch cn HL2
              have X0 := Lib.hid x0'
              have X1 := Lib.hid x1'
              have X3 := Lib.hid x3'
              have X5 := Lib.hid x5'
              clear x0' x1' x3' x5'
              by_cases hks : kk + 1 = st
              · have hq : ((kk : Int) + 1 == (st : Int)) = true := by simp; omega
                have Hks := Lib.hid hks
                clear hks
                gi_wp2_with fail
                exact ⟨HTurn.out, rfl, by rw [Hpl2.out]; exact Hks.out, X0.out, X1.out, X3.out, by rw [Hpl2.out]; exact X5.out, hbz⟩
              · have hq : ((kk : Int) + 1 == (st : Int)) = false := by simp; omega
                have Hks : Hid (kk + 1 < st) := by show _ < _; omega
                clear hks
                gi_wp2_with fail
                exact ⟨HTurn.out, by rw [Hpl2.out]; exact Hks.out, X0.out, X1.out, X3.out, by rw [Hpl2.out]; exact X5.out, hbz, HLz⟩
            case done =>
              rintro N xs W hxs ⟨h1, h2, h3, h4, h5, h6, h7⟩ hD
              have hlx : xs.length = F.length := by rw [← hxs]; simp
              rw [hlx] at h1 h5
              clear hxs hlx h7
              have c1 : W.cell? ⟨gn, 0, none⟩ = some (.int .i64 F.length) := (cell_of_row _ _ 0 _ _ _ h5).trans rfl
              have c2 : W.cell? ⟨w.heap.size, 0, none⟩ = some (.int .i64 st) := (cell_of_row _ _ 0 _ _ _ h2).trans rfl
              have c3 : W.cell? ⟨gh, 0, none⟩ = some (.slice A' F.length c') := (cell_of_row _ _ 0 _ _ _ h4).trans rfl
              have c4 : W.cell? ⟨w.heap.size + 1, 0, none⟩ = some (.bool false) := (cell_of_row _ _ 0 _ _ _ h3).trans rfl
              have f4 : W.frozen? ⟨w.heap.size + 1, 0, none⟩ = false := frozen_of_row _ _ _ _ _ h3
              have HR1 := Lib.hid h3
              have HLw := Lib.hid h6
              have hzz := hbw14.size
              have hq : ((F.length : Int) == min (st : Int) (F.length : Int)) = true := by rw [Int.min_eq_right (by omega)]; simp
              clear h1 h2 h3 h4 h5 h6 HQ hbS m0 m1 m3 m5
              go_wp2_with fail
              have v2 := set_zero (v := .bool true) HR1.out
              have hD2 : (W.setCell ⟨w.heap.size + 1, 0, none⟩ (.bool true)).heap[w14.heap.size]? = some (.deferred (some [])) := (World.heap_setCells_other' (by omega)).trans hD
              refine ⟨by simp, .inl ⟨_, _, rfl, run_takeDeferred hD2, ?_⟩⟩
              have cr2 : ((W.setCell ⟨w.heap.size + 1, 0, none⟩ (.bool true)).putObj w14.heap.size (.deferred none)).cell? ⟨w.heap.size + 1, 0, none⟩ = some (.bool true) := (cell_of_row _ _ 0 _ _ _ ((World.putObj_heap_other (by omega)).trans v2)).trans rfl
              have hb20 : Below w.heap.size w ((W.setCell ⟨w.heap.size + 1, 0, none⟩ (.bool true)).putObj w14.heap.size (.deferred none)) :=
                (HLw.out.setCell (by simp) _).trans ((Soft.putObj _ (Nat.le_refl _) hD2 rfl).below (by omega) (by rw [World.size_setCell']; have := HLw.out.size; exact this))
              clear v2 hD2 hD HLw
              exact ⟨.bool true, by simp [results, Try.results5, go_sem, cr2], rfl, hb20⟩
            case stop =>
              rintro c N pre W hSp ⟨rfl, h1, h2, h3, h4, h5, h6⟩ hD
              have hst5 : st ≤ F.length := by
                have h7 := hSp.length_le
                rw [List.length_map] at h7; omega
              rw [h1] at h5
              clear hSp
              refine wpIn_wide.2 ?_
              have c1 : W.cell? ⟨gn, 0, none⟩ = some (.int .i64 st) := (cell_of_row _ _ 0 _ _ _ h5).trans rfl
              have c2 : W.cell? ⟨w.heap.size, 0, none⟩ = some (.int .i64 st) := (cell_of_row _ _ 0 _ _ _ h2).trans rfl
              have c3 : W.cell? ⟨gh, 0, none⟩ = some (.slice A' F.length c') := (cell_of_row _ _ 0 _ _ _ h4).trans rfl
              have c4 : W.cell? ⟨w.heap.size + 1, 0, none⟩ = some (.bool false) := (cell_of_row _ _ 0 _ _ _ h3).trans rfl
              have f4 : W.frozen? ⟨w.heap.size + 1, 0, none⟩ = false := frozen_of_row _ _ _ _ _ h3
              have HR1 := Lib.hid h3
              have HLw := Lib.hid h6
              have hzz := hbw14.size
              have hq : ((st : Int) == min (st : Int) (F.length : Int)) = true := by rw [Int.min_eq_left (by omega)]; simp
              clear h1 h2 h3 h4 h5 h6 HQ hbS m0 m1 m3 m5
              go_wp2_with fail
              have v2 := set_zero (v := .bool true) HR1.out
              have hD2 : (W.setCell ⟨w.heap.size + 1, 0, none⟩ (.bool true)).heap[w14.heap.size]? = some (.deferred (some [])) := (World.heap_setCells_other' (by omega)).trans hD
              refine ⟨by simp, .inl ⟨_, _, rfl, run_takeDeferred hD2, ?_⟩⟩
              have cr2 : ((W.setCell ⟨w.heap.size + 1, 0, none⟩ (.bool true)).putObj w14.heap.size (.deferred none)).cell? ⟨w.heap.size + 1, 0, none⟩ = some (.bool true) := (cell_of_row _ _ 0 _ _ _ ((World.putObj_heap_other (by omega)).trans v2)).trans rfl
              have hb20 : Below w.heap.size w ((W.setCell ⟨w.heap.size + 1, 0, none⟩ (.bool true)).putObj w14.heap.size (.deferred none)) :=
                (HLw.out.setCell (by simp) _).trans ((Soft.putObj _ (Nat.le_refl _) hD2 rfl).below (by omega) (by rw [World.size_setCell']; have := HLw.out.size; exact this))
              clear v2 hD2 hD HLw
              exact ⟨.bool true, by simp [results, Try.results5, go_sem, cr2], rfl, hb20⟩
end Go.Proofs.Ytgomfmfaoeojkaa
