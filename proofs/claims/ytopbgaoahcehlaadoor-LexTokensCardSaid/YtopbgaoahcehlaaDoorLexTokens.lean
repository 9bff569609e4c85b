/- LexTokens: the walk. -/
import Derived.Test.YtopbgaoahcehlaaDoorLexLists
import Derived.Shelf.RegionOpen
namespace Go.Proofs.YtopbgaoahcehlaaDoor
open Go.RowKit Go.Shelf
attribute [local go_sem] Oper.semAt_some

theorem run_neq_token (x y : GTok) (w : World) : (binOp .neq 35 (tokC x) (tokC y)).run Tryd.prog w = .ok (.bool (!tokEq x y)) w := by
  unfold tokC
  rw [run_neq_struct, run_equalIn_agg (ht := by kernel_rfl) (hp := by kernel_rfl)]
  have e1 : (bytes x.t).toList = x.t := toList_mk _
  have e2 : (bytes y.t).toList = y.t := toList_mk _
  simp [go_sem, tokEq, e1, e2]
  by_cases h1 : x.k = y.k <;> by_cases h2 : x.t = y.t <;> by_cases h3 : x.a = y.a <;> simp [h1, h2, h3] <;> omega
theorem tokEq_self (x : GTok) : tokEq x x = true := by simp [tokEq]
theorem stop40 (x : Int) : ∃ k : Nat, 1 ≤ k ∧ k ≤ 40 ∧ wrap64 (1 + wrap64 ((IntKind.u64.wrap x).tmod 40)) = (k : Int) := by
  have h0 : 0 ≤ IntKind.u64.wrap x := by simp [IntKind.wrap, IntKind.signed, IntKind.bits]; omega
  rw [Int.tmod_eq_emod_of_nonneg h0]
  generalize IntKind.u64.wrap x = q at h0
  refine ⟨(1 + q % 40).toNat, by omega, by omega, ?_⟩
  unfold wrap64; omega
theorem seq_at {T : List GTok} {wh : Option Nat} {pre : List LX} {x : LX} (h : (pre ++ [x]) <+: seqOf (T, wh)) (hl : pre.length ≤ T.length) :
    (pre.length < T.length ∧ T[pre.length]? = some x.q ∧ x.bad = false) ∨ (pre.length = T.length ∧ ∃ p, wh = some p ∧ x = ⟨⟨0, [], p⟩, true⟩) := by
  obtain ⟨t, ht⟩ := h
  have hx : (seqOf (T, wh))[pre.length]? = some x := by rw [← ht]; simp
  unfold seqOf at hx
  simp only at hx
  rcases Nat.lt_or_ge pre.length T.length with hlt | hge
  · left
    rw [List.getElem?_append_left (by simpa using hlt), List.getElem?_map] at hx
    obtain ⟨q, hq, rfl⟩ := Option.map_eq_some_iff.1 hx
    exact ⟨hlt, hq, rfl⟩
  · right
    have he : pre.length = T.length := by omega
    refine ⟨he, ?_⟩
    rw [List.getElem?_append_right (by simp; omega)] at hx
    cases wh with
    | none => simp at hx
    | some p => simp [he] at hx; exact ⟨p, rfl, hx.symm⟩

set_option maxRecDepth 100000 in
set_option maxHeartbeats 4000000 in
theorem lexTokens_walk (s : ByteArray) (hs : s.size ≤ 140737488351232) (stop : Int) (w : World) (hW : LexW w) : Calls Tryd.prog 4 #[.string s, .int .i64 stop] w (RetBool true w) := by
  have HA := Lib.hid (fun (W : World) (hb : Below w.heap.size w W) => alive_any W (hW.on hb))
  have HW := Lib.hid hW
  clear hW
  refine (callsIn_wide (n := 8)).1 ?_
  refine callsIn_of_wp_marks Tryd.func4 rfl trivial ?_ rfl
  simp only [Tryd.ntmps4, List.size_toArray, List.length_cons, List.length_nil, Nat.reduceAdd, Nat.reduceSub, Array.replicate_succ, Array.replicate_zero, List.push_toArray, List.append_toArray, List.nil_append, List.cons_append]
  refine wpIn_wide.2 ?_
  go_wp2_with fail
  have hb1 : Below w.heap.size w ((w.alloc (.cells #[.int .i64 stop] 3)).alloc (.cells #[.bool false] 4)) := belowA (belowA (Below.refl _ _) _) _
  have hr0 : ((w.alloc (.cells #[.int .i64 stop] 3)).alloc (.cells #[.bool false] 4)).heap[w.heap.size]? = some (.cells #[.int .i64 stop] 3 (0, 0)) := heapOld (heapNew rfl)
  have hr1 : ((w.alloc (.cells #[.int .i64 stop] 3)).alloc (.cells #[.bool false] 4)).heap[w.heap.size + 1]? = some (.cells #[.bool false] 4 (0, 0)) := heapNew (by simp)
  generalize ((w.alloc (.cells #[.int .i64 stop] 3)).alloc (.cells #[.bool false] 4)) = w1 at *
  refine (HA.out w1 hb1).mono ?_
  rintro e w2 ⟨rfl, hb2⟩
  replace hr0 := (hb2.block _ (Array.getElem?_eq_some_iff.1 hr0).1).trans hr0
  replace hr1 := (hb2.block _ (Array.getElem?_eq_some_iff.1 hr1).1).trans hr1
  replace hb1 := below_next hb1 hb2
  have cr : w2.cell? ⟨w.heap.size + 1, 0, none⟩ = some (.bool false) := (cell_of_row _ _ 0 _ _ _ hr1).trans rfl
  have cf : w2.frozen? ⟨w.heap.size + 1, 0, none⟩ = false := frozen_of_row _ _ _ _ _ hr1
  clear hb2
  by_cases h41 : 4100 < s.size
  · have z0 : (4100 : Int) < (s.size : Int) := by omega
    go_wp2_with fail
    exact ⟨.bool true, by simp [results, Tryd.results4, go_sem, cr], rfl, hb1.setCell (by simp) _⟩
  have z0 : ¬ (4100 : Int) < (s.size : Int) := by omega
  have HR := Lib.hid (refList_any s (by omega) w2)
  have hrz := (Array.getElem?_eq_some_iff.1 hr1).1
  clear cr cf
  go_wp2_with fail
  refine HR.out.mono ?_
  rintro e w3 ⟨hb3, A, c, -, ho, hor⟩
  have HF : Hid (∀ q ∈ (lexS s.toList).1, fits q.k ∧ fits q.a ∧ q.t.length ≤ reachN) := lex_fits (by rw [ba_len]; omega)
  have HTl : Hid ((lexS s.toList).1.length ≤ s.size) := by
    have hl := (lex_len (wk := wordK) _ 0 s.toList (Nat.le_refl _)).2
    rw [ba_len] at hl; exact hl
  obtain ⟨T, wh, hLS⟩ : ∃ T wh, Hid (lexS s.toList = (T, wh)) := ⟨_, _, rfl⟩
  rw [hLS.out] at ho hor HF HTl
  simp only at ho hor HF HTl
  obtain ⟨wv, hwv, rfl⟩ : ∃ wv : Int, Hid ((wh = none ∧ wv = -1) ∨ ∃ p : Nat, wh = some p ∧ wv = p) ∧ e = .returned (.tuple #[.slice A T.length c, .int .i64 wv]) := by
    rcases hor with ⟨h1, h2⟩ | ⟨p, h1, h2⟩
    · exact ⟨-1, .inl ⟨h1, rfl⟩, h2⟩
    · exact ⟨p, .inr ⟨p, h1, rfl⟩, h2⟩
  replace hr0 := (hb3.block _ (by omega)).trans hr0
  replace hr1 := (hb3.block _ (by omega)).trans hr1
  have hbw := below_next hb1 hb3
  have hz3 := hb3.size
  have Hblk : Hid (∀ b, (Value.slice A T.length c).ownBlock = some b → w2.heap.size ≤ b ∧ b < w3.heap.size) := fun b hb => own_blk ho hb
  have HO3 := Lib.hid ho
  obtain ⟨st, hst1, hst2, hst⟩ := stop40 stop
  have c0 : w3.cell? ⟨w.heap.size, 0, none⟩ = some (.int .i64 stop) := (cell_of_row _ _ 0 _ _ _ hr0).trans rfl
  have f0 : w3.frozen? ⟨w.heap.size, 0, none⟩ = false := frozen_of_row _ _ _ _ _ hr0
  have hrA : ((w3.alloc (.cells #[.slice A T.length c] 28)).alloc (.cells #[.int .i64 wv] 3)).heap[w.heap.size]? = some (.cells #[.int .i64 stop] 3 (0, 0)) := heapOld (heapOld hr0)
  have cA0 : ((w3.alloc (.cells #[.slice A T.length c] 28)).alloc (.cells #[.int .i64 wv] 3)).cell? ⟨w.heap.size, 0, none⟩ = some (.int .i64 stop) := (cell_of_row _ _ 0 _ _ _ hrA).trans rfl
  have fA0 : ((w3.alloc (.cells #[.slice A T.length c] 28)).alloc (.cells #[.int .i64 wv] 3)).frozen? ⟨w.heap.size, 0, none⟩ = false := frozen_of_row _ _ _ _ _ hrA
  have hTs := HTl.out
  clear ho hor HR hb3 hb1 HA
  -- the world of the loop
  have hbA : Below w3.heap.size w3 ((w3.alloc (.cells #[.slice A T.length c] 28)).alloc (.cells #[.int .i64 wv] 3)) := belowA (belowA (Below.refl _ _) _) _
  have hoS := set_out ((w3.alloc (.cells #[.slice A T.length c] 28)).alloc (.cells #[.int .i64 wv] 3)) w.heap.size 0 (.int .i64 st)
  have hoW : Out [w.heap.size] w3 ((((w3.alloc (.cells #[.slice A T.length c] 28)).alloc (.cells #[.int .i64 wv] 3)).setCell ⟨w.heap.size, 0, none⟩ (.int .i64 st)).alloc (.cells #[.int .i64 0] 3)) :=
    ((Out.of_below hbA [w.heap.size]).trans hoS (fun b hb _ => hb)).trans (Out.of_below (belowA (Below.refl _ _) _) []) (by simp)
  have m0 : ((((w3.alloc (.cells #[.slice A T.length c] 28)).alloc (.cells #[.int .i64 wv] 3)).setCell ⟨w.heap.size, 0, none⟩ (.int .i64 st)).alloc (.cells #[.int .i64 0] 3)).heap[w.heap.size]? = some (.cells #[.int .i64 st] 3 (0, 0)) := heapOld (set_zero (heapOld (heapOld hr0)))
  have m1 := (hoW.block (w.heap.size + 1) (by omega) (by simp)).trans hr1
  have m2 : ((((w3.alloc (.cells #[.slice A T.length c] 28)).alloc (.cells #[.int .i64 wv] 3)).setCell ⟨w.heap.size, 0, none⟩ (.int .i64 st)).alloc (.cells #[.int .i64 0] 3)).heap[w3.heap.size]? = some (.cells #[.slice A T.length c] 28 (0, 0)) := heapOld ((World.heap_setCells_other' (by omega)).trans (heapOld (heapNew rfl)))
  have m3 : ((((w3.alloc (.cells #[.slice A T.length c] 28)).alloc (.cells #[.int .i64 wv] 3)).setCell ⟨w.heap.size, 0, none⟩ (.int .i64 st)).alloc (.cells #[.int .i64 0] 3)).heap[w3.heap.size + 1]? = some (.cells #[.int .i64 wv] 3 (0, 0)) := heapOld ((World.heap_setCells_other' (by omega)).trans (heapNew (by simp)))
  have m4 : ((((w3.alloc (.cells #[.slice A T.length c] 28)).alloc (.cells #[.int .i64 wv] 3)).setCell ⟨w.heap.size, 0, none⟩ (.int .i64 st)).alloc (.cells #[.int .i64 0] 3)).heap[w3.heap.size + 1 + 1]? = some (.cells #[.int .i64 0] 3 (0, 0)) := heapNew (by rw [World.size_setCell']; simp)
  have hzW : ((((w3.alloc (.cells #[.slice A T.length c] 28)).alloc (.cells #[.int .i64 wv] 3)).setCell ⟨w.heap.size, 0, none⟩ (.int .i64 st)).alloc (.cells #[.int .i64 0] 3)).heap.size = w3.heap.size + 1 + 1 + 1 := by rw [World.size_alloc, World.size_setCell']; simp
  have hbW : Below w.heap.size w ((((w3.alloc (.cells #[.slice A T.length c] 28)).alloc (.cells #[.int .i64 wv] 3)).setCell ⟨w.heap.size, 0, none⟩ (.int .i64 st)).alloc (.cells #[.int .i64 0] 3)) := hbw.trans (hoW.below (by simp) (by omega))
  have HOW := Lib.hid (own_out' HO3.out hoW (fun b hb hb' => by have := Hblk.out b hb; simp at hb'; omega))
  have HzW := Lib.hid hzW
  clear hzW hoW hoS hbA HO3 hr1
  go_wp2_with fail
  generalize ((((w3.alloc (.cells #[.slice A T.length c] 28)).alloc (.cells #[.int .i64 wv] 3)).setCell ⟨w.heap.size, 0, none⟩ (.int .i64 st)).alloc (.cells #[.int .i64 0] 3)) = w4 at *
  refine (lexAll_any s _).mono ?_
  rintro e w5 ⟨rfl, hw5⟩
  rw [HzW.out]
  have hb5 : Below w4.heap.size w4 w5 := by rw [hw5]; exact belowA (Below.refl _ _) _
  have hg5 : w5.heap[w3.heap.size + 1 + 1 + 1]? = some (.cells #[.string s] 9 (0, 0)) := by rw [hw5]; exact heapNew HzW.out
  have hz4 := HzW.out
  have n0 := (hb5.block _ (Array.getElem?_eq_some_iff.1 m0).1).trans m0
  have n1 := (hb5.block _ (Array.getElem?_eq_some_iff.1 m1).1).trans m1
  have n2 := (hb5.block _ (Array.getElem?_eq_some_iff.1 m2).1).trans m2
  have n3 := (hb5.block _ (Array.getElem?_eq_some_iff.1 m3).1).trans m3
  have n4 := (hb5.block _ (Array.getElem?_eq_some_iff.1 m4).1).trans m4
  have HO5 := Lib.hid (own_below HOW.out hb5)
  have hbw5 := below_next hbW hb5
  have hg5l := (Array.getElem?_eq_some_iff.1 hg5).1
  have HGl := HW.out.lt
  have HQ := Lib.hid (lexAll_seq (HW.out.on hbw5) s hs ((cell_of_row _ _ 0 _ _ _ hg5).trans rfl) [w.heap.size + 1, w3.heap.size + 1 + 1] (by simp; omega) (fun b hb => by have := HGl b hb; simp; omega))
  rw [hLS.out] at HQ
  clear hw5 hb5 hg5 m0 m1 m2 m3 m4 HOW HGl HW hbW hz4 c0 f0 hrA cA0 fA0
  go_wp2_with fail
  refine (wpIn_wide (n := 8)).1 (range_law2 (hg := rfl) (eg := enters_of Tryd.func19 (by kernel_rfl) rfl) (hseq := HQ.out) (hb0 := Below.refl _ _) ?hS (hps := fun _ => rfl)
    (I := fun N pre W => pre.length < st ∧ pre.length ≤ T.length ∧ W.heap[w.heap.size]? = some (.cells #[.int .i64 st] 3 (0, 0)) ∧ W.heap[w.heap.size + 1]? = some (.cells #[.bool false] 4 (0, 0)) ∧ W.heap[w3.heap.size]? = some (.cells #[.slice A T.length c] 28 (0, 0)) ∧ W.heap[w3.heap.size + 1]? = some (.cells #[.int .i64 wv] 3 (0, 0)) ∧ W.heap[w3.heap.size + 1 + 1]? = some (.cells #[.int .i64 pre.length] 3 (0, 0)) ∧ Below w.heap.size w W ∧
      Hid (W.ownsRow w2.heap.size 37 3 (.slice A T.length c) T.length (T.flatMap tokCs)))
    (Ix := fun cd N pre W => cd = .exit 0 ∧ ((pre.length = st ∧ pre.length ≤ T.length) ∨ (pre.length = T.length + 1 ∧ ∃ p : Nat, wh = some p)) ∧ W.heap[w.heap.size]? = some (.cells #[.int .i64 st] 3 (0, 0)) ∧ W.heap[w.heap.size + 1]? = some (.cells #[.bool false] 4 (0, 0)) ∧ W.heap[w3.heap.size]? = some (.cells #[.slice A T.length c] 28 (0, 0)) ∧ W.heap[w3.heap.size + 1]? = some (.cells #[.int .i64 wv] 3 (0, 0)) ∧ W.heap[w3.heap.size + 1 + 1]? = some (.cells #[.int .i64 pre.length] 3 (0, 0)) ∧ Below w.heap.size w W)
    ?hI ?hIx ?h0 ?round ?done ?stop)
  case hS => intro b hb; simp at hb; omega
  case hI =>
    rintro N pre W W' ⟨h1, h2, h3, h4, h5, h6, h7, h8, h9⟩ hs'
    exact ⟨h1, h2, hs'.row h3, hs'.row h4, hs'.row h5, hs'.row h6, hs'.row h7, h8.trans (hs'.below (by omega) h8.size), hs'.own h9.out⟩
  case hIx =>
    rintro cd N pre W W' ⟨h1, h2, h3, h4, h5, h6, h7, h8⟩ hs'
    exact ⟨h1, h2, hs'.row h3, hs'.row h4, hs'.row h5, hs'.row h6, hs'.row h7, h8.trans (hs'.below (by omega) h8.size)⟩
  case h0 =>
    intro N W hs' _ _
    exact ⟨by simp; omega, by simp, hs'.row n0, hs'.row n1, hs'.row n2, hs'.row n3, hs'.row n4, hbw5.trans (hs'.below (by omega) hbw5.size), hs'.own HO5.out⟩
  case round =>
    rintro k N pre ⟨q, bad⟩ W0 W1 K ⟨h1, h2, h3, h4, h5, h6, h7, h8, h9⟩ hs' hN hN2 hW01 hx hK
    have HK := Lib.hid hK
    have HX := Lib.hid (seq_at hx h2)
    have hb6 : Below w.heap.size w W1 := h8.trans (hs'.below (by omega) h8.size)
    have t0 := hs'.row h3
    have t1 := hs'.row h4
    have t2 := hs'.row h5
    have t3 := hs'.row h6
    have t4 := hs'.row h7
    have HO1 := Lib.hid (hs'.own h9.out)
    have Hpl : Hid (∀ x : LX, (pre ++ [x]).length = pre.length + 1) := fun x => by simp
    have hW0l := (Array.getElem?_eq_some_iff.1 h7).1
    clear hK hx h3 h4 h5 h6 h7 h8 h9 HQ n0 n1 n2 n3 n4 hs'
    rcases HX.out with ⟨hlt, hq, hbd⟩ | ⟨heq, p, hp, hxe⟩
    · obtain rfl : bad = false := hbd
      rw [encL_tok]
      gi_wp2
      refine HK.out _ _ (belowA (Below.refl _ _) _) (fun W2 hs2 hz2 => ?_)
      have v0 := hs2.row (heapOld (o := .cells #[.int .i64 q.k, .string (bytes q.t), .int .i64 q.a] 35) t0)
      have v1 := hs2.row (heapOld (o := .cells #[.int .i64 q.k, .string (bytes q.t), .int .i64 q.a] 35) t1)
      have v2 := hs2.row (heapOld (o := .cells #[.int .i64 q.k, .string (bytes q.t), .int .i64 q.a] 35) t2)
      have v3 := hs2.row (heapOld (o := .cells #[.int .i64 q.k, .string (bytes q.t), .int .i64 q.a] 35) t3)
      have v4 := hs2.row (heapOld (o := .cells #[.int .i64 q.k, .string (bytes q.t), .int .i64 q.a] 35) t4)
      have vb := hs2.row (heapNew (w := W1) (o := .cells #[.int .i64 q.k, .string (bytes q.t), .int .i64 q.a] 35) (g := W1.heap.size) rfl)
      have hb7 : Below w.heap.size w W2 := (belowA hb6 (.cells #[.int .i64 q.k, .string (bytes q.t), .int .i64 q.a] 35)).trans (hs2.below (by omega) (belowA hb6 _).size)
      obtain ⟨x0, x1, x2, -, -, -⟩ := three_facts vb
      have hzW : W1.heap.size < W2.heap.size := by rw [hz2]; simp
      have HO2 := Lib.hid (hs2.own (own_below HO1.out (belowA (Below.refl _ _) (.cells #[.int .i64 q.k, .string (bytes q.t), .int .i64 q.a] 35))))
      have HZ2 := Lib.hid hz2
      clear hz2 t0 t1 t2 t3 t4 HK
      have hsl := toksR_is HO2.out rfl (by omega) HF.out
      obtain ⟨b, o, q', rfl, hbb, hq', y0, y1, y2, -, -, -⟩ := hsl.tok_at hlt
      have hqq : q' = q := by have h10 := hq'.out; rw [hq] at h10; injection h10 with h10; exact h10.symm
      subst hqq
      have cw : W2.cell? ⟨w3.heap.size, 0, none⟩ = some (.slice (some ⟨b, o, none⟩) T.length c) := (cell_of_row _ _ 0 _ _ _ v2).trans rfl
      have cn : W2.cell? ⟨w3.heap.size + 1 + 1, 0, none⟩ = some (.int .i64 pre.length) := (cell_of_row _ _ 0 _ _ _ v4).trans rfl
      have qn : ((pre.length : Int) == (T.length : Int)) = false := by simp; omega
      have z1 : (0 : Int) ≤ (pre.length : Int) := by omega
      have z2 : (pre.length : Int) < (T.length : Int) := by omega
      have HIs := Lib.hid (isTok_any q')
      unfold tokC at HIs
      have mixed : Tryd.prog.follows .mixedOrders = true := by kernel_rfl
      clear hsl hq hq' HX vb
      generalize pre.length = kk at *
      gi_wp2_with fail
      gi_region_with_o (first | (gi_at_call 11; refine (CallsIn.inRound _ (callsIn_wide.2 (HIs.out _))).mono ?_; rintro e w6 ⟨rfl, hb9⟩) | (refine ⟨trivial, (fun h => by cases h), (CallsIn.inRound _ (callsIn_wide.2 (HIs.out _))).mono ?_⟩; rintro e w6 ⟨rfl, hb9⟩))
      all_goals
        have hb10 : Below W2.heap.size W2 w6 := below_next (Below.drew (Below.refl _ _)) hb9
        have u0 := (hb10.block _ (Array.getElem?_eq_some_iff.1 v0).1).trans v0
        have u1 := (hb10.block _ (Array.getElem?_eq_some_iff.1 v1).1).trans v1
        have u2 := (hb10.block _ (Array.getElem?_eq_some_iff.1 v2).1).trans v2
        have u3 := (hb10.block _ (Array.getElem?_eq_some_iff.1 v3).1).trans v3
        have u4 := (hb10.block _ (Array.getElem?_eq_some_iff.1 v4).1).trans v4
        have c4 : w6.cell? ⟨w3.heap.size + 1 + 1, 0, none⟩ = some (.int .i64 kk) := (cell_of_row _ _ 0 _ _ _ u4).trans rfl
        have f4 : w6.frozen? ⟨w3.heap.size + 1 + 1, 0, none⟩ = false := frozen_of_row _ _ _ _ _ u4
        have X0 : Hid ((w6.setCell ⟨w3.heap.size + 1 + 1, 0, none⟩ (.int .i64 ((kk : Int) + 1))).heap[w.heap.size]? = some (.cells #[.int .i64 st] 3 (0, 0))) := (World.heap_setCells_other' (by omega)).trans u0
        have X1 : Hid ((w6.setCell ⟨w3.heap.size + 1 + 1, 0, none⟩ (.int .i64 ((kk : Int) + 1))).heap[w.heap.size + 1]? = some (.cells #[.bool false] 4 (0, 0))) := (World.heap_setCells_other' (by omega)).trans u1
        have X2 := Lib.hid ((World.heap_setCells_other' (g := w3.heap.size + 1 + 1) (i := 0) (v := .int .i64 ((kk : Int) + 1)) (by omega)).trans u2)
        have X3 := Lib.hid ((World.heap_setCells_other' (g := w3.heap.size + 1 + 1) (i := 0) (v := .int .i64 ((kk : Int) + 1)) (by omega)).trans u3)
        have X4 := Lib.hid (set_zero (v := .int .i64 ((kk : Int) + 1)) u4)
        have y0' : (w6.setCell ⟨w3.heap.size + 1 + 1, 0, none⟩ (.int .i64 ((kk : Int) + 1))).cell? ⟨w.heap.size, 0, none⟩ = some (.int .i64 st) := (cell_of_row _ _ 0 _ _ _ X0.out).trans rfl
        have y4' : (w6.setCell ⟨w3.heap.size + 1 + 1, 0, none⟩ (.int .i64 ((kk : Int) + 1))).cell? ⟨w3.heap.size + 1 + 1, 0, none⟩ = some (.int .i64 ((kk : Int) + 1)) := (cell_of_row _ _ 0 _ _ _ X4.out).trans rfl
        have HBz : Hid (Below w.heap.size w (w6.setCell ⟨w3.heap.size + 1 + 1, 0, none⟩ (.int .i64 ((kk : Int) + 1)))) := (hb7.trans (hb10.mono hb7.size)).setCell (by show w.heap.size ≤ w3.heap.size + 1 + 1; omega) _
        have HT : Hid (Turn2 [w.heap.size + 1, w3.heap.size + 1 + 1] N W0.heap.size W2 (w6.setCell ⟨w3.heap.size + 1 + 1, 0, none⟩ (.int .i64 ((kk : Int) + 1)))) :=
          Turn2.of_out (T := [w3.heap.size + 1 + 1]) ((Out.of_below hb10 [w3.heap.size + 1 + 1]).trans (set_out w6 _ 0 _) (fun b hb _ => hb)) (by omega) (fun b hb _ => by simp at hb; subst hb; exact ⟨.inl (by simp), hW0l⟩)
        have HOz : Hid ((w6.setCell ⟨w3.heap.size + 1 + 1, 0, none⟩ (.int .i64 ((kk : Int) + 1))).ownsRow w2.heap.size 37 3 (.slice (some ⟨b, o, none⟩) T.length c) T.length (T.flatMap tokCs)) :=
          own_out' (own_below HO2.out hb10) (set_out w6 _ 0 _) (fun b hb hb' => by have := Hblk.out b hb; simp at hb'; omega)
        clear u0 u1 u2 u3 u4 v0 v1 v2 v3 v4 x0 x1 x2 y0 y1 y2 cw cn hb9 hb10 HO2 HO1
        by_cases hks : kk + 1 = st
        · have hq : ((kk : Int) + 1 == (st : Int)) = true := by simp; omega
          have Hks := Lib.hid hks
          clear hks
          gi_wp2_with fail
          exact ⟨HT.out, rfl, .inl ⟨by rw [Hpl.out]; exact Hks.out, by rw [Hpl.out]; omega⟩, X0.out, X1.out, X2.out, X3.out, by rw [Hpl.out]; exact X4.out, HBz.out⟩
        · have hq : ((kk : Int) + 1 == (st : Int)) = false := by simp; omega
          have Hks : Hid (kk + 1 < st) := by show _ < _; omega
          clear hks
          gi_wp2_with fail
          exact ⟨HT.out, by rw [Hpl.out]; exact Hks.out, by rw [Hpl.out]; omega, X0.out, X1.out, X2.out, X3.out, by rw [Hpl.out]; exact X4.out, HBz.out, HOz⟩
    · injection hxe with hq1 hb1
      subst hq1 hb1
      rw [encL_bad]
      have hwvp : wv = (p : Int) := by
        rcases hwv.out with ⟨h, -⟩ | ⟨p', h, h'⟩
        · rw [hp] at h; cases h
        · rw [hp] at h; injection h with h; rw [h', h]
      rw [hwvp] at t3
      rw [heq] at t4
      gi_wp2
      refine HK.out _ _ (belowA (Below.refl _ _) _) (fun W2 hs2 hz2 => ?_)
      have v0 := hs2.row (heapOld (o := .cells #[.int .i64 0, .string ⟨#[]⟩, .int .i64 p] 35) t0)
      have v1 := hs2.row (heapOld (o := .cells #[.int .i64 0, .string ⟨#[]⟩, .int .i64 p] 35) t1)
      have v2 := hs2.row (heapOld (o := .cells #[.int .i64 0, .string ⟨#[]⟩, .int .i64 p] 35) t2)
      have v3 := hs2.row (heapOld (o := .cells #[.int .i64 0, .string ⟨#[]⟩, .int .i64 p] 35) t3)
      have v4 := hs2.row (heapOld (o := .cells #[.int .i64 0, .string ⟨#[]⟩, .int .i64 p] 35) t4)
      have vb := hs2.row (heapNew (w := W1) (o := .cells #[.int .i64 0, .string ⟨#[]⟩, .int .i64 p] 35) (g := W1.heap.size) rfl)
      have hb7 : Below w.heap.size w W2 := (belowA hb6 (.cells #[.int .i64 0, .string ⟨#[]⟩, .int .i64 p] 35)).trans (hs2.below (by omega) (belowA hb6 _).size)
      obtain ⟨x0, x1, x2, -, -, -⟩ := three_facts vb
      have hzW : W1.heap.size < W2.heap.size := by rw [hz2]; simp
      have HO2 := Lib.hid (hs2.own (own_below HO1.out (belowA (Below.refl _ _) (.cells #[.int .i64 0, .string ⟨#[]⟩, .int .i64 p] 35))))
      have HZ2 := Lib.hid hz2
      clear hz2 t0 t1 t2 t3 t4 HK
      have cw : W2.cell? ⟨w3.heap.size, 0, none⟩ = some (.slice A T.length c) := (cell_of_row _ _ 0 _ _ _ v2).trans rfl
      have cv : W2.cell? ⟨w3.heap.size + 1, 0, none⟩ = some (.int .i64 p) := (cell_of_row _ _ 0 _ _ _ v3).trans rfl
      have cn : W2.cell? ⟨w3.heap.size + 1 + 1, 0, none⟩ = some (.int .i64 T.length) := (cell_of_row _ _ 0 _ _ _ v4).trans rfl
      have qn : ((T.length : Int) == (T.length : Int)) = true := by simp
      have pp : decide ((p : Int) < 0) = false := by simp
      have HIs : Hid (∀ W, Calls Tryd.prog 14 #[.iface 46 (.int .i64 2), .int .i64 2] W (RetBool true W)) := fun W => by
        have h := is_any 2 2 W
        simpa [errV] using h
      have hrn : ∀ W, (binOp .neq 35 (.agg #[.int .i64 0, .string ⟨#[]⟩, .int .i64 p]) (.agg #[.int .i64 0, .string ⟨#[]⟩, .int .i64 p])).run Tryd.prog W = .ok (.bool false) W := fun W => by
        have h := run_neq_token ⟨0, [], p⟩ ⟨0, [], p⟩ W
        rw [tokEq_self] at h
        exact h
      have Hp := Lib.hid hp
      have Heq := Lib.hid heq
      have Hwvp := Lib.hid hwvp
      clear hp heq hwvp HX
      gi_wp2_with fail
      refine ⟨trivial, (fun h => by cases h), (CallsIn.inRound _ (callsIn_wide.2 (HIs.out _))).mono ?_⟩
      rintro e w6 ⟨rfl, hb10⟩
      have u0 := (hb10.block _ (Array.getElem?_eq_some_iff.1 v0).1).trans v0
      have u1 := (hb10.block _ (Array.getElem?_eq_some_iff.1 v1).1).trans v1
      have u2 := (hb10.block _ (Array.getElem?_eq_some_iff.1 v2).1).trans v2
      have u3 := (hb10.block _ (Array.getElem?_eq_some_iff.1 v3).1).trans v3
      have u4 := (hb10.block _ (Array.getElem?_eq_some_iff.1 v4).1).trans v4
      have c4 : w6.cell? ⟨w3.heap.size + 1 + 1, 0, none⟩ = some (.int .i64 T.length) := (cell_of_row _ _ 0 _ _ _ u4).trans rfl
      have f4 : w6.frozen? ⟨w3.heap.size + 1 + 1, 0, none⟩ = false := frozen_of_row _ _ _ _ _ u4
      have X0 : Hid ((w6.setCell ⟨w3.heap.size + 1 + 1, 0, none⟩ (.int .i64 ((T.length : Int) + 1))).heap[w.heap.size]? = some (.cells #[.int .i64 st] 3 (0, 0))) := (World.heap_setCells_other' (by omega)).trans u0
      have X1 : Hid ((w6.setCell ⟨w3.heap.size + 1 + 1, 0, none⟩ (.int .i64 ((T.length : Int) + 1))).heap[w.heap.size + 1]? = some (.cells #[.bool false] 4 (0, 0))) := (World.heap_setCells_other' (by omega)).trans u1
      have X2 := Lib.hid ((World.heap_setCells_other' (g := w3.heap.size + 1 + 1) (i := 0) (v := .int .i64 ((T.length : Int) + 1)) (by omega)).trans u2)
      have X3 := Lib.hid ((World.heap_setCells_other' (g := w3.heap.size + 1 + 1) (i := 0) (v := .int .i64 ((T.length : Int) + 1)) (by omega)).trans u3)
      have X4 := Lib.hid (set_zero (v := .int .i64 ((T.length : Int) + 1)) u4)
      have y0' : (w6.setCell ⟨w3.heap.size + 1 + 1, 0, none⟩ (.int .i64 ((T.length : Int) + 1))).cell? ⟨w.heap.size, 0, none⟩ = some (.int .i64 st) := (cell_of_row _ _ 0 _ _ _ X0.out).trans rfl
      have y4' : (w6.setCell ⟨w3.heap.size + 1 + 1, 0, none⟩ (.int .i64 ((T.length : Int) + 1))).cell? ⟨w3.heap.size + 1 + 1, 0, none⟩ = some (.int .i64 ((T.length : Int) + 1)) := (cell_of_row _ _ 0 _ _ _ X4.out).trans rfl
      have HBz : Hid (Below w.heap.size w (w6.setCell ⟨w3.heap.size + 1 + 1, 0, none⟩ (.int .i64 ((T.length : Int) + 1)))) := (hb7.trans (hb10.mono hb7.size)).setCell (by show w.heap.size ≤ w3.heap.size + 1 + 1; omega) _
      have HT : Hid (Turn2 [w.heap.size + 1, w3.heap.size + 1 + 1] N W0.heap.size W2 (w6.setCell ⟨w3.heap.size + 1 + 1, 0, none⟩ (.int .i64 ((T.length : Int) + 1)))) :=
        Turn2.of_out (T := [w3.heap.size + 1 + 1]) ((Out.of_below hb10 [w3.heap.size + 1 + 1]).trans (set_out w6 _ 0 _) (fun b hb _ => hb)) (by omega) (fun b hb _ => by simp at hb; subst hb; exact ⟨.inl (by simp), hW0l⟩)
      have cv6 : w6.cell? ⟨w3.heap.size + 1, 0, none⟩ = some (.int .i64 p) := (cell_of_row _ _ 0 _ _ _ u3).trans rfl
      have ub := (hb10.block _ (Array.getElem?_eq_some_iff.1 vb).1).trans vb
      obtain ⟨a0, a1, a2, -, -, -⟩ := three_facts ub
      clear u0 u1 u2 u3 u4 ub vb v0 v1 v2 v3 v4 x0 x1 x2 cw cn cv hb10 HO2 HO1 y0' y4'
      gi_wp2_with fail
      exact ⟨HT.out, rfl, .inr ⟨by rw [Hpl.out, Heq.out], p, Hp.out⟩, X0.out, X1.out, X2.out, by rw [Hwvp.out]; exact X3.out, by rw [Hpl.out, Heq.out]; exact X4.out, HBz.out⟩
  case done =>
    rintro N xs W hxs ⟨h1, h2, h3, h4, h5, h6, h7, h8, h9⟩ hD
    have hwn : wh = none := by
      cases hwh : wh with
      | none => rfl
      | some p =>
        exfalso
        have h10 := congrArg List.length hxs.out
        rw [hwh] at h10
        simp [seqOf] at h10
        omega
    have hxl : xs.length = T.length := by
      have h10 := congrArg List.length hxs.out
      rw [hwn] at h10
      simpa [seqOf] using h10
    have hwm : wv = -1 := by
      rcases hwv.out with ⟨-, h⟩ | ⟨p, h, -⟩
      · exact h
      · rw [hwn] at h; cases h
    rw [hxl] at h1 h7
    rw [hwm] at h6
    have q1 : ((T.length : Int) == min (st : Int) (T.length : Int)) = true := by rw [Int.min_eq_right (by omega)]; simp
    clear hxs hwn hxl hwm h9 h2
    have c1 : W.cell? ⟨w3.heap.size + 1 + 1, 0, none⟩ = some (.int .i64 T.length) := (cell_of_row _ _ 0 _ _ _ h7).trans rfl
    have c2 : W.cell? ⟨w.heap.size, 0, none⟩ = some (.int .i64 st) := (cell_of_row _ _ 0 _ _ _ h3).trans rfl
    have c3 : W.cell? ⟨w3.heap.size, 0, none⟩ = some (.slice A T.length c) := (cell_of_row _ _ 0 _ _ _ h5).trans rfl
    have c4 : W.cell? ⟨w.heap.size + 1, 0, none⟩ = some (.bool false) := (cell_of_row _ _ 0 _ _ _ h4).trans rfl
    have c5 : W.cell? ⟨w3.heap.size + 1, 0, none⟩ = some (.int .i64 (-1)) := (cell_of_row _ _ 0 _ _ _ h6).trans rfl
    have f4 : W.frozen? ⟨w.heap.size + 1, 0, none⟩ = false := frozen_of_row _ _ _ _ _ h4
    have HR1 := Lib.hid h4
    have HLw := Lib.hid h8
    have hzz := hbw5.size
    clear h3 h4 h5 h6 h7 h8 HQ n0 n1 n2 n3 n4
    go_wp2_with fail
    have v2 := set_zero (v := .bool true) HR1.out
    have hD2 : (W.setCell ⟨w.heap.size + 1, 0, none⟩ (.bool true)).heap[w5.heap.size]? = some (.deferred (some [])) := (World.heap_setCells_other' (by omega)).trans hD
    refine ⟨by simp, .inl ⟨_, _, rfl, run_takeDeferred hD2, ?_⟩⟩
    have cr2 : ((W.setCell ⟨w.heap.size + 1, 0, none⟩ (.bool true)).putObj w5.heap.size (.deferred none)).cell? ⟨w.heap.size + 1, 0, none⟩ = some (.bool true) := (cell_of_row _ _ 0 _ _ _ ((World.putObj_heap_other (by omega)).trans v2)).trans rfl
    have hb20 : Below w.heap.size w ((W.setCell ⟨w.heap.size + 1, 0, none⟩ (.bool true)).putObj w5.heap.size (.deferred none)) :=
      (HLw.out.setCell (by simp) _).trans ((Soft.putObj _ (Nat.le_refl _) hD2 rfl).below (by omega) (by rw [World.size_setCell']; have := HLw.out.size; exact this))
    clear v2 hD2 hD HLw
    exact ⟨.bool true, by simp [results, Tryd.results4, go_sem, cr2], rfl, hb20⟩
  case stop =>
    rintro cd N pre W hSp ⟨rfl, h2, h3, h4, h5, h6, h7, h8⟩ hD
    rcases h2 with ⟨e1, e2⟩ | ⟨e1, p, hp⟩
    · rw [e1] at h7
      cases hwh : wh with
      | none =>
        have hwm : wv = -1 := by
          rcases hwv.out with ⟨-, h⟩ | ⟨p, h, -⟩
          · exact h
          · rw [hwh] at h; cases h
        rw [hwm] at h6
        have q1 : ((st : Int) == min (st : Int) (T.length : Int)) = true := by rw [Int.min_eq_left (by omega)]; simp
        clear hSp hwm hwh e1 e2
        refine wpIn_wide.2 ?_
        have c1 : W.cell? ⟨w3.heap.size + 1 + 1, 0, none⟩ = some (.int .i64 st) := (cell_of_row _ _ 0 _ _ _ h7).trans rfl
        have c2 : W.cell? ⟨w.heap.size, 0, none⟩ = some (.int .i64 st) := (cell_of_row _ _ 0 _ _ _ h3).trans rfl
        have c3 : W.cell? ⟨w3.heap.size, 0, none⟩ = some (.slice A T.length c) := (cell_of_row _ _ 0 _ _ _ h5).trans rfl
        have c4 : W.cell? ⟨w.heap.size + 1, 0, none⟩ = some (.bool false) := (cell_of_row _ _ 0 _ _ _ h4).trans rfl
        have c5 : W.cell? ⟨w3.heap.size + 1, 0, none⟩ = some (.int .i64 (-1)) := (cell_of_row _ _ 0 _ _ _ h6).trans rfl
        have f4 : W.frozen? ⟨w.heap.size + 1, 0, none⟩ = false := frozen_of_row _ _ _ _ _ h4
        have HR1 := Lib.hid h4
        have HLw := Lib.hid h8
        have hzz := hbw5.size
        clear h3 h4 h5 h6 h7 h8 HQ n0 n1 n2 n3 n4
        go_wp2_with fail
        have v2 := set_zero (v := .bool true) HR1.out
        have hD2 : (W.setCell ⟨w.heap.size + 1, 0, none⟩ (.bool true)).heap[w5.heap.size]? = some (.deferred (some [])) := (World.heap_setCells_other' (by omega)).trans hD
        refine ⟨by simp, .inl ⟨_, _, rfl, run_takeDeferred hD2, ?_⟩⟩
        have cr2 : ((W.setCell ⟨w.heap.size + 1, 0, none⟩ (.bool true)).putObj w5.heap.size (.deferred none)).cell? ⟨w.heap.size + 1, 0, none⟩ = some (.bool true) := (cell_of_row _ _ 0 _ _ _ ((World.putObj_heap_other (by omega)).trans v2)).trans rfl
        have hb20 : Below w.heap.size w ((W.setCell ⟨w.heap.size + 1, 0, none⟩ (.bool true)).putObj w5.heap.size (.deferred none)) :=
          (HLw.out.setCell (by simp) _).trans ((Soft.putObj _ (Nat.le_refl _) hD2 rfl).below (by omega) (by rw [World.size_setCell']; have := HLw.out.size; exact this))
        clear v2 hD2 hD HLw
        exact ⟨.bool true, by simp [results, Tryd.results4, go_sem, cr2], rfl, hb20⟩
      | some p =>
        have hwm : wv = (p : Int) := by
          rcases hwv.out with ⟨h, -⟩ | ⟨p', h, h'⟩
          · rw [hwh] at h; cases h
          · rw [hwh] at h; injection h with h; rw [h', h]
        rw [hwm] at h6
        have pp : (0 : Int) ≤ (p : Int) := by omega
        have q1 : ((st : Int) == min (st : Int) ((T.length : Int) + 1)) = true := by rw [Int.min_eq_left (by omega)]; simp
        clear hSp hwm hwh e1 e2
        refine wpIn_wide.2 ?_
        have c1 : W.cell? ⟨w3.heap.size + 1 + 1, 0, none⟩ = some (.int .i64 st) := (cell_of_row _ _ 0 _ _ _ h7).trans rfl
        have c2 : W.cell? ⟨w.heap.size, 0, none⟩ = some (.int .i64 st) := (cell_of_row _ _ 0 _ _ _ h3).trans rfl
        have c3 : W.cell? ⟨w3.heap.size, 0, none⟩ = some (.slice A T.length c) := (cell_of_row _ _ 0 _ _ _ h5).trans rfl
        have c4 : W.cell? ⟨w.heap.size + 1, 0, none⟩ = some (.bool false) := (cell_of_row _ _ 0 _ _ _ h4).trans rfl
        have c5 : W.cell? ⟨w3.heap.size + 1, 0, none⟩ = some (.int .i64 p) := (cell_of_row _ _ 0 _ _ _ h6).trans rfl
        have f4 : W.frozen? ⟨w.heap.size + 1, 0, none⟩ = false := frozen_of_row _ _ _ _ _ h4
        have HR1 := Lib.hid h4
        have HLw := Lib.hid h8
        have hzz := hbw5.size
        clear h3 h4 h5 h6 h7 h8 HQ n0 n1 n2 n3 n4
        go_wp2_with fail
        have v2 := set_zero (v := .bool true) HR1.out
        have hD2 : (W.setCell ⟨w.heap.size + 1, 0, none⟩ (.bool true)).heap[w5.heap.size]? = some (.deferred (some [])) := (World.heap_setCells_other' (by omega)).trans hD
        refine ⟨by simp, .inl ⟨_, _, rfl, run_takeDeferred hD2, ?_⟩⟩
        have cr2 : ((W.setCell ⟨w.heap.size + 1, 0, none⟩ (.bool true)).putObj w5.heap.size (.deferred none)).cell? ⟨w.heap.size + 1, 0, none⟩ = some (.bool true) := (cell_of_row _ _ 0 _ _ _ ((World.putObj_heap_other (by omega)).trans v2)).trans rfl
        have hb20 : Below w.heap.size w ((W.setCell ⟨w.heap.size + 1, 0, none⟩ (.bool true)).putObj w5.heap.size (.deferred none)) :=
          (HLw.out.setCell (by simp) _).trans ((Soft.putObj _ (Nat.le_refl _) hD2 rfl).below (by omega) (by rw [World.size_setCell']; have := HLw.out.size; exact this))
        clear v2 hD2 hD HLw
        exact ⟨.bool true, by simp [results, Tryd.results4, go_sem, cr2], rfl, hb20⟩
    · rw [e1] at h7
      have hwm : wv = (p : Int) := by
        rcases hwv.out with ⟨h, -⟩ | ⟨p', h, h'⟩
        · rw [hp] at h; cases h
        · rw [hp] at h; injection h with h; rw [h', h]
      rw [hwm] at h6
      rw [Int.natCast_add, Int.natCast_one] at h7
      have pp : (0 : Int) ≤ (p : Int) := by omega
      have q2 : ((T.length : Int) + 1 == (T.length : Int) + 1) = true := by simp
      by_cases hle : (T.length : Int) + 1 ≤ (st : Int)
      · have q1 : ((T.length : Int) + 1 == min (st : Int) ((T.length : Int) + 1)) = true := by rw [Int.min_eq_right hle]; simp
        clear hSp hwm e1 hle hp
        refine wpIn_wide.2 ?_
        have c1 : W.cell? ⟨w3.heap.size + 1 + 1, 0, none⟩ = some (.int .i64 ((T.length : Int) + 1)) := (cell_of_row _ _ 0 _ _ _ h7).trans rfl
        have c2 : W.cell? ⟨w.heap.size, 0, none⟩ = some (.int .i64 st) := (cell_of_row _ _ 0 _ _ _ h3).trans rfl
        have c3 : W.cell? ⟨w3.heap.size, 0, none⟩ = some (.slice A T.length c) := (cell_of_row _ _ 0 _ _ _ h5).trans rfl
        have c4 : W.cell? ⟨w.heap.size + 1, 0, none⟩ = some (.bool false) := (cell_of_row _ _ 0 _ _ _ h4).trans rfl
        have c5 : W.cell? ⟨w3.heap.size + 1, 0, none⟩ = some (.int .i64 p) := (cell_of_row _ _ 0 _ _ _ h6).trans rfl
        have f4 : W.frozen? ⟨w.heap.size + 1, 0, none⟩ = false := frozen_of_row _ _ _ _ _ h4
        have HR1 := Lib.hid h4
        have HLw := Lib.hid h8
        have hzz := hbw5.size
        clear h3 h4 h5 h6 h7 h8 HQ n0 n1 n2 n3 n4
        go_wp2_with fail
        have v2 := set_zero (v := .bool true) HR1.out
        have hD2 : (W.setCell ⟨w.heap.size + 1, 0, none⟩ (.bool true)).heap[w5.heap.size]? = some (.deferred (some [])) := (World.heap_setCells_other' (by omega)).trans hD
        refine ⟨by simp, .inl ⟨_, _, rfl, run_takeDeferred hD2, ?_⟩⟩
        have cr2 : ((W.setCell ⟨w.heap.size + 1, 0, none⟩ (.bool true)).putObj w5.heap.size (.deferred none)).cell? ⟨w.heap.size + 1, 0, none⟩ = some (.bool true) := (cell_of_row _ _ 0 _ _ _ ((World.putObj_heap_other (by omega)).trans v2)).trans rfl
        have hb20 : Below w.heap.size w ((W.setCell ⟨w.heap.size + 1, 0, none⟩ (.bool true)).putObj w5.heap.size (.deferred none)) :=
          (HLw.out.setCell (by simp) _).trans ((Soft.putObj _ (Nat.le_refl _) hD2 rfl).below (by omega) (by rw [World.size_setCell']; have := HLw.out.size; exact this))
        clear v2 hD2 hD HLw
        exact ⟨.bool true, by simp [results, Tryd.results4, go_sem, cr2], rfl, hb20⟩
      · have q1 : ((T.length : Int) + 1 == min (st : Int) ((T.length : Int) + 1)) = false := by rw [Int.min_eq_left (by omega)]; simp; omega
        clear hSp hwm e1 hle hp
        refine wpIn_wide.2 ?_
        have c1 : W.cell? ⟨w3.heap.size + 1 + 1, 0, none⟩ = some (.int .i64 ((T.length : Int) + 1)) := (cell_of_row _ _ 0 _ _ _ h7).trans rfl
        have c2 : W.cell? ⟨w.heap.size, 0, none⟩ = some (.int .i64 st) := (cell_of_row _ _ 0 _ _ _ h3).trans rfl
        have c3 : W.cell? ⟨w3.heap.size, 0, none⟩ = some (.slice A T.length c) := (cell_of_row _ _ 0 _ _ _ h5).trans rfl
        have c4 : W.cell? ⟨w.heap.size + 1, 0, none⟩ = some (.bool false) := (cell_of_row _ _ 0 _ _ _ h4).trans rfl
        have c5 : W.cell? ⟨w3.heap.size + 1, 0, none⟩ = some (.int .i64 p) := (cell_of_row _ _ 0 _ _ _ h6).trans rfl
        have f4 : W.frozen? ⟨w.heap.size + 1, 0, none⟩ = false := frozen_of_row _ _ _ _ _ h4
        have HR1 := Lib.hid h4
        have HLw := Lib.hid h8
        have hzz := hbw5.size
        clear h3 h4 h5 h6 h7 h8 HQ n0 n1 n2 n3 n4
        go_wp2_with fail
        have v2 := set_zero (v := .bool true) HR1.out
        have hD2 : (W.setCell ⟨w.heap.size + 1, 0, none⟩ (.bool true)).heap[w5.heap.size]? = some (.deferred (some [])) := (World.heap_setCells_other' (by omega)).trans hD
        refine ⟨by simp, .inl ⟨_, _, rfl, run_takeDeferred hD2, ?_⟩⟩
        have cr2 : ((W.setCell ⟨w.heap.size + 1, 0, none⟩ (.bool true)).putObj w5.heap.size (.deferred none)).cell? ⟨w.heap.size + 1, 0, none⟩ = some (.bool true) := (cell_of_row _ _ 0 _ _ _ ((World.putObj_heap_other (by omega)).trans v2)).trans rfl
        have hb20 : Below w.heap.size w ((W.setCell ⟨w.heap.size + 1, 0, none⟩ (.bool true)).putObj w5.heap.size (.deferred none)) :=
          (HLw.out.setCell (by simp) _).trans ((Soft.putObj _ (Nat.le_refl _) hD2 rfl).below (by omega) (by rw [World.size_setCell']; have := HLw.out.size; exact this))
        clear v2 hD2 hD HLw
        exact ⟨.bool true, by simp [results, Tryd.results4, go_sem, cr2], rfl, hb20⟩
end Go.Proofs.YtopbgaoahcehlaaDoor
