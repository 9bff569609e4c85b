/- My own texts ShowPr, LiftShPr, FactsShPr, as far as this claim needs them. -/
import Derived.Test.YtplekbpmfaghbaaGreatDoorZd15
import Derived.Test.YtplekbpmfaghbaaGreatDoorZdb7
import Derived.Test.YtplekbpmfaghbaaGreatDoorZdb12
import Derived.Test.YtplekbpmfaghbaaGreatDoorRows
import Derived.JoinedOf
set_option linter.unusedVariables false
set_option linter.unusedSimpArgs false
namespace Go.Proofs.YtplekbpmfaghbaaGreatDoor
open Go.RowKit Go.Shelf
attribute [local go_sem] Oper.semAt_some
set_option maxRecDepth 100000 in
set_option maxHeartbeats 8000000 in
theorem SP.named {w w4 : World} {bp bs br bm bl bn : Nat} {A1 : Option Addr} {n1 c1 : Nat} {A2 : Option Addr} {n2 c2 : Nat} {B1 : Option Addr} {m1 d1 : Nat} {B2 : Option Addr} {m2 d2 : Nat} {si : Int} {X : Option Addr} {xc : Nat} {L : List (List UInt8)} {st : Nat} {W : World}
    (h : SP w w4 bp bs br bm bl bn A1 n1 c1 A2 n2 c2 B1 m1 d1 B2 m2 d2 si X xc L (st : Int) W) (hl : st ≤ L.length) :
    ∃ nn : Int, Hid (nn = (st : Int)) ∧ SP w w4 bp bs br bm bl bn A1 n1 c1 A2 n2 c2 B1 m1 d1 B2 m2 d2 si X xc L nn W ∧ (nn == min (st : Int) (L.length : Int)) = true :=
  ⟨st, Lib.hid rfl, h, by rw [Int.min_eq_left (by omega)]; simp⟩
set_option maxHeartbeats 4000000 in
theorem showPrograms_walk (d : Nat) (p : GProg) (A1 : Option Addr) (n1 c1 : Nat) (A2 : Option Addr) (n2 c2 : Nat) (stop : Int) (w : World) (h : ProgAt d w w.heap.size p ⟨A1, n1, c1⟩ ⟨A2, n2, c2⟩) (hL : LexW w) (hS : ShowW w) :
    Calls Tryz.prog 4 #[.agg #[.slice A1 n1 c1, .slice A2 n2 c2], .int .i64 stop] w (RetBool true w) := by
  have HA := Lib.hid (fun (W : World) (hb : Below w.heap.size w W) => alive7_any W (hL.on hb) (hS.on hb))
  have HSz := Lib.hid (fun (W : World) (hb : Below w.heap.size w W) => size_any d p ⟨A1, n1, c1⟩ ⟨A2, n2, c2⟩ W (h.keep hb))
  have HCp := Lib.hid (fun (W : World) (hb : Below w.heap.size w W) (hs : SmProg p) => copyProg_far d p ⟨A1, n1, c1⟩ ⟨A2, n2, c2⟩ w W h hb hs)
  have HPg := Lib.hid (fun (W : World) (hb : Below w.heap.size w W) => program_any d p A1 n1 c1 A2 n2 c2 W (h.keep hb) (hS.on hb) (hL.on hb))
  have HSq := Lib.hid (fun (W : World) (hb : Below w.heap.size w W) (g : Nat) (hg : W.heap[g]? = some (.cells (prg A1 n1 c1 A2 n2 c2) 74 (0, 0))) (S : List Nat) (hgS : g ∉ S) (hSS : ∀ b ∈ S, w.heap.size ≤ b) => lines_seq h hS hL hb hg S hgS hSS)
  clear h hL hS
  refine (callsIn_wide (n := 8)).1 ?_
  refine callsIn_of_wp_marks Tryz.func4 rfl trivial ?_ rfl
  simp only [Tryz.ntmps4, List.size_toArray, List.length_cons, List.length_nil, Nat.reduceAdd, Nat.reduceSub, Array.replicate_succ, Array.replicate_zero, List.push_toArray, List.append_toArray, List.nil_append, List.cons_append]
  refine wpIn_wide.2 ?_
  go_wp2_with fail
  have hb1 : Below w.heap.size w (((w.alloc (.cells (prg A1 n1 c1 A2 n2 c2) 74)).alloc (.cells #[.int .i64 stop] 3)).alloc (.cells #[.bool false] 4)) := belowA (belowA (belowA (Below.refl _ _) _) _) _
  have r0 : (((w.alloc (.cells (prg A1 n1 c1 A2 n2 c2) 74)).alloc (.cells #[.int .i64 stop] 3)).alloc (.cells #[.bool false] 4)).heap[w.heap.size]? = some (.cells (prg A1 n1 c1 A2 n2 c2) 74 (0, 0)) := heapOld (heapOld (heapNew rfl))
  have r1 : (((w.alloc (.cells (prg A1 n1 c1 A2 n2 c2) 74)).alloc (.cells #[.int .i64 stop] 3)).alloc (.cells #[.bool false] 4)).heap[w.heap.size + 1]? = some (.cells #[.int .i64 stop] 3 (0, 0)) := heapOld (heapNew (by simp))
  have r2 : (((w.alloc (.cells (prg A1 n1 c1 A2 n2 c2) 74)).alloc (.cells #[.int .i64 stop] 3)).alloc (.cells #[.bool false] 4)).heap[w.heap.size + 2]? = some (.cells #[.bool false] 4 (0, 0)) := heapNew (by simp)
  generalize (((w.alloc (.cells (prg A1 n1 c1 A2 n2 c2) 74)).alloc (.cells #[.int .i64 stop] 3)).alloc (.cells #[.bool false] 4)) = w1 at *
  refine (HA.out w1 hb1).mono ?_
  rintro e w2 ⟨rfl, hb2⟩
  replace r0 := (hb2.block _ (Array.getElem?_eq_some_iff.1 r0).1).trans r0
  replace r1 := (hb2.block _ (Array.getElem?_eq_some_iff.1 r1).1).trans r1
  replace r2 := (hb2.block _ (Array.getElem?_eq_some_iff.1 r2).1).trans r2
  replace hb1 := below_next hb1 hb2
  obtain ⟨f0, f1⟩ := facts2 r0
  have HSz1 := Lib.hid (HSz.out w2 hb1)
  clear hb2 HA HSz
  go_wp2_with fail
  refine HSz1.out.mono ?_
  rintro e w3 ⟨R, rfl, hR, hb3⟩
  replace r0 := (hb3.block _ (Array.getElem?_eq_some_iff.1 r0).1).trans r0
  replace r1 := (hb3.block _ (Array.getElem?_eq_some_iff.1 r1).1).trans r1
  replace r2 := (hb3.block _ (Array.getElem?_eq_some_iff.1 r2).1).trans r2
  replace hb1 := below_next hb1 hb3
  have HRr := Lib.hid hR
  clear hb3 hR f0 f1 HSz1
  by_cases hneg : R < 0
  · have cr : w3.cell? ⟨w.heap.size + 2, 0, none⟩ = some (.bool false) := (cell_of_row _ _ 0 _ _ _ r2).trans rfl
    have cf : w3.frozen? ⟨w.heap.size + 2, 0, none⟩ = false := frozen_of_row _ _ _ _ _ r2
    have Hb := Lib.hid (hb1.setCell (p := ⟨w.heap.size + 2, 0, none⟩) (by simp) (.bool true))
    clear HCp HPg HSq hb1 r0 r1 r2
    go_wp2_with fail
    exact ⟨.bool true, by simp [results, Tryz.results4, go_sem, cr], rfl, Hb.out⟩
  have hsz := HRr.out.1 (by omega)
  have hsm := szP_all hsz
  have HCp1 := Lib.hid (HCp.out w3 hb1 hsm)
  obtain ⟨f0, f1⟩ := facts2 r0
  clear HCp HRr hsz hsm
  go_wp2_with fail
  refine HCp1.out.mono ?_
  rintro e w4 ⟨⟨B1, m1, d1⟩, ⟨B2, m2, d2⟩, rfl, hfar, hb4⟩
  have r1l := (Array.getElem?_eq_some_iff.1 r1).1
  obtain ⟨hfd, hfr⟩ := hfar [w.heap.size + 1] (fun b hb => by simp at hb; omega)
  have HM : Hid (∀ W, Out [w.heap.size + 1] w4 W → ProgAt d W W.heap.size p ⟨B1, m1, d1⟩ ⟨B2, m2, d2⟩) := fun W ho => ⟨(hfd.out ho (fun _ hb _ => hb) (U := []) (fun _ h _ => by cases h)).is, (hfr.out ho (fun _ hb _ => hb) (U := []) (fun _ h _ => by cases h)).is⟩
  replace r0 := (hb4.block _ (Array.getElem?_eq_some_iff.1 r0).1).trans r0
  replace r1 := (hb4.block _ (Array.getElem?_eq_some_iff.1 r1).1).trans r1
  replace r2 := (hb4.block _ (Array.getElem?_eq_some_iff.1 r2).1).trans r2
  replace hb1 := below_next hb1 hb4
  clear hb4 f0 f1 HCp1
  have r2l := (Array.getElem?_eq_some_iff.1 r2).1
  have hb5 : Below w4.heap.size w4 ((w4.alloc (.cells (prg B1 m1 d1 B2 m2 d2) 79)).alloc (.cells #[.slice none 0 0] 81)) := belowA (belowA (Below.refl _ _) _) _
  have r3 : ((w4.alloc (.cells (prg B1 m1 d1 B2 m2 d2) 79)).alloc (.cells #[.slice none 0 0] 81)).heap[w4.heap.size]? = some (.cells (prg B1 m1 d1 B2 m2 d2) 79 (0, 0)) := heapOld (heapNew rfl)
  have r4 : ((w4.alloc (.cells (prg B1 m1 d1 B2 m2 d2) 79)).alloc (.cells #[.slice none 0 0] 81)).heap[w4.heap.size + 1]? = some (.cells #[.slice none 0 0] 81 (0, 0)) := heapNew (by simp)
  have hz5 : w4.heap.size + 1 < ((w4.alloc (.cells (prg B1 m1 d1 B2 m2 d2) 79)).alloc (.cells #[.slice none 0 0] 81)).heap.size := by simp
  replace r0 := (hb5.block _ (by omega)).trans r0
  replace r1 := (hb5.block _ (by omega)).trans r1
  replace r2 := (hb5.block _ (by omega)).trans r2
  have hb15 := below_next hb1 hb5
  obtain ⟨f0, f1⟩ := facts2 r3
  clear hfd hfr hfar
  go_wp2_with fail
  generalize ((w4.alloc (.cells (prg B1 m1 d1 B2 m2 d2) 79)).alloc (.cells #[.slice none 0 0] 81)) = w5 at *
  have HFm := Lib.hid (fun (W : World) (ho : Out [w.heap.size + 1] w4 W) => refFormed_any d p ⟨B1, m1, d1⟩ ⟨B2, m2, d2⟩ W (HM.out W ho))
  obtain ⟨L, HLn⟩ : ∃ L, Hid (L = linesF p) := ⟨_, rfl⟩
  have HLi := Lib.hid (fun (W : World) (ho : Out [w.heap.size + 1] w4 W) (hf : formedB p = true) => refLines_any d p B1 m1 d1 B2 m2 d2 W (HM.out W ho) hf)
  have HLe : Hid (formedB p = true → linesS p = L) := fun hf => by rw [HLn.out]; unfold linesF; rw [if_pos hf]
  have HL0 : Hid (formedB p = false → L = []) := fun hf => by rw [HLn.out]; unfold linesF; rw [hf]; rfl
  obtain ⟨gm, Hgm⟩ : ∃ gm, gm = w4.heap.size := ⟨_, rfl⟩
  have Hb45 := Lib.hid hb5
  have Hb14 := Lib.hid hb1
  have hz4 : w4.heap.size ≤ gm := by omega
  clear hb5 hb1 HM
  rw [← Hgm] at r3 r4 hz5 ⊢
  clear Hgm
  have HFm5 := Lib.hid (HFm.out w5 (Out.of_below Hb45.out _))
  go_wp2_with fail
  refine HFm5.out.mono ?_
  rintro e w6 ⟨rfl, hb6⟩
  replace r0 := (hb6.block _ (Array.getElem?_eq_some_iff.1 r0).1).trans r0
  replace r1 := (hb6.block _ (Array.getElem?_eq_some_iff.1 r1).1).trans r1
  replace r2 := (hb6.block _ (Array.getElem?_eq_some_iff.1 r2).1).trans r2
  replace r3 := (hb6.block _ (Array.getElem?_eq_some_iff.1 r3).1).trans r3
  replace r4 := (hb6.block _ (Array.getElem?_eq_some_iff.1 r4).1).trans r4
  have hz6 : gm + 1 < w6.heap.size := Nat.lt_of_lt_of_le hz5 hb6.size
  have hb16 := below_next hb15 hb6
  have hb46 := below_next Hb45.out hb6
  have hgl : w.heap.size + 2 < gm := by omega
  obtain ⟨st, hst1, hst2, hst⟩ := stop10 stop
  clear f0 f1 HFm5 hb15 hb6 Hb45 Hb14 r1l r2l
  have HFin : Hid (∀ X xc (V : World), V.heap[w.heap.size]? = some (.cells (prg A1 n1 c1 A2 n2 c2) 74 (0, 0)) → V.heap[w.heap.size + 1]? = some (.cells #[.int .i64 stop] 3 (0, 0)) → V.heap[w.heap.size + 2]? = some (.cells #[.bool false] 4 (0, 0)) → V.heap[gm]? = some (.cells (prg B1 m1 d1 B2 m2 d2) 79 (0, 0)) → V.heap[gm + 1]? = some (.cells #[.slice X L.length xc] 81 (0, 0)) →
      V.ownsRow (gm + 1 + 1) 9 1 (.slice X L.length xc) L.length (L.map fun s => .string (bytes s)) → Below w.heap.size w V → Below w4.heap.size w4 V → SP w w4 w.heap.size (w.heap.size + 1) (w.heap.size + 2) gm (gm + 1) V.heap.size A1 n1 c1 A2 n2 c2 B1 m1 d1 B2 m2 d2 st X xc L 0 ((V.setCell ⟨w.heap.size + 1, 0, none⟩ (.int .i64 st)).alloc (.cells #[.int .i64 0] 3))) :=
    fun X xc V h1 h2 h3 h4 h5 h6 h7 h8 => SP.start h1 h2 h3 h4 h5 h6 h7 h8 (by omega) (by omega) (by omega) (by omega) (by omega) (by omega)
  cases hfo : formedB p
  case' false =>
    have hL0 := HL0.out hfo
    obtain ⟨X, xc, r4', hown⟩ : ∃ (X : Option Addr) (xc : Nat), w6.heap[gm + 1]? = some (.cells #[.slice X L.length xc] 81 (0, 0)) ∧ w6.ownsRow (gm + 1 + 1) 9 1 (.slice X L.length xc) L.length (L.map fun s => .string (bytes s)) := ⟨none, 0, by rw [hL0]; exact r4, by rw [hL0]; exact World.ownsRow_nil _ _ _ _⟩
    have HSP := Lib.hid (HFin.out X xc w6 r0 r1 r2 r3 r4' hown hb16 hb46)
    have c1' : w6.cell? ⟨w.heap.size + 1, 0, none⟩ = some (.int .i64 stop) := (cell_of_row _ _ 0 _ _ _ r1).trans rfl
    have e1 : w6.frozen? ⟨w.heap.size + 1, 0, none⟩ = false := frozen_of_row _ _ _ _ _ r1
    have c4 : w6.cell? ⟨gm + 1, 0, none⟩ = some (.slice X L.length xc) := (cell_of_row _ _ 0 _ _ _ r4').trans rfl
    have cL : ((w6.setCell ⟨w.heap.size + 1, 0, none⟩ (.int .i64 st)).alloc (.cells #[.int .i64 0] 3)).cell? ⟨gm + 1, 0, none⟩ = some (.slice X L.length xc) := (cell_of_row _ _ 0 _ _ _ HSP.out.rl).trans rfl
    have hnb : w.heap.size + 2 < w6.heap.size ∧ gm + 1 < w6.heap.size := ⟨by omega, by omega⟩
    have y1 : gm + 1 < w6.heap.size := by omega
    have y2 : ¬ gm = w.heap.size := by omega
    have y3 : ¬ w.heap.size = gm := by omega
    clear r0 r1 r2 r3 r4 r4' hown hb16 hb46 HFin HL0 HLe HLi hL0 hz6 hz5
    go_wp2_with fail
    generalize ((w6.setCell ⟨w.heap.size + 1, 0, none⟩ (.int .i64 st)).alloc (.cells #[.int .i64 0] 3)) = w8 at *
    generalize w6.heap.size = gn at *
  case' true =>
    have HLi6 := Lib.hid (HLi.out w6 (Out.of_below hb46 _) hfo)
    rw [HLe.out hfo] at HLi6
    obtain ⟨f0, f1⟩ := facts2 r3
    have c4 : w6.cell? ⟨gm + 1, 0, none⟩ = some (.slice none 0 0) := (cell_of_row _ _ 0 _ _ _ r4).trans rfl
    go_wp2_with fail
    refine HLi6.out.mono ?_
    rintro e w7 ⟨X, xc, rfl, hown7, hb7⟩
    replace r0 := (hb7.block _ (Array.getElem?_eq_some_iff.1 r0).1).trans r0
    replace r1 := (hb7.block _ (Array.getElem?_eq_some_iff.1 r1).1).trans r1
    replace r2 := (hb7.block _ (Array.getElem?_eq_some_iff.1 r2).1).trans r2
    replace r3 := (hb7.block _ (Array.getElem?_eq_some_iff.1 r3).1).trans r3
    replace r4 := (hb7.block _ (Array.getElem?_eq_some_iff.1 r4).1).trans r4
    have hz7 := hb7.size
    have hown := own_out' (own_low hown7 (by omega : gm + 1 + 1 ≤ w6.heap.size)) (set_out w7 (gm + 1) 0 (.slice X L.length xc)) (fun b hb hm => by have := (own_blk hown7 hb).1; simp at hm; omega)
    have hV : (w7.setCell ⟨gm + 1, 0, none⟩ (.slice X L.length xc)).heap.size = w7.heap.size := World.size_setCell'
    have HSP := Lib.hid (HFin.out X xc (w7.setCell ⟨gm + 1, 0, none⟩ (.slice X L.length xc)) ((World.heap_setCells_other' (by omega)).trans r0) ((World.heap_setCells_other' (by omega)).trans r1) ((World.heap_setCells_other' (by omega)).trans r2) ((World.heap_setCells_other' (by omega)).trans r3) (set_zero r4) hown ((below_next hb16 hb7).setCell (by show w.heap.size ≤ gm + 1; omega) _) ((below_next hb46 hb7).setCell (by show w4.heap.size ≤ gm + 1; omega) _))
    rw [hV] at HSP
    have e4 : w7.frozen? ⟨gm + 1, 0, none⟩ = false := frozen_of_row _ _ _ _ _ r4
    have c4' : w7.cell? ⟨gm + 1, 0, none⟩ = some (.slice none 0 0) := (cell_of_row _ _ 0 _ _ _ r4).trans rfl
    have r1' : (w7.setCell ⟨gm + 1, 0, none⟩ (.slice X L.length xc)).heap[w.heap.size + 1]? = some (.cells #[.int .i64 stop] 3 (0, 0)) := (World.heap_setCells_other' (by omega)).trans r1
    have c1' : (w7.setCell ⟨gm + 1, 0, none⟩ (.slice X L.length xc)).cell? ⟨w.heap.size + 1, 0, none⟩ = some (.int .i64 stop) := (cell_of_row _ _ 0 _ _ _ r1').trans rfl
    have e1 : (w7.setCell ⟨gm + 1, 0, none⟩ (.slice X L.length xc)).frozen? ⟨w.heap.size + 1, 0, none⟩ = false := frozen_of_row _ _ _ _ _ r1'
    have cL : (((w7.setCell ⟨gm + 1, 0, none⟩ (.slice X L.length xc)).setCell ⟨w.heap.size + 1, 0, none⟩ (.int .i64 st)).alloc (.cells #[.int .i64 0] 3)).cell? ⟨gm + 1, 0, none⟩ = some (.slice X L.length xc) := (cell_of_row _ _ 0 _ _ _ HSP.out.rl).trans rfl
    have hnb : w.heap.size + 2 < w7.heap.size ∧ gm + 1 < w7.heap.size := ⟨by omega, by omega⟩
    have y1 : gm + 1 < w7.heap.size := by omega
    have y2 : ¬ gm = w.heap.size := by omega
    have y3 : ¬ w.heap.size = gm := by omega
    clear r0 r1 r2 r3 r4 r1' hown hown7 hb16 hb46 hb7 HFin HL0 HLe HLi HLi6 hz6 hz5 hV c4
    go_wp2_with fail
    generalize (((w7.setCell ⟨gm + 1, 0, none⟩ (.slice X L.length xc)).setCell ⟨w.heap.size + 1, 0, none⟩ (.int .i64 st)).alloc (.cells #[.int .i64 0] 3)) = w8 at *
    generalize w7.heap.size = gn at *
  all_goals
    clear hst y2 y3
    try clear c4
    try clear c4' e4
    try clear f0 f1
    clear c1' e1
    have HTx : Hid (∀ k, (textS (L.take k)).length ≤ 9600000000096) := fun k => by rw [HLn.out]; exact linesF_text k
    have HLm : Hid (∀ x ∈ L, x.length ≤ 100000000000) := by rw [HLn.out]; exact linesF_line
    have hL96 : L.length ≤ 96 := by rw [HLn.out]; exact linesF_len
    go_loop [8, 10, 32] (fun v _ i => ∃ (k : Nat) (s : ByteArray), k ≤ L.length ∧ v = .string s ∧ i = .int .i64 k ∧ Hid (s = bytes (textS (L.take k)))) (fun _ _ i => L.length - (intOf i).toNat)
    case atStart => exact ⟨0, _, by omega, rfl, rfl, rfl⟩
    case round =>
      obtain ⟨k, s, hk, rfl, rfl, Hs⟩ := hrel
      have i0 : (0 : Int) ≤ (k : Int) := by omega
      have hss : s.size ≤ 9600000000096 := by rw [Hs.out]; exact HTx.out k
      by_cases hlt : k < L.length
      · have i1 : (k : Int) < (L.length : Int) := by omega
        obtain ⟨b, x, hX, hx, cx⟩ := HSP.out.line hlt
        subst hX
        have hxl : (bytes x).size ≤ 100000000000 := HLm.out x (List.mem_of_getElem? hx.out)
        have HNx : Hid (s ++ (bytes x ++ ⟨#[10]⟩) = bytes (textS (L.take (k + 1)))) := by
          show s ++ (bytes x ++ bytes [10]) = _
          rw [textS_take hx.out, Hs.out, bytes_app, bytes_app, List.append_assoc]
        clear hx Hs HLm HTx
        generalize bytes x = sx at *
        have z1 : ¬ (9223372036854775807 < sx.size + 1) := by omega
        have z2 : ¬ (9223372036854775806 < sx.size) := by omega
        have z3 : ¬ (9223372036854775807 < s.size + (sx.size + 1)) := by omega
        go_wp2_with fail
        go_round
        case rel => exact ⟨k + 1, _, by omega, rfl, by go_num, HNx⟩
        case measure => simp [intOf]; omega
      · have i1 : ¬ (k : Int) < (L.length : Int) := by omega
        have HsL : Hid (s = bytes (textS L)) := by show _ = _; rw [Hs.out, List.take_of_length_le (by omega)]
        obtain ⟨g0, g1⟩ := facts2 HSP.out.rp
        clear Hs HTx HLm hk
        go_wp2_with fail
        refine (lines_any A1 n1 c1 A2 n2 c2 w8).mono ?_
        rintro e w9 ⟨rfl, hw9⟩
        have hb9 : Below w8.heap.size w8 w9 := by rw [hw9]; exact belowA (Below.refl _ _) _
        have hg9 : w9.heap[w8.heap.size]? = some (.cells (prg A1 n1 c1 A2 n2 c2) 74 (0, 0)) := by rw [hw9]; exact heapNew rfl
        have hl9 := (Array.getElem?_eq_some_iff.1 hg9).1
        have HSP9 := Lib.hid (HSP.out.on hb9)
        have hz8 : gn < w8.heap.size := (Array.getElem?_eq_some_iff.1 HSP.out.rn).1
        have hzw : w.heap.size ≤ w8.heap.size := HSP.out.bw.size
        have hz48 : w4.heap.size ≤ w8.heap.size := HSP.out.om.size
        have hz9 := hb9.size
        have hng : gn ≠ w8.heap.size := by omega
        have HQ := Lib.hid (HSq.out w9 HSP9.out.bw w8.heap.size hg9 [gn] (by simp; omega) (by simp; omega))
        rw [← HLn.out] at HQ
        have y5 : w.heap.size + 1 < gn := by omega
        have y6 : w.heap.size + 2 < gn := by omega
        have y7 : gm < gn := by omega
        have y8 : w4.heap.size ≤ gn := by omega
        clear hw9 hb9 hg9 HSP HSq g0 g1 cL hnb
        go_wp2_with fail
        refine (wpIn_wide (n := 8)).1 (range_law2 (hg := rfl) (eg := enters_of Tryz.func81 (by kernel_rfl) rfl) (hseq := HQ.out) (hb0 := Below.refl _ _) ?hS (hps := fun _ => rfl)
          (I := fun N pre W => pre.length < st ∧ SP w w4 w.heap.size (w.heap.size + 1) (w.heap.size + 2) gm (gm + 1) gn A1 n1 c1 A2 n2 c2 B1 m1 d1 B2 m2 d2 st X xc L pre.length W)
          (Ix := fun cd N pre W => cd = .exit 2 ∧ pre.length = st ∧ pre.length ≤ L.length ∧ SP w w4 w.heap.size (w.heap.size + 1) (w.heap.size + 2) gm (gm + 1) gn A1 n1 c1 A2 n2 c2 B1 m1 d1 B2 m2 d2 st X xc L pre.length W)
          ?hI ?hIx ?h0 ?round ?done ?stop)
        case hS => intro b hb; simp at hb; omega
        case hI =>
          rintro N pre W W' ⟨h1, h2⟩ hs'
          exact ⟨h1, h2.soft hs' (by omega) (by omega)⟩
        case hIx =>
          rintro cd N pre W W' ⟨h1, h2, h3, h4⟩ hs'
          exact ⟨h1, h2, h3, h4.soft hs' (by omega) (by omega)⟩
        case h0 =>
          intro N W hs' _ _
          exact ⟨by simp; omega, HSP9.out.soft hs' (by omega) (by omega)⟩
        case round =>
          rintro kk0 N pre x W0 W1 K ⟨h1, h2⟩ hs' hN hN2 hW01 hx hK
          have HK := Lib.hid hK
          have H1 := Lib.hid (h2.soft hs' (by omega) (by omega))
          have hW0l : gn < W0.heap.size := (Array.getElem?_eq_some_iff.1 h2.rn).1
          have Hpl : Hid ((pre ++ [x]).length = pre.length + 1) := by show _ = _; simp
          have hxL : L[pre.length]? = some x := by
            obtain ⟨t, ht⟩ := hx
            rw [← ht]; simp
          have hlt : pre.length < L.length := (List.getElem?_eq_some_iff.1 hxL).1
          have HxL := Lib.hid hxL
          clear hK hx h2 hs' HQ hxL HSP9
          rw [encS_one]
          gi_wp2
          refine HK.out _ _ (Below.refl _ _) (fun W2 hs2 hz2 => ?_)
          have H2 := Lib.hid (H1.out.soft hs2 (by omega) (by omega))
          obtain ⟨b, sx, hX, hxs, cx⟩ := H2.out.line hlt
          have hsx : sx = x := by have := hxs.out; rw [HxL.out] at this; injection this with this; exact this.symm
          subst hsx
          subst hX
          have cn : W2.cell? ⟨gn, 0, none⟩ = some (.int .i64 pre.length) := (cell_of_row _ _ 0 _ _ _ H2.out.rn).trans rfl
          have cnf : W2.frozen? ⟨gn, 0, none⟩ = false := frozen_of_row _ _ _ _ _ H2.out.rn
          have cs : W2.cell? ⟨w.heap.size + 1, 0, none⟩ = some (.int .i64 st) := (cell_of_row _ _ 0 _ _ _ H2.out.rs).trans rfl
          have cl : W2.cell? ⟨gm + 1, 0, none⟩ = some (.slice (some ⟨b, 0, none⟩) L.length xc) := (cell_of_row _ _ 0 _ _ _ H2.out.rl).trans rfl
          have HSN := Lib.hid (H2.out.setN (by omega) y5 y6 y7 (by omega) (by omega) y8 ((pre.length : Int) + 1))
          have HTn : Hid (Turn2 [gn] N W0.heap.size W2 (W2.setCell ⟨gn, 0, none⟩ (.int .i64 ((pre.length : Int) + 1)))) := Turn2.of_out (set_out W2 gn 0 _) (by omega) (fun b hb _ => by simp at hb; subst hb; exact ⟨.inl (by simp), hW0l⟩)
          clear hz2 H1 H2 HK hs2 hxs HxL
          generalize pre.length = kk at *
          generalize bytes sx = bx at *
          have z1 : (0 : Int) ≤ (kk : Int) := by omega
          have z2 : (kk : Int) < (L.length : Int) := by omega
          have z3 : ¬ (L.length : Int) ≤ (kk : Int) := by omega
          by_cases hks : kk + 1 = st
          · have hq : ((kk : Int) + 1 == (st : Int)) = true := by simp; omega
            have Hks := Lib.hid hks
            clear hks
            gi_wp2_with fail
            exact ⟨HTn.out, rfl, by rw [Hpl.out]; exact Hks.out, by rw [Hpl.out]; omega, by rw [Hpl.out]; exact HSN.out⟩
          · have hq : ((kk : Int) + 1 == (st : Int)) = false := by simp; omega
            have Hks : Hid (kk + 1 < st) := by show _ < _; omega
            clear hks
            gi_wp2_with fail
            exact ⟨HTn.out, by rw [Hpl.out]; exact Hks.out, by rw [Hpl.out]; exact HSN.out⟩
        case done =>
          rintro N xs W hxs ⟨h1, h2w⟩ hD
          have hxl : xs = L := hxs.out
          rw [hxl] at h1 h2w
          have q1 : ((L.length : Int) == min (st : Int) (L.length : Int)) = true := by rw [Int.min_eq_right (by omega)]; simp
          obtain ⟨nn, Hnn⟩ : ∃ nn : Int, Hid (nn = (L.length : Int)) := ⟨_, rfl⟩
          have q1' : (nn == min (st : Int) (L.length : Int)) = true := by rw [Hnn.out]; exact q1
          rw [← Hnn.out] at h2w
          clear q1 hxs hxl HQ HSP9 h1 Hnn
          have q1 := q1'
          clear q1'
          have H0w := Lib.hid h2w
          have HD := Lib.hid hD
          have hDl := (Array.getElem?_eq_some_iff.1 hD).1
          have hgn9 : gn < w9.heap.size := by omega
          have hw29 : w.heap.size + 2 < w9.heap.size := by omega
          have HPc := Lib.hid (HPg.out W h2w.bw)
          unfold ProgT at HPc
          obtain ⟨a0, a1⟩ := facts2 h2w.rp
          clear h2w hD
          rcases progO_F p with ⟨hf, hpo⟩ | ⟨hf, h4, hpo⟩ | ⟨hf, h4, hpo⟩
          all_goals
            try rw [← HLn.out] at h4
            try rw [← HLn.out] at hpo
            rw [hpo] at HPc
            try rw [← HsL.out] at HPc
            have b0 : bytes [] = (⟨#[]⟩ : ByteArray) := rfl
            try rw [b0] at HPc
            have ev2 : showErr 2 = .iface 90 (.int .i64 2) := rfl
            have ev3 : showErr 3 = .iface 90 (.int .i64 3) := rfl
            have ev0 : showErr 0 = .nilIface := rfl
            simp only [ev2, ev3, ev0] at HPc
            clear ev2 ev3 ev0 hpo b0
            go_wp2_with fail
            refine HPc.out.mono ?_
            rintro e w11 ⟨rfl, hb11⟩
            have H3 := Lib.hid (H0w.out.on hb11)
            have HD3 := Lib.hid ((hb11.block _ hDl).trans HD.out)
            have k1 : w11.cell? ⟨gn, 0, none⟩ = some (.int .i64 nn) := (cell_of_row _ _ 0 _ _ _ H3.out.rn).trans rfl
            have k2 : w11.cell? ⟨w.heap.size + 1, 0, none⟩ = some (.int .i64 st) := (cell_of_row _ _ 0 _ _ _ H3.out.rs).trans rfl
            have k3 : w11.cell? ⟨gm + 1, 0, none⟩ = some (.slice X L.length xc) := (cell_of_row _ _ 0 _ _ _ H3.out.rl).trans rfl
            obtain ⟨k4, k5⟩ := facts2 H3.out.rm
            have HFc := Lib.hid (HFm.out w11 H3.out.om)
            rw [hf] at HFc
            clear hb11 HPc a0 a1 HD H0w
            go_wp2_with fail
            refine HFc.out.mono ?_
            rintro e w12 ⟨rfl, hb12⟩
            have H4 := Lib.hid (H3.out.on hb12)
            have HD4 := Lib.hid ((hb12.block _ (Array.getElem?_eq_some_iff.1 HD3.out).1).trans HD3.out)
            clear hb12 HFc k1 k2 k3 k4 k5 H3 HD3 q1
          · have HI := Lib.hid (fun V => is_any 2 2 V)
            have evi : errV 90 2 = .iface 90 (.int .i64 2) := rfl
            rw [evi] at HI
            clear evi
            go_wp2_with fail
            refine (HI.out _).mono ?_
            rintro e w13 ⟨rfl, hb13⟩
            have H5 := Lib.hid (H4.out.on hb13)
            have HD5 := Lib.hid ((hb13.block _ (Array.getElem?_eq_some_iff.1 HD4.out).1).trans HD4.out)
            clear hb13 H4 HD4 HI
            have cr : w13.cell? ⟨w.heap.size + 2, 0, none⟩ = some (.bool false) := (cell_of_row _ _ 0 _ _ _ H5.out.rr).trans rfl
            have cf : w13.frozen? ⟨w.heap.size + 2, 0, none⟩ = false := frozen_of_row _ _ _ _ _ H5.out.rr
            have HRr := Lib.hid (set_zero (v := .bool true) H5.out.rr)
            have hD6 : (w13.setCell ⟨w.heap.size + 2, 0, none⟩ (.bool true)).heap[w9.heap.size]? = some (.deferred (some [])) := (World.heap_setCells_other' (by omega)).trans HD5.out
            have HBw := Lib.hid (H5.out.bw.setCell (p := ⟨w.heap.size + 2, 0, none⟩) (by simp) (.bool true))
            clear H5 HD5
            go_wp2_with fail
            refine ⟨by simp, .inl ⟨_, _, rfl, run_takeDeferred hD6, ?_⟩⟩
            have cr2 : ((w13.setCell ⟨w.heap.size + 2, 0, none⟩ (.bool true)).putObj w9.heap.size (.deferred none)).cell? ⟨w.heap.size + 2, 0, none⟩ = some (.bool true) := (cell_of_row _ _ 0 _ _ _ ((World.putObj_heap_other (by omega)).trans HRr.out)).trans rfl
            have hb20 : Below w.heap.size w ((w13.setCell ⟨w.heap.size + 2, 0, none⟩ (.bool true)).putObj w9.heap.size (.deferred none)) := HBw.out.trans ((Soft.putObj _ (Nat.le_refl _) hD6 rfl).below (by omega) HBw.out.size)
            exact ⟨.bool true, by simp [results, Tryz.results4, go_sem, cr2], rfl, hb20⟩
          · have hl4 : 4000 < s.size := by rw [HsL.out, bytes_size]; exact h4
            have z4 : (4000 : Int) < (s.size : Int) := by omega
            have HI := Lib.hid (fun V => is_any 3 3 V)
            have evi : errV 90 3 = .iface 90 (.int .i64 3) := rfl
            rw [evi] at HI
            clear evi
            go_wp2_with fail
            refine (HI.out _).mono ?_
            rintro e w13 ⟨rfl, hb13⟩
            have H5 := Lib.hid (H4.out.on hb13)
            have HD5 := Lib.hid ((hb13.block _ (Array.getElem?_eq_some_iff.1 HD4.out).1).trans HD4.out)
            clear hb13 H4 HD4 HI
            have cr : w13.cell? ⟨w.heap.size + 2, 0, none⟩ = some (.bool false) := (cell_of_row _ _ 0 _ _ _ H5.out.rr).trans rfl
            have cf : w13.frozen? ⟨w.heap.size + 2, 0, none⟩ = false := frozen_of_row _ _ _ _ _ H5.out.rr
            have HRr := Lib.hid (set_zero (v := .bool true) H5.out.rr)
            have hD6 : (w13.setCell ⟨w.heap.size + 2, 0, none⟩ (.bool true)).heap[w9.heap.size]? = some (.deferred (some [])) := (World.heap_setCells_other' (by omega)).trans HD5.out
            have HBw := Lib.hid (H5.out.bw.setCell (p := ⟨w.heap.size + 2, 0, none⟩) (by simp) (.bool true))
            clear H5 HD5
            go_wp2_with fail
            refine ⟨by simp, .inl ⟨_, _, rfl, run_takeDeferred hD6, ?_⟩⟩
            have cr2 : ((w13.setCell ⟨w.heap.size + 2, 0, none⟩ (.bool true)).putObj w9.heap.size (.deferred none)).cell? ⟨w.heap.size + 2, 0, none⟩ = some (.bool true) := (cell_of_row _ _ 0 _ _ _ ((World.putObj_heap_other (by omega)).trans HRr.out)).trans rfl
            have hb20 : Below w.heap.size w ((w13.setCell ⟨w.heap.size + 2, 0, none⟩ (.bool true)).putObj w9.heap.size (.deferred none)) := HBw.out.trans ((Soft.putObj _ (Nat.le_refl _) hD6 rfl).below (by omega) HBw.out.size)
            exact ⟨.bool true, by simp [results, Tryz.results4, go_sem, cr2], rfl, hb20⟩
          · have hl4 : ¬ 4000 < s.size := by rw [HsL.out, bytes_size]; exact h4
            have z4 : ¬ (4000 : Int) < (s.size : Int) := by omega
            obtain ⟨w13, hw13⟩ : ∃ V, V = w12 := ⟨_, rfl⟩
            subst hw13
            have H5 := H4
            have HD5 := HD4
            have cr : w13.cell? ⟨w.heap.size + 2, 0, none⟩ = some (.bool false) := (cell_of_row _ _ 0 _ _ _ H5.out.rr).trans rfl
            have cf : w13.frozen? ⟨w.heap.size + 2, 0, none⟩ = false := frozen_of_row _ _ _ _ _ H5.out.rr
            have HRr := Lib.hid (set_zero (v := .bool true) H5.out.rr)
            have hD6 : (w13.setCell ⟨w.heap.size + 2, 0, none⟩ (.bool true)).heap[w9.heap.size]? = some (.deferred (some [])) := (World.heap_setCells_other' (by omega)).trans HD5.out
            have HBw := Lib.hid (H5.out.bw.setCell (p := ⟨w.heap.size + 2, 0, none⟩) (by simp) (.bool true))
            clear H5 HD5
            go_wp2_with fail
            refine ⟨by simp, .inl ⟨_, _, rfl, run_takeDeferred hD6, ?_⟩⟩
            have cr2 : ((w13.setCell ⟨w.heap.size + 2, 0, none⟩ (.bool true)).putObj w9.heap.size (.deferred none)).cell? ⟨w.heap.size + 2, 0, none⟩ = some (.bool true) := (cell_of_row _ _ 0 _ _ _ ((World.putObj_heap_other (by omega)).trans HRr.out)).trans rfl
            have hb20 : Below w.heap.size w ((w13.setCell ⟨w.heap.size + 2, 0, none⟩ (.bool true)).putObj w9.heap.size (.deferred none)) := HBw.out.trans ((Soft.putObj _ (Nat.le_refl _) hD6 rfl).below (by omega) HBw.out.size)
            exact ⟨.bool true, by simp [results, Tryz.results4, go_sem, cr2], rfl, hb20⟩
        case stop =>
          rintro cd N pre W hSp ⟨rfl, h1, h2, h2w⟩ hD
          rw [h1] at h2w h2
          obtain ⟨nn, Hnn, h2w', q1⟩ := SP.named h2w (by omega : st ≤ L.length)
          clear h2w
          have h2w := h2w'
          clear h2w'
          clear hSp HQ HSP9 h1
          refine wpIn_wide.2 ?_
          have H0w := Lib.hid h2w
          have HD := Lib.hid hD
          have hDl := (Array.getElem?_eq_some_iff.1 hD).1
          have hgn9 : gn < w9.heap.size := by omega
          have hw29 : w.heap.size + 2 < w9.heap.size := by omega
          have HPc := Lib.hid (HPg.out W h2w.bw)
          unfold ProgT at HPc
          obtain ⟨a0, a1⟩ := facts2 h2w.rp
          clear h2w hD
          rcases progO_F p with ⟨hf, hpo⟩ | ⟨hf, h4, hpo⟩ | ⟨hf, h4, hpo⟩
          all_goals
            try rw [← HLn.out] at h4
            try rw [← HLn.out] at hpo
            rw [hpo] at HPc
            try rw [← HsL.out] at HPc
            have b0 : bytes [] = (⟨#[]⟩ : ByteArray) := rfl
            try rw [b0] at HPc
            have ev2 : showErr 2 = .iface 90 (.int .i64 2) := rfl
            have ev3 : showErr 3 = .iface 90 (.int .i64 3) := rfl
            have ev0 : showErr 0 = .nilIface := rfl
            simp only [ev2, ev3, ev0] at HPc
            clear ev2 ev3 ev0 hpo b0
            go_wp2_with fail
            refine HPc.out.mono ?_
            rintro e w11 ⟨rfl, hb11⟩
            have H3 := Lib.hid (H0w.out.on hb11)
            have HD3 := Lib.hid ((hb11.block _ hDl).trans HD.out)
            have k1 : w11.cell? ⟨gn, 0, none⟩ = some (.int .i64 nn) := (cell_of_row _ _ 0 _ _ _ H3.out.rn).trans rfl
            have k2 : w11.cell? ⟨w.heap.size + 1, 0, none⟩ = some (.int .i64 st) := (cell_of_row _ _ 0 _ _ _ H3.out.rs).trans rfl
            have k3 : w11.cell? ⟨gm + 1, 0, none⟩ = some (.slice X L.length xc) := (cell_of_row _ _ 0 _ _ _ H3.out.rl).trans rfl
            obtain ⟨k4, k5⟩ := facts2 H3.out.rm
            have HFc := Lib.hid (HFm.out w11 H3.out.om)
            rw [hf] at HFc
            clear hb11 HPc a0 a1 HD H0w
            go_wp2_with fail
            refine HFc.out.mono ?_
            rintro e w12 ⟨rfl, hb12⟩
            have H4 := Lib.hid (H3.out.on hb12)
            have HD4 := Lib.hid ((hb12.block _ (Array.getElem?_eq_some_iff.1 HD3.out).1).trans HD3.out)
            clear hb12 HFc k1 k2 k3 k4 k5 H3 HD3 q1
          · have HI := Lib.hid (fun V => is_any 2 2 V)
            have evi : errV 90 2 = .iface 90 (.int .i64 2) := rfl
            rw [evi] at HI
            clear evi
            go_wp2_with fail
            refine (HI.out _).mono ?_
            rintro e w13 ⟨rfl, hb13⟩
            have H5 := Lib.hid (H4.out.on hb13)
            have HD5 := Lib.hid ((hb13.block _ (Array.getElem?_eq_some_iff.1 HD4.out).1).trans HD4.out)
            clear hb13 H4 HD4 HI
            have cr : w13.cell? ⟨w.heap.size + 2, 0, none⟩ = some (.bool false) := (cell_of_row _ _ 0 _ _ _ H5.out.rr).trans rfl
            have cf : w13.frozen? ⟨w.heap.size + 2, 0, none⟩ = false := frozen_of_row _ _ _ _ _ H5.out.rr
            have HRr := Lib.hid (set_zero (v := .bool true) H5.out.rr)
            have hD6 : (w13.setCell ⟨w.heap.size + 2, 0, none⟩ (.bool true)).heap[w9.heap.size]? = some (.deferred (some [])) := (World.heap_setCells_other' (by omega)).trans HD5.out
            have HBw := Lib.hid (H5.out.bw.setCell (p := ⟨w.heap.size + 2, 0, none⟩) (by simp) (.bool true))
            clear H5 HD5
            go_wp2_with fail
            refine ⟨by simp, .inl ⟨_, _, rfl, run_takeDeferred hD6, ?_⟩⟩
            have cr2 : ((w13.setCell ⟨w.heap.size + 2, 0, none⟩ (.bool true)).putObj w9.heap.size (.deferred none)).cell? ⟨w.heap.size + 2, 0, none⟩ = some (.bool true) := (cell_of_row _ _ 0 _ _ _ ((World.putObj_heap_other (by omega)).trans HRr.out)).trans rfl
            have hb20 : Below w.heap.size w ((w13.setCell ⟨w.heap.size + 2, 0, none⟩ (.bool true)).putObj w9.heap.size (.deferred none)) := HBw.out.trans ((Soft.putObj _ (Nat.le_refl _) hD6 rfl).below (by omega) HBw.out.size)
            exact ⟨.bool true, by simp [results, Tryz.results4, go_sem, cr2], rfl, hb20⟩
          · have hl4 : 4000 < s.size := by rw [HsL.out, bytes_size]; exact h4
            have z4 : (4000 : Int) < (s.size : Int) := by omega
            have HI := Lib.hid (fun V => is_any 3 3 V)
            have evi : errV 90 3 = .iface 90 (.int .i64 3) := rfl
            rw [evi] at HI
            clear evi
            go_wp2_with fail
            refine (HI.out _).mono ?_
            rintro e w13 ⟨rfl, hb13⟩
            have H5 := Lib.hid (H4.out.on hb13)
            have HD5 := Lib.hid ((hb13.block _ (Array.getElem?_eq_some_iff.1 HD4.out).1).trans HD4.out)
            clear hb13 H4 HD4 HI
            have cr : w13.cell? ⟨w.heap.size + 2, 0, none⟩ = some (.bool false) := (cell_of_row _ _ 0 _ _ _ H5.out.rr).trans rfl
            have cf : w13.frozen? ⟨w.heap.size + 2, 0, none⟩ = false := frozen_of_row _ _ _ _ _ H5.out.rr
            have HRr := Lib.hid (set_zero (v := .bool true) H5.out.rr)
            have hD6 : (w13.setCell ⟨w.heap.size + 2, 0, none⟩ (.bool true)).heap[w9.heap.size]? = some (.deferred (some [])) := (World.heap_setCells_other' (by omega)).trans HD5.out
            have HBw := Lib.hid (H5.out.bw.setCell (p := ⟨w.heap.size + 2, 0, none⟩) (by simp) (.bool true))
            clear H5 HD5
            go_wp2_with fail
            refine ⟨by simp, .inl ⟨_, _, rfl, run_takeDeferred hD6, ?_⟩⟩
            have cr2 : ((w13.setCell ⟨w.heap.size + 2, 0, none⟩ (.bool true)).putObj w9.heap.size (.deferred none)).cell? ⟨w.heap.size + 2, 0, none⟩ = some (.bool true) := (cell_of_row _ _ 0 _ _ _ ((World.putObj_heap_other (by omega)).trans HRr.out)).trans rfl
            have hb20 : Below w.heap.size w ((w13.setCell ⟨w.heap.size + 2, 0, none⟩ (.bool true)).putObj w9.heap.size (.deferred none)) := HBw.out.trans ((Soft.putObj _ (Nat.le_refl _) hD6 rfl).below (by omega) HBw.out.size)
            exact ⟨.bool true, by simp [results, Tryz.results4, go_sem, cr2], rfl, hb20⟩
          · have hl4 : ¬ 4000 < s.size := by rw [HsL.out, bytes_size]; exact h4
            have z4 : ¬ (4000 : Int) < (s.size : Int) := by omega
            obtain ⟨w13, hw13⟩ : ∃ V, V = w12 := ⟨_, rfl⟩
            subst hw13
            have H5 := H4
            have HD5 := HD4
            have cr : w13.cell? ⟨w.heap.size + 2, 0, none⟩ = some (.bool false) := (cell_of_row _ _ 0 _ _ _ H5.out.rr).trans rfl
            have cf : w13.frozen? ⟨w.heap.size + 2, 0, none⟩ = false := frozen_of_row _ _ _ _ _ H5.out.rr
            have HRr := Lib.hid (set_zero (v := .bool true) H5.out.rr)
            have hD6 : (w13.setCell ⟨w.heap.size + 2, 0, none⟩ (.bool true)).heap[w9.heap.size]? = some (.deferred (some [])) := (World.heap_setCells_other' (by omega)).trans HD5.out
            have HBw := Lib.hid (H5.out.bw.setCell (p := ⟨w.heap.size + 2, 0, none⟩) (by simp) (.bool true))
            clear H5 HD5
            go_wp2_with fail
            refine ⟨by simp, .inl ⟨_, _, rfl, run_takeDeferred hD6, ?_⟩⟩
            have cr2 : ((w13.setCell ⟨w.heap.size + 2, 0, none⟩ (.bool true)).putObj w9.heap.size (.deferred none)).cell? ⟨w.heap.size + 2, 0, none⟩ = some (.bool true) := (cell_of_row _ _ 0 _ _ _ ((World.putObj_heap_other (by omega)).trans HRr.out)).trans rfl
            have hb20 : Below w.heap.size w ((w13.setCell ⟨w.heap.size + 2, 0, none⟩ (.bool true)).putObj w9.heap.size (.deferred none)) := HBw.out.trans ((Soft.putObj _ (Nat.le_refl _) hD6 rfl).below (by omega) HBw.out.size)
            exact ⟨.bool true, by simp [results, Tryz.results4, go_sem, cr2], rfl, hb20⟩
end Go.Proofs.YtplekbpmfaghbaaGreatDoor

namespace Go.Proofs.YtplekbpmfaghbaaGreatDoor
open Go.ChangeShapes Go.WideShapes Go.ChangeAt Go.RowKit
set_option linter.unusedVariables false
theorem params : Tryz.f4.params = #[74, 3] := by kernel_rfl
set_option maxRecDepth 100000 in
theorem lifted (os : Os) (started : os.Started) (H : Type) (enc : TypeId × Value → H) :
    ReturnsInHanded {} Tryz.checked os 4 .any (fun w args => (Rows.showProgramsSpec.pre enc Tryz.prog Tryz.f4 Rows.showProgramsRow.domain false w args ∧ laidMet Tryz.prog laidS w) ∧ sizedMet enc Tryz.prog Tryz.f4 (OpenSpec.ofChange Rows.showProgramsSpec) false w args)
      (Rows.showProgramsSpec.post enc Tryz.prog Tryz.f4 false true false false) := by
  refine returnsInHanded_of_change_and (C := Tryz.checked) (X := fun w _ => laidMet Tryz.prog laidS w) (fun _ _ _ hh h => h.of_heap hh) own started (by kernel_rfl) Tryz.func4
    (ChangeSpec.witness_at (enc := enc) (C := Tryz.checked) (os := os) (X := fun w _ => laidMet Tryz.prog laidS w) false (laidWorldS os) #[.agg #[.slice none 0 0, .slice none 0 0], .int .i64 0] 8 rfl (by kernel_rfl) (by kernel_rfl) (by kernel_rfl) (by kernel_rfl) (by kernel_rfl) (laidWorldS_met os _)) ?_
  intro W base args ds gs before hval0 hW hcnd hsz0 hL _
  have hval : ∀ (j : Nat) t v, Tryz.f4.params[j]? = some t → args[j]? = some v → Value.okWide Tryz.prog W .any base t v := hval0
  have hW' := hW
  obtain ⟨p, q, hA0, hV, rfl, hfz, hnd⟩ := hW
  have hA : DataW.TrodAll enc Tryz.prog W 0 (fun _ => true) true Tryz.f4.params.toList args.toList ds p := hA0
  have hsz : (DataW.weightsEach Tryz.prog (Tryz.f4.params.toList ++ Rows.showProgramsSpec.plain.varTypes Tryz.prog) (ds ++ gs)).all (· ≤ reachBytes) = true := hsz0
  rw [params] at hA hval hsz
  obtain ⟨v0, vs0, d0, ds0, p0, q0, hargs, rfl, rfl, h0, r0⟩ := trodAll_cons hA
  obtain ⟨v1, vs1, d1, ds1, p1, q1, rfl, rfl, rfl, h1, r1⟩ := trodAll_cons r0
  obtain ⟨rfl, rfl, rfl⟩ := trodAll_nil r1
  obtain rfl : args = #[v0, v1] := by cases args; simp_all
  obtain ⟨rfl, rfl⟩ := trodVars_none hV
  have hwt : ∀ (j : Nat) (t : TypeId) (d : DataW H), [74, 3][j]? = some t → [d0, d1][j]? = some d → ∀ n ∈ d.weights Tryz.prog t, n ≤ reachBytes := fun j t d ht hd n hn => by
    have := List.all_eq_true.1 hsz n (DataW.weights_mem_each (j := j) (by rw [List.getElem?_append_left (by simpa using (List.getElem?_eq_some_iff.1 ht).1)]; exact ht) (by rw [List.getElem?_append_left (by simpa using (List.getElem?_eq_some_iff.1 hd).1)]; exact hd) n hn)
    simpa using this
  have lt0 : ∀ x ∈ p0, x.block < W.heap.size := by obtain ⟨m, hm⟩ := h0; exact DataW.trod_lt m _ _ _ hm
  have lt1 : ∀ x ∈ p1, x.block < W.heap.size := by obtain ⟨m, hm⟩ := h1; exact DataW.trod_lt m _ _ _ hm
  obtain ⟨N0, a0, cs0, rfl, A0, B0, rfl, k0⟩ := open_encB u_prog o_prog (hval 0 74 v0 rfl rfl) h0 (hwt 0 _ _ rfl rfl)
  obtain ⟨a1, rfl, oka1⟩ := open_int' (k := .i64) (by kernel_rfl) (hval 1 3 v1 rfl rfl) h1
  clear hA0 hval0
  refine (showPrograms_walk N0 a0 A0.A A0.n A0.c B0.A B0.n B0.c a1 W k0 (lexW_of_laidS hL) (showW_of_laidS hL)).mono fun e W' ⟨he, bel⟩ => ?_
  subst he
  exact ⟨_, rfl, _, _, _, [], _, [], hW', trodAll_mk1 (shut_bool u_bool _),
    (trodAll_cons_mk (Below.trod laidOut (by kernel_rfl) (of_decide_eq_true (by kernel_rfl)) h0 bel lt0)
      (trodAll_cons_mk (Below.trod laidOut (by kernel_rfl) (of_decide_eq_true (by kernel_rfl)) h1 bel lt1)
      trodAll_mk0)), rfl, bel.frame _, fun h => by cases h⟩
end Go.Proofs.YtplekbpmfaghbaaGreatDoor

namespace Go.Proofs.YtplekbpmfaghbaaGreatDoor
set_option maxHeartbeats 4000000 in
theorem closedF : joinedFacts Tryz.prog 4 Tryz.f4 Rows.showProgramsSpec Rows.showProgramsRow = true := by
  unfold joinedFacts
  simp only [Bool.and_eq_true]
  repeat' (with_reducible refine And.intro ?_ ?_)
  all_goals (as_aux_lemma => kernel_rfl)
end Go.Proofs.YtplekbpmfaghbaaGreatDoor
