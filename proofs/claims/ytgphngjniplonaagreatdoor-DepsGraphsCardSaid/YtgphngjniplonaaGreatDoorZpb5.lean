/- My own texts DgGr, as far as this claim needs them. -/
import Derived.Test.YtgphngjniplonaaGreatDoorZp31
import Derived.Test.YtgphngjniplonaaGreatDoorZpb4
import Derived.Lib.Walk
set_option linter.unusedVariables false
set_option linter.unusedSimpArgs false
set_option maxRecDepth 1000000
set_option maxHeartbeats 16000000
namespace Go.Proofs.YtgphngjniplonaaGreatDoor
open Go.RowKit
def okG (n : Int) (l : List GEdge) : Bool := (decide (0 ≤ n) && decide (n ≤ 32)) && l.all (fun x => withinE x n)
def nN (n : Int) (l : List GEdge) : Int := if okG n l = true then n else 0
def nE (n : Int) (l : List GEdge) : List GEdge := if okG n l = true then putsE l else []
def nR (n : Int) (l : List GEdge) : Value := if okG n l = true then .nilIface else .iface 57 (.int .i64 1)
def tN (n : Int) (l : List GEdge) : Int := if rightG n l = true then n else 0
def tE (n : Int) (l : List GEdge) : List GEdge := if rightG n l = true then putsE (turnL l) else []
theorem newAll_any (n : Int) (A : Option Addr) (m c : Nat) (l : List GEdge) (w : World) (h : SliceIs Enc.edge w w.heap.size A m c l) (hm : m ≤ 10000) :
    Calls Tryz.prog 14 #[.int .i64 n, .slice A m c] w (fun e w' => ∃ A' k c', e = .returned (.tuple #[graphV (nN n l) A' k c', nR n l]) ∧ SliceIs Enc.edge w' w'.heap.size A' k c' (nE n l) ∧ Below w.heap.size w w') := by
  cases hok : okG n l with
  | true =>
    have h1 := hok
    simp only [okG, Bool.and_eq_true, decide_eq_true_eq, List.all_eq_true] at h1
    refine (new_any n A m c l w h hm h1.1.1 h1.1.2 h1.2).mono ?_
    rintro e w' ⟨A', k, c', rfl, hs, hb, -⟩
    refine ⟨A', k, c', ?_, ?_, hb⟩
    · unfold nN nR; rw [if_pos hok, if_pos hok]
    · unfold nE; rw [if_pos hok, ← cp_puts]; exact hs
  | false =>
    have hbad : n < 0 ∨ 32 < n ∨ ∃ x ∈ l, withinE x n = false := by
      by_cases h1 : n < 0
      · exact .inl h1
      by_cases h2 : 32 < n
      · exact .inr (.inl h2)
      refine .inr (.inr ?_)
      have h3 : l.all (fun x => withinE x n) = false := by
        cases h4 : l.all (fun x => withinE x n) with
        | false => rfl
        | true =>
          exfalso
          unfold okG at hok
          rw [h4] at hok
          simp at hok
          omega
      rw [List.all_eq_false] at h3
      obtain ⟨x, hx, hx2⟩ := h3
      exact ⟨x, hx, by simpa using hx2⟩
    refine (new_bad n A m c l w h hbad).mono ?_
    rintro e w' ⟨rfl, hb⟩
    refine ⟨none, 0, 0, ?_, ?_, hb⟩
    · unfold nN nR; rw [if_neg (by rw [hok]; decide), if_neg (by rw [hok]; decide)]
    · unfold nE; rw [if_neg (by rw [hok]; decide)]; exact SliceIs.nil
theorem turnedAll_any (n : Int) (A : Option Addr) (m c : Nat) (l : List GEdge) (w : World) (h : SliceIs Enc.edge w w.heap.size A m c l) (hm : m ≤ 10000) :
    Calls Tryz.prog 17 #[graphV n A m c] w (fun e w' => ∃ A' k c', e = .returned (graphV (tN n l) A' k c') ∧ SliceIs Enc.edge w' w'.heap.size A' k c' (tE n l) ∧ Below w.heap.size w w') := by
  cases hr : rightG n l with
  | true =>
    refine (turned_any n A m c l w h hm hr).mono ?_
    rintro e w' ⟨A', k, c', rfl, hs, hb⟩
    refine ⟨A', k, c', ?_, ?_, hb⟩
    · unfold tN; rw [if_pos hr]
    · unfold tE; rw [if_pos hr, ← cp_puts]; exact hs
  | false =>
    refine (turned_bad n A m c l w h hr).mono ?_
    rintro e w' ⟨rfl, hb⟩
    refine ⟨none, 0, 0, ?_, ?_, hb⟩
    · unfold tN; rw [if_neg (by rw [hr]; decide)]
    · unfold tE; rw [if_neg (by rw [hr]; decide)]; exact SliceIs.nil
theorem all_snoc (n : Int) {l : List GEdge} {j : Nat} {x : GEdge} (hx : l[j]? = some x) : (l.take (j + 1)).all (fun x => withinE x n) = ((l.take j).all (fun x => withinE x n) && withinE x n) := by
  rw [List.take_add_one, hx, List.all_append]
  simp
theorem puts_take {l : List GEdge} {j : Nat} {x : GEdge} (hx : l[j]? = some x) : putsE (l.take (j + 1)) = putE (putsE (l.take j)) x := by
  rw [List.take_add_one, hx]
  exact putsE_snoc _ _
theorem isE_any (w : World) : Calls Tryz.prog 21 #[.iface 57 (.int .i64 1), .int .i64 1] w (RetBool true w) := by
  have hn := Lib.hid (num_any 1 w)
  simp only [errV, if_neg (show ¬ (1 : Int) = 0 by decide)] at hn
  go_enter Tryz.func21, Tryz.ntmps21
  go_wp2_with fail
  refine hn.out.mono ?_
  rintro e w1 ⟨rfl, hb1⟩
  go_wp2_with fail
  go_ret
  exact ⟨rfl, hb1⟩
theorem depsGraphs_walk (n : Int) (A : Option Addr) (m c : Nat) (l : List GEdge) (w : World) (h : SliceIs Enc.edge w w.heap.size A m c l) (hP : ParW w) :
    Calls Tryz.prog 4 #[.agg #[.int .i64 n, .slice A m c]] w (RetBool true w) := by
  have mixed : Tryz.prog.follows .mixedOrders = true := by kernel_rfl
  have hlen : l.length = m := h.1
  have hb1 : Below w.heap.size w (w.alloc (.cells #[.int .i64 n, .slice A m c] 31)) := belowA (Below.refl _ _) _
  have r1 : (w.alloc (.cells #[.int .i64 n, .slice A m c] 31)).heap[w.heap.size]? = some (.cells #[.int .i64 n, .slice A m c] 31 (0, 0)) := heapNew rfl
  have HA := Lib.hid (fun (W : World) (hb : Below w.heap.size w W) => alive10_any W (hP.on hb))
  have HSl0 : Hid (∀ W, Below w.heap.size w W → SliceIs Enc.edge W W.heap.size A m c l) := fun W hb => h.keep hb
  clear h hP
  go_enter Tryz.func4, Tryz.ntmps4
  go_wp2_with fail
  generalize w.alloc (.cells #[.int .i64 n, .slice A m c] 31) = w1 at *
  refine (HA.out w1 hb1).mono ?_
  rintro e w2 ⟨rfl, hb2⟩
  replace r1 := (hb2.block _ (Array.getElem?_eq_some_iff.1 r1).1).trans r1
  replace hb1 := below_next hb1 hb2
  obtain ⟨f0, f1⟩ := facts2 r1
  have hg12 := (Array.getElem?_eq_some_iff.1 r1).1
  have HB1 := Lib.hid hb1
  clear hb2 HA
  by_cases hbig : 100 < m
  · have i1 : (100 : Int) < (m : Int) := by omega
    clear r1 hb1
    go_wp2_with fail
    go_ret
    exact ⟨rfl, HB1.out⟩
  have i1 : ¬ (100 : Int) < (m : Int) := by omega
  have HD := Lib.hid (document_any n A m c l w2 (HSl0.out w2 hb1) (by omega))
  have hm100 : m ≤ 100 := by omega
  clear hb1 hbig
  go_wp2_with fail
  clear i1
  refine HD.out.mono ?_
  rintro e w3 ⟨B, cB, rfl, hsB, hb3⟩
  rw [hlen] at hsB ⊢
  clear HD f0 f1
  have hr3 : (w3.alloc (.cells #[.int .i64 n, .slice B m cB] 35)).heap[w3.heap.size]? = some (.cells #[.int .i64 n, .slice B m cB] 35 (0, 0)) := heapNew rfl
  have hB3 : Below w2.heap.size w2 (w3.alloc (.cells #[.int .i64 n, .slice B m cB] 35)) := hb3.alloc hb3.size _
  replace r1 := (hB3.block _ (Array.getElem?_eq_some_iff.1 r1).1).trans r1
  have HB3 := Lib.hid (below_next HB1.out hB3)
  have HsB : Hid (SliceIs Enc.edge (w3.alloc (.cells #[.int .i64 n, .slice B m cB] 35)) (w3.alloc (.cells #[.int .i64 n, .slice B m cB] 35)).heap.size B m cB l) := hsB.keep (belowA (Below.refl _ _) _)
  obtain ⟨f0, f1⟩ := facts2 r1
  have hg13 : w.heap.size < w3.heap.size := Nat.lt_of_lt_of_le hg12 hb3.size
  clear hsB hb3 hB3 HB1
  have HN := Lib.hid (newAll_any n A m c l _ (HSl0.out _ HB3.out) (by omega))
  go_wp2_with fail
  generalize w3.alloc (.cells #[.int .i64 n, .slice B m cB] 35) = w3' at *
  have hg3l := (Array.getElem?_eq_some_iff.1 hr3).1
  generalize w3.heap.size = g3 at *
  refine HN.out.mono ?_
  rintro e w4 ⟨A4, k4, c4, rfl, hs4, hb4⟩
  have r1' := (hb4.block _ (Array.getElem?_eq_some_iff.1 r1).1).trans r1
  have r3' := (hb4.block _ hg3l).trans hr3
  have HB4 := Lib.hid (below_next HB3.out hb4)
  have hg34 : g3 < w4.heap.size := Nat.lt_of_lt_of_le hg3l hb4.size
  have HS4 := Lib.hid hs4
  have HsB4 : Hid (SliceIs Enc.edge w4 w4.heap.size B m cB l) := HsB.out.keep hb4
  have R1 := Lib.hid r1'
  have R3 := Lib.hid r3'
  obtain ⟨nv, Hnv⟩ : ∃ nv, Hid (nN n l = nv) := ⟨_, rfl⟩
  obtain ⟨er, Her⟩ : ∃ er, Hid (nR n l = er) := ⟨_, rfl⟩
  rw [Hnv.out, Her.out]
  have f3 : (w4.alloc (.cells #[.int .i64 nv, .slice A4 k4 c4] 31)).cell? ⟨w.heap.size, 0, none⟩ = some (.int .i64 n) := cellA ((cell_of_row _ _ 0 _ _ _ r1').trans rfl)
  clear hs4 hb4 HN HB3 HsB r1 hr3 f0 f1 r1' r3' hg3l
  go_upto_region 8 with fail
  clear f3
  have q4 : ((w4.alloc (.cells #[.int .i64 nv, .slice A4 k4 c4] 31)).alloc (.cells #[.int .i64 n, .slice none 0 0] 35)).heap[w4.heap.size]? = some (.cells #[.int .i64 nv, .slice A4 k4 c4] 31 (0, 0)) := heapOld (heapNew rfl)
  have q6 : ((w4.alloc (.cells #[.int .i64 nv, .slice A4 k4 c4] 31)).alloc (.cells #[.int .i64 n, .slice none 0 0] 35)).heap[w4.heap.size + 1]? = some (.cells #[.int .i64 n, .slice none 0 0] 35 (0, 0)) := heapNew (by simp)
  have hbV : Below w4.heap.size w4 ((w4.alloc (.cells #[.int .i64 nv, .slice A4 k4 c4] 31)).alloc (.cells #[.int .i64 n, .slice none 0 0] 35)) := belowA (belowA (Below.refl _ _) _) _
  generalize (w4.alloc (.cells #[.int .i64 nv, .slice A4 k4 c4] 31)).alloc (.cells #[.int .i64 n, .slice none 0 0] 35) = V at *
  have HC : Hid (∀ W, Below w4.heap.size w4 W → (W.cell? ⟨w.heap.size, 0, none⟩ = some (.int .i64 n) ∧ W.cell? ⟨w.heap.size, 1, none⟩ = some (.slice A m c)) ∧ (W.cell? ⟨g3, 0, none⟩ = some (.int .i64 n) ∧ W.cell? ⟨g3, 1, none⟩ = some (.slice B m cB))) := fun W hW =>
    ⟨facts2 ((hW.block _ (Array.getElem?_eq_some_iff.1 R1.out).1).trans R1.out), facts2 ((hW.block _ (Array.getElem?_eq_some_iff.1 R3.out).1).trans R3.out)⟩
  obtain ⟨⟨f0, f1⟩, f2, f3⟩ := HC.out V hbV
  have Q4 := Lib.hid q4
  have Q6 := Lib.hid q6
  have HbV := Lib.hid hbV
  have hV6 : w4.heap.size + 1 < V.heap.size := (Array.getElem?_eq_some_iff.1 q6).1
  clear q4 q6 hbV R1 R3
  obtain ⟨B0, HB0⟩ : ∃ B0, Hid (B0 = (decide (0 ≤ n) && decide (n ≤ 32))) := ⟨_, rfl⟩
  go_cut [7] (fun v W => v = .bool B0 ∧ W = V)
  case first =>
    by_cases h0 : 0 ≤ n
    · by_cases h1 : n ≤ 32
      · have e : B0 = true := by rw [HB0.out]; simp [h0, h1]
        have He := Lib.hid e
        clear e
        go_wp2_with fail
        go_meet
        exact ⟨by rw [He.out], rfl⟩
      · have e : B0 = false := by rw [HB0.out]; simp [h1]
        have He := Lib.hid e
        clear e
        go_wp2_with fail
        go_meet
        exact ⟨by rw [He.out], rfl⟩
    · have e : B0 = false := by rw [HB0.out]; simp [h0]
      have He := Lib.hid e
      clear e
      go_wp2_with fail
      go_meet
      exact ⟨by rw [He.out], rfl⟩
  case rest =>
  obtain ⟨rfl, rfl⟩ := hcut
  obtain ⟨vz, hvz⟩ : ∃ vz, Hid (vz = wc.heap.size) := ⟨_, rfl⟩
  have hvz1 : w4.heap.size + 1 < vz := by rw [hvz.out]; exact hV6
  have hvz2 : vz ≤ wc.heap.size := by rw [hvz.out]; exact Nat.le_refl _
  go_wp2_with fail
  clear f0 f1 f2 f3
  go_loopw [7, 9, 41] (fun t7 _ i wr => ∃ (j : Nat) (Ao : Option Addr) (fs co : Nat), j ≤ m ∧ i = .int .i64 (j : Int) ∧ t7 = .bool (B0 && (l.take j).all (fun x => withinE x n)) ∧ fs ≤ j ∧ Hid (wr.heap[w4.heap.size]? = some (.cells #[.int .i64 nv, .slice A4 k4 c4] 31 (0, 0))) ∧ Hid (wr.heap[w4.heap.size + 1]? = some (.cells #[.int .i64 n, .slice Ao fs co] 35 (0, 0))) ∧ Hid (SliceIs Enc.edge wr wr.heap.size Ao fs co (putsE (l.take j))) ∧ Hid (∀ b' ∈ blkOf Ao, vz ≤ b') ∧ Hid (Below w4.heap.size w4 wr) ∧ vz ≤ wr.heap.size) (fun _ _ i _ => m - (intOf i).toNat)
  case atStart => exact ⟨0, none, 0, 0, by omega, rfl, by simp, by omega, Q4, Q6, SliceIs.nil, (fun b' hb' => by cases hb'), HbV, hvz2⟩
  case round =>
    clear Q4 Q6 HbV hvz2
    obtain ⟨j, Ao, fs, co, hj, rfl, rfl, hfs, HR4, HR6, HSl, HAo, HB, hz⟩ := hrel
    have i0 : (0 : Int) ≤ (j : Int) := by omega
    obtain ⟨⟨f0, f1⟩, f2, f3⟩ := HC.out wr HB.out
    by_cases hlt : j < m
    · have i1 : (j : Int) < (m : Int) := by omega
      obtain ⟨b, o, x, rfl, -, hx, x0, x1, x2, hfx⟩ := (HsB4.out.keep HB.out).edge_at hlt
      have HT := Lib.hid (puts_take hx.out)
      have HAl := Lib.hid (all_snoc n hx.out)
      have hbX : Below wr.heap.size wr (wr.alloc (.cells #[.int .i64 x.a, .int .i64 x.b, .bool x.n] 49)) := belowA (Below.refl _ _) _
      have hrX : (wr.alloc (.cells #[.int .i64 x.a, .int .i64 x.b, .bool x.n] 49)).heap[wr.heap.size]? = some (.cells #[.int .i64 x.a, .int .i64 x.b, .bool x.n] 49 (0, 0)) := heapNew rfl
      clear hx f1 f2 f3
      go_upto_region 12 with fail
      clear x0 x1 x2
      generalize wr.alloc (.cells #[.int .i64 x.a, .int .i64 x.b, .bool x.n] 49) = X at *
      have hf0 := below_cell hbX f0
      have HRX := Lib.hid hrX
      have HBX := Lib.hid hbX
      obtain ⟨e0, e1, e2⟩ := facts3 hrX
      clear f0 hbX hrX
      obtain ⟨tb, Htb⟩ : ∃ tb, Hid (tb = (B0 && (l.take j).all (fun x => withinE x n))) := ⟨_, rfl⟩
      rw [← Htb.out]
      go_cut [7] (fun v W => v = .bool (tb && withinE x n) ∧ Hid (Below X.heap.size X W))
      case first =>
        cases tb with
        | true =>
          have Hw := Lib.hid (refWithin_any x n X)
          go_wp2_with fail
          refine Hw.out.mono ?_
          rintro e w5 ⟨rfl, hb5⟩
          have Hb5 := Lib.hid hb5
          clear hb5
          go_wp2_with fail
          go_meet
          exact ⟨by simp, Hb5⟩
        | false =>
          go_wp2_with fail
          go_meet
          exact ⟨by simp, Below.refl _ _⟩
      case rest =>
      obtain ⟨rfl, HBc⟩ := hcut
      have hg9 := (Array.getElem?_eq_some_iff.1 HRX.out).1
      have hzc := HBc.out.size
      have HBY : Hid (Below w4.heap.size w4 wc) := HB.out.trans ((HBX.out.trans (HBc.out.mono HBX.out.size)).mono (by omega))
      have hblk : ∀ k, k < wr.heap.size → wc.heap[k]? = wr.heap[k]? := fun k hk => (HBc.out.block k (Nat.lt_trans hk hg9)).trans (HBX.out.block k hk)
      have hr4 := (hblk _ (by omega)).trans HR4.out
      have hr6 := (hblk _ (by omega)).trans HR6.out
      have hr9 := (HBc.out.block _ hg9).trans HRX.out
      have HPut := Lib.hid (refPutE_any Ao fs co _ x wc ((HSl.out.keep HBX.out).keep HBc.out) (by omega) hfx)
      have hzc2 : wr.heap.size < wc.heap.size := by omega
      have d1 : wc.cell? ⟨w4.heap.size + 1, 1, none⟩ = some (.slice Ao fs co) := (cell_of_row _ _ 1 _ _ _ hr6).trans rfl
      obtain ⟨e0, e1, e2⟩ := facts3 hr9
      have Hr4 := Lib.hid hr4
      have Hr6 := Lib.hid hr6
      clear hblk hr4 hr6 hr9 HBc HBX HRX hf0
      go_wp2_with fail
      refine HPut.out.mono ?_
      rintro e w6 ⟨A2, m2, c2, rfl, hs, hb6, ha⟩
      have hr4 := (hb6.block _ (Array.getElem?_eq_some_iff.1 Hr4.out).1).trans Hr4.out
      have hr6 := (hb6.block _ (Array.getElem?_eq_some_iff.1 Hr6.out).1).trans Hr6.out
      have ha2 : ∀ b' ∈ blkOf A2, vz ≤ b' := fun b' hb' => by
        rcases ha b' hb' with h | h
        · exact HAo.out b' h
        · omega
      have hne : ∀ b' ∈ blkOf A2, b' ≠ w4.heap.size + 1 := fun b' hb' => by have := ha2 b' hb'; omega
      have hm2 : m2 ≤ j + 1 := by
        have e3 := hs.1
        have := putE_len (putsE (l.take j)) x
        have := (HSl.out).1
        omega
      have d2 : w6.cell? ⟨w4.heap.size + 1, 1, none⟩ = some (.slice Ao fs co) := (cell_of_row _ _ 1 _ _ _ hr6).trans rfl
      have f4 : w6.frozen? ⟨w4.heap.size + 1, 1, none⟩ = false := frozen_of_row _ _ _ _ _ hr6
      have HSl' : Hid (SliceIs Enc.edge (w6.setCell ⟨w4.heap.size + 1, 1, none⟩ (.slice A2 m2 c2)) (w6.setCell ⟨w4.heap.size + 1, 1, none⟩ (.slice A2 m2 c2)).heap.size A2 m2 c2 (putsE (l.take (j + 1)))) := by
        have h1 := hs.set_other (o := 1) (val := .slice A2 m2 c2) hne
        rw [← HT.out] at h1
        show SliceIs _ _ _ _ _ _ _
        simpa using h1
      have HR6' : Hid ((w6.setCell ⟨w4.heap.size + 1, 1, none⟩ (.slice A2 m2 c2)).heap[w4.heap.size + 1]? = some (.cells #[.int .i64 n, .slice A2 m2 c2] 35 (0, 0))) := by
        show _ = _
        rw [set_cell8 hr6]; rfl
      have HR4' : Hid ((w6.setCell ⟨w4.heap.size + 1, 1, none⟩ (.slice A2 m2 c2)).heap[w4.heap.size]? = some (.cells #[.int .i64 nv, .slice A4 k4 c4] 31 (0, 0))) := (World.heap_setCells_other' (show w4.heap.size ≠ w4.heap.size + 1 by omega)).trans hr4
      have HB' : Hid (Below w4.heap.size w4 (w6.setCell ⟨w4.heap.size + 1, 1, none⟩ (.slice A2 m2 c2))) := (HBY.out.trans (hb6.mono (by omega))).setCell (show w4.heap.size ≤ w4.heap.size + 1 by omega) _
      have HA' : Hid (∀ b' ∈ blkOf A2, vz ≤ b') := ha2
      have hz' : vz ≤ (w6.setCell ⟨w4.heap.size + 1, 1, none⟩ (.slice A2 m2 c2)).heap.size := by have := hb6.size; simp; omega
      have HAl2 : Hid ((tb && withinE x n) = (B0 && (l.take (j + 1)).all (fun x => withinE x n))) := by show _ = _; rw [HAl.out, Htb.out, Bool.and_assoc]
      clear hs hb6 ha hr4 hr6 ha2 hne HPut d1 e0 e1 e2 HSl HAo HBY HB HR4 HR6 Hr4 Hr6 HT HAl Htb
      go_wp2_with fail
      generalize w6.setCell ⟨w4.heap.size + 1, 1, none⟩ (.slice A2 m2 c2) = W9 at *
      clear d2 f4
      go_roundw
      case rel => exact ⟨j + 1, A2, m2, c2, by omega, by go_num, by rw [HAl2.out], by omega, HR4', HR6', HSl', HA', HB', hz'⟩
      case measure => simp [intOf]; omega
    · have i1 : ¬ (j : Int) < (m : Int) := by omega
      obtain rfl : j = m := by omega
      have hBok : (B0 && (l.take j).all (fun x => withinE x n)) = okG n l := by
        rw [List.take_of_length_le (by omega), HB0.out]; rfl
      rw [hBok]
      have HBw0 : Hid (Below w.heap.size w wr) := below_next HB4.out HB.out
      have HTu := Lib.hid (turnedAll_any n A j c l wr (HSl0.out wr HBw0.out) (by omega))
      clear hBok f2 f3
      go_wp2_with fail
      refine HTu.out.mono ?_
      rintro e w5 ⟨At, kt, ct, rfl, hst, hb5⟩
      have hbX : Below wr.heap.size wr (w5.alloc (.cells #[.int .i64 (tN n l), .slice At kt ct] 31)) := hb5.alloc hb5.size _
      have hr10 : (w5.alloc (.cells #[.int .i64 (tN n l), .slice At kt ct] 31)).heap[w5.heap.size]? = some (.cells #[.int .i64 (tN n l), .slice At kt ct] 31 (0, 0)) := heapNew rfl
      have HsX : Hid (SliceIs Enc.edge (w5.alloc (.cells #[.int .i64 (tN n l), .slice At kt ct] 31)) (w5.alloc (.cells #[.int .i64 (tN n l), .slice At kt ct] 31)).heap.size At kt ct (tE n l)) := hst.keep (belowA (Below.refl _ _) _)
      clear hb5 hst HTu f0 f1
      obtain ⟨Wt, hWt⟩ : ∃ Wt, Wt = w5.alloc (.cells #[.int .i64 (tN n l), .slice At kt ct] 31) := ⟨_, rfl⟩
      have HWe := Lib.hid hWt.symm
      rw [← hWt] at hbX hr10 HsX
      clear hWt
      obtain ⟨⟨y1a, y1b⟩, y3a, y3b⟩ := HC.out Wt (below_next HB.out hbX)
      obtain ⟨y10a, y10b⟩ := facts2 hr10
      have hr4 := (hbX.block _ (Array.getElem?_eq_some_iff.1 HR4.out).1).trans HR4.out
      have hr6 := (hbX.block _ (Array.getElem?_eq_some_iff.1 HR6.out).1).trans HR6.out
      obtain ⟨y4a, y4b⟩ := facts2 hr4
      obtain ⟨y6a, y6b⟩ := facts2 hr6
      have HBw : Hid (Below w.heap.size w Wt) := below_next HBw0.out hbX
      have HSA : Hid (SliceIs Enc.edge Wt Wt.heap.size A j c l) := HSl0.out Wt HBw.out
      have HSB : Hid (SliceIs Enc.edge Wt Wt.heap.size B j cB l) := HsB4.out.keep (below_next HB.out hbX)
      have HS4X : Hid (SliceIs Enc.edge Wt Wt.heap.size A4 k4 c4 (nE n l)) := HS4.out.keep (below_next HB.out hbX)
      have HS6X : Hid (SliceIs Enc.edge Wt Wt.heap.size Ao fs co (putsE l)) := by
        have := HSl.out.keep hbX
        rwa [List.take_of_length_le (by omega)] at this
      have HFt : Hid (okG n l = true → ∀ W, Below Wt.heap.size Wt W → nv = n ∧ er = .nilIface ∧ Calls Tryz.prog 9 #[graphV n A4 k4 c4, .agg #[.int .i64 n, .slice Ao fs co]] W (RetBool true W)) := fun hk W hW => by
        refine ⟨?_, ?_, ?_⟩
        · rw [← Hnv.out]; unfold nN; rw [if_pos hk]
        · rw [← Her.out]; unfold nR; rw [if_pos hk]
        · have h4 := HS4X.out.keep hW
          unfold nE at h4
          rw [if_pos hk] at h4
          exact sameG_any n A4 Ao k4 fs c4 co (putsE l) W h4 (HS6X.out.keep hW)
      have HFf : Hid (okG n l = false → nv = 0 ∧ er = .iface 57 (.int .i64 1) ∧ ∀ W, Below Wt.heap.size Wt W → Calls Tryz.prog 9 #[graphV 0 A4 k4 c4, .agg #[.int .i64 0, .slice none 0 0]] W (RetBool true W)) := fun hk => by
        refine ⟨?_, ?_, fun W hW => ?_⟩
        · rw [← Hnv.out]; unfold nN; rw [if_neg (by rw [hk]; decide)]
        · rw [← Her.out]; unfold nR; rw [if_neg (by rw [hk]; decide)]
        · have h4 := HS4X.out.keep hW
          unfold nE at h4
          rw [if_neg (by rw [hk]; decide)] at h4
          exact sameG_any 0 A4 none k4 0 c4 0 [] W h4 SliceIs.nil
      have HTd : Hid (∀ W, Below Wt.heap.size Wt W → Calls Tryz.prog 20 #[.agg #[.int .i64 n, .slice B j cB]] W (RTdP n l W)) := fun W hW => refTurned_any n B j cB l W (HSB.out.keep hW) (by omega)
      have HRr0 : Hid (∀ W, Below Wt.heap.size Wt W → Calls Tryz.prog 18 #[.agg #[.int .i64 n, .slice B j cB]] W (RetBool (rightG n l) W)) := fun W hW => refRightG_any n B j cB l W (HSB.out.keep hW)
      have HRg0 : Hid (∀ W, Below Wt.heap.size Wt W → Calls Tryz.prog 19 #[graphV n A j c] W (RetBool (rightG n l) W)) := fun W hW => rightG_any n A j c l W (HSA.out.keep hW)

      clear hbX hr10 hr4 hr6 HR4 HR6 HSl HAo HB HC HB4 HS4 HsB4 HSl0 HBw0 HB0
      cases hrg : rightG n l with
      | true =>
        have htN : tN n l = n := by unfold tN; rw [if_pos hrg]
        have HSm : Hid (∀ W A2 m2 c2, Below Wt.heap.size Wt W → SliceIs Enc.edge W W.heap.size A2 m2 c2 (putsE (turnL l)) → Calls Tryz.prog 9 #[graphV (tN n l) At kt ct, .agg #[.int .i64 n, .slice A2 m2 c2]] W (RetBool true W)) := fun W A2 m2 c2 hW h2 => by
          have h4 := HsX.out.keep hW
          unfold tE at h4
          rw [if_pos hrg] at h4
          rw [htN]
          exact sameG_any n At A2 kt m2 ct c2 (putsE (turnL l)) W h4 h2
        have HRr : Hid (∀ W, Below Wt.heap.size Wt W → Calls Tryz.prog 18 #[.agg #[.int .i64 n, .slice B j cB]] W (RetBool true W)) := by rw [← hrg]; exact HRr0
        have HRg : Hid (∀ W, Below Wt.heap.size Wt W → Calls Tryz.prog 19 #[graphV n A j c] W (RetBool true W)) := by rw [← hrg]; exact HRg0
        clear HRr0 HRg0 hrg htN
        go_wp2_with (rw [HWe.out])
        refine drawnH mixed 26 103 [60, 61, 62, 63, 64, 65, 66, 67, 68, 69, 70, 71, 72, 73, 74, 75, 76, 77, 78, 79, 80, 81, 82, 83, 84, 85] [some (.agg #[.int .i64 n, .slice B j cB]), some (.bool true), some ((graphV n A j c)), some (.bool true), some (.bool false), some (.bool false), some (.agg #[.int .i64 n, .slice B j cB]), some (.bool true), some (.bool true), some ((graphV (tN n l) At kt ct)), some (.agg #[.int .i64 n, .slice B j cB]), none, some (.bool true), some (.bool false), some (.bool false), some (.bool false), some (.bool false), some (.agg #[.int .i64 n, .slice B j cB]), some (.bool true), some (.bool false), some (.bool false), some (undef), some (undef), some (undef), some (undef), some (.bool false)] (fun i v W => ∃ A2 m2 c2, v = .agg #[.int .i64 n, .slice A2 m2 c2] ∧ SliceIs Enc.edge W W.heap.size A2 m2 c2 (putsE (turnL l))) rfl (by kernel_rfl) (by kernel_rfl) rfl (fun i v W W' h hb => by obtain ⟨A2, m2, c2, h1, h2⟩ := h; exact ⟨A2, m2, c2, h1, h2.keep hb⟩) ?_ ?_
        · intro i o2 a2 W hi ho hd hold hG hw
          have hr1 : a2.tmps[1]? = some (.pointer (some ⟨w.heap.size, 0, none⟩)) := hold 1 (by kernel_rfl)
          have hr3 : a2.tmps[3]? = some (.pointer (some ⟨g3, 0, none⟩)) := hold 3 (by kernel_rfl)
          have hr10 : a2.tmps[10]? = some (.pointer (some ⟨w5.heap.size, 0, none⟩)) := hold 10 (by kernel_rfl)
          clear hold
          match i, hi, ho with
          | 0, _, ho =>
            injection ho with ho; subst ho
            exact .inl ⟨rfl, op_val _ (by simp [execOp, Act.eval, hr3, go_sem, below_cell hG y3a, below_cell hG y3b]) ⟨_, rfl, Below.refl _ _, rfl⟩⟩
          | 1, _, ho =>
            obtain ⟨v0, h0, e0⟩ := hw 0 60 (by kernel_rfl)
            obtain rfl : v0 = .agg #[.int .i64 n, .slice B j cB] := e0
            injection ho with ho; subst ho
            refine .inl ⟨rfl, op_call 18 _ rfl rfl #[.agg #[.int .i64 n, .slice B j cB]] (by simp [Act.eval, h0]) _ Tryz.func18 (by kernel_rfl) (by kernel_rfl) ((HRr.out W hG).mono ?_)⟩
            rintro r w' ⟨rfl, hb⟩
            exact ⟨_, rfl, _, rfl, hb, rfl⟩
          | 2, _, ho =>
            injection ho with ho; subst ho
            exact .inl ⟨rfl, op_val _ (by simp [execOp, Act.eval, hr1, go_sem, below_cell hG y1a, below_cell hG y1b]) ⟨_, rfl, Below.refl _ _, rfl⟩⟩
          | 3, _, ho =>
            obtain ⟨v2, h2, e2⟩ := hw 2 62 (by kernel_rfl)
            obtain rfl : v2 = (graphV n A j c) := e2
            injection ho with ho; subst ho
            refine .inl ⟨rfl, op_call 19 _ rfl rfl #[(graphV n A j c)] (by simp [Act.eval, h2]) _ Tryz.func19 (by kernel_rfl) (by kernel_rfl) ((HRg.out W hG).mono ?_)⟩
            rintro r w' ⟨rfl, hb⟩
            exact ⟨_, rfl, _, rfl, hb, rfl⟩
          | 4, _, ho =>
            obtain ⟨v1, h1, e1⟩ := hw 1 61 (by kernel_rfl)
            obtain rfl : v1 = .bool true := e1
            obtain ⟨v3, h3, e3⟩ := hw 3 63 (by kernel_rfl)
            obtain rfl : v3 = .bool true := e3
            injection ho with ho; subst ho
            exact .inl ⟨rfl, op_val _ (by simp [execOp, Act.eval, h1, h3, go_sem]) ⟨_, rfl, Below.refl _ _, rfl⟩⟩
          | 5, _, ho =>
            obtain ⟨v4, h4, e4⟩ := hw 4 64 (by kernel_rfl)
            obtain rfl : v4 = .bool false := e4
            injection ho with ho; subst ho
            exact .inl ⟨rfl, op_val _ (by simp [execOp, Act.eval, h4, go_sem]) ⟨_, rfl, Below.refl _ _, rfl⟩⟩
          | 6, _, ho =>
            obtain ⟨v5, h5, e5⟩ := hw 5 65 (by kernel_rfl)
            obtain rfl : v5 = .bool false := e5
            injection ho with ho; subst ho
            exact .inl ⟨((wanted_of rfl (by kernel_rfl) h5).trans rfl), op_val _ (by simp [execOp, Act.eval, hr3, go_sem, below_cell hG y3a, below_cell hG y3b]) ⟨_, rfl, Below.refl _ _, rfl⟩⟩
          | 7, _, ho =>
            obtain ⟨v6, h6, e6⟩ := hw 6 66 (by kernel_rfl)
            obtain rfl : v6 = .agg #[.int .i64 n, .slice B j cB] := e6
            obtain ⟨v5, h5, e5⟩ := hw 5 65 (by kernel_rfl)
            obtain rfl : v5 = .bool false := e5
            injection ho with ho; subst ho
            refine .inl ⟨((wanted_of rfl (by kernel_rfl) h5).trans rfl), op_call 18 _ rfl rfl #[.agg #[.int .i64 n, .slice B j cB]] (by simp [Act.eval, h6]) _ Tryz.func18 (by kernel_rfl) (by kernel_rfl) ((HRr.out W hG).mono ?_)⟩
            rintro r w' ⟨rfl, hb⟩
            exact ⟨_, rfl, _, rfl, hb, rfl⟩
          | 8, _, ho =>
            obtain ⟨v7, h7, e7⟩ := hw 7 67 (by kernel_rfl)
            obtain rfl : v7 = .bool true := e7
            obtain ⟨v5, h5, e5⟩ := hw 5 65 (by kernel_rfl)
            obtain rfl : v5 = .bool false := e5
            injection ho with ho; subst ho
            exact .inl ⟨((wanted_of rfl (by kernel_rfl) h5).trans rfl), op_val _ (by simp [execOp, Act.eval, h7, go_sem]) ⟨_, rfl, Below.refl _ _, rfl⟩⟩
          | 9, _, ho =>
            obtain ⟨v8, h8, e8⟩ := hw 8 68 (by kernel_rfl)
            obtain rfl : v8 = .bool true := e8
            injection ho with ho; subst ho
            exact .inl ⟨((wanted_of rfl (by kernel_rfl) h8).trans rfl), op_val _ (by simp [execOp, Act.eval, hr10, go_sem, below_cell hG y10a, below_cell hG y10b]) ⟨_, rfl, Below.refl _ _, rfl⟩⟩
          | 10, _, ho =>
            obtain ⟨v8, h8, e8⟩ := hw 8 68 (by kernel_rfl)
            obtain rfl : v8 = .bool true := e8
            injection ho with ho; subst ho
            exact .inl ⟨((wanted_of rfl (by kernel_rfl) h8).trans rfl), op_val _ (by simp [execOp, Act.eval, hr3, go_sem, below_cell hG y3a, below_cell hG y3b]) ⟨_, rfl, Below.refl _ _, rfl⟩⟩
          | 11, _, ho =>
            obtain ⟨v10, h10, e10⟩ := hw 10 70 (by kernel_rfl)
            obtain rfl : v10 = .agg #[.int .i64 n, .slice B j cB] := e10
            obtain ⟨v8, h8, e8⟩ := hw 8 68 (by kernel_rfl)
            obtain rfl : v8 = .bool true := e8
            injection ho with ho; subst ho
            refine .inl ⟨((wanted_of rfl (by kernel_rfl) h8).trans rfl), op_call 20 _ rfl rfl #[.agg #[.int .i64 n, .slice B j cB]] (by simp [Act.eval, h10]) _ Tryz.func20 (by kernel_rfl) (by kernel_rfl) ((HTd.out W hG).mono ?_)⟩
            rintro r w' ⟨A2, m2, c2, rfl, hs, hb⟩
            exact ⟨_, rfl, _, rfl, hb, A2, m2, c2, rfl, hs⟩
          | 12, _, ho =>
            obtain ⟨v9, h9, e9⟩ := hw 9 69 (by kernel_rfl)
            obtain rfl : v9 = (graphV (tN n l) At kt ct) := e9
            obtain ⟨v11, h11, A2, m2, c2, rfl, hs2⟩ := hw 11 71 (by kernel_rfl)
            obtain ⟨v8, h8, e8⟩ := hw 8 68 (by kernel_rfl)
            obtain rfl : v8 = .bool true := e8
            injection ho with ho; subst ho
            refine .inl ⟨((wanted_of rfl (by kernel_rfl) h8).trans rfl), op_call 9 _ rfl rfl #[(graphV (tN n l) At kt ct), .agg #[.int .i64 n, .slice A2 m2 c2]] (by simp [Act.eval, h9, h11]) _ Tryz.func9 (by kernel_rfl) (by kernel_rfl) ((HSm.out W A2 m2 c2 hG hs2).mono ?_)⟩
            rintro r w' ⟨rfl, hb⟩
            exact ⟨_, rfl, _, rfl, hb, rfl⟩
          | 13, _, ho =>
            obtain ⟨v12, h12, e12⟩ := hw 12 72 (by kernel_rfl)
            obtain rfl : v12 = .bool true := e12
            obtain ⟨v8, h8, e8⟩ := hw 8 68 (by kernel_rfl)
            obtain rfl : v8 = .bool true := e8
            injection ho with ho; subst ho
            exact .inl ⟨((wanted_of rfl (by kernel_rfl) h8).trans rfl), op_val _ (by simp [execOp, Act.eval, h12, go_sem]) ⟨_, rfl, Below.refl _ _, rfl⟩⟩
          | 14, _, ho =>
            obtain ⟨v8, h8, e8⟩ := hw 8 68 (by kernel_rfl)
            obtain rfl : v8 = .bool true := e8
            obtain ⟨v13, h13, e13⟩ := hw 13 73 (by kernel_rfl)
            obtain rfl : v13 = .bool false := e13
            obtain ⟨v5, h5, e5⟩ := hw 5 65 (by kernel_rfl)
            obtain rfl : v5 = .bool false := e5
            injection ho with ho; subst ho
            exact .inl ⟨((wanted_of rfl (by kernel_rfl) h5).trans rfl), op_val _ (by simp [execOp, Act.eval, h8, h13, go_sem]) ⟨_, rfl, Below.refl _ _, rfl⟩⟩
          | 15, _, ho =>
            obtain ⟨v5, h5, e5⟩ := hw 5 65 (by kernel_rfl)
            obtain rfl : v5 = .bool false := e5
            obtain ⟨v14, h14, e14⟩ := hw 14 74 (by kernel_rfl)
            obtain rfl : v14 = .bool false := e14
            injection ho with ho; subst ho
            exact .inl ⟨rfl, op_val _ (by simp [execOp, Act.eval, h5, h14, go_sem]) ⟨_, rfl, Below.refl _ _, rfl⟩⟩
          | 16, _, ho =>
            obtain ⟨v15, h15, e15⟩ := hw 15 75 (by kernel_rfl)
            obtain rfl : v15 = .bool false := e15
            injection ho with ho; subst ho
            exact .inl ⟨rfl, op_val _ (by simp [execOp, Act.eval, h15, go_sem]) ⟨_, rfl, Below.refl _ _, rfl⟩⟩
          | 17, _, ho =>
            obtain ⟨v16, h16, e16⟩ := hw 16 76 (by kernel_rfl)
            obtain rfl : v16 = .bool false := e16
            injection ho with ho; subst ho
            exact .inl ⟨((wanted_of rfl (by kernel_rfl) h16).trans rfl), op_val _ (by simp [execOp, Act.eval, hr3, go_sem, below_cell hG y3a, below_cell hG y3b]) ⟨_, rfl, Below.refl _ _, rfl⟩⟩
          | 18, _, ho =>
            obtain ⟨v17, h17, e17⟩ := hw 17 77 (by kernel_rfl)
            obtain rfl : v17 = .agg #[.int .i64 n, .slice B j cB] := e17
            obtain ⟨v16, h16, e16⟩ := hw 16 76 (by kernel_rfl)
            obtain rfl : v16 = .bool false := e16
            injection ho with ho; subst ho
            refine .inl ⟨((wanted_of rfl (by kernel_rfl) h16).trans rfl), op_call 18 _ rfl rfl #[.agg #[.int .i64 n, .slice B j cB]] (by simp [Act.eval, h17]) _ Tryz.func18 (by kernel_rfl) (by kernel_rfl) ((HRr.out W hG).mono ?_)⟩
            rintro r w' ⟨rfl, hb⟩
            exact ⟨_, rfl, _, rfl, hb, rfl⟩
          | 19, _, ho =>
            obtain ⟨v18, h18, e18⟩ := hw 18 78 (by kernel_rfl)
            obtain rfl : v18 = .bool true := e18
            obtain ⟨v16, h16, e16⟩ := hw 16 76 (by kernel_rfl)
            obtain rfl : v16 = .bool false := e16
            injection ho with ho; subst ho
            exact .inl ⟨((wanted_of rfl (by kernel_rfl) h16).trans rfl), op_val _ (by simp [execOp, Act.eval, h18, go_sem]) ⟨_, rfl, Below.refl _ _, rfl⟩⟩
          | 20, _, ho =>
            obtain ⟨v19, h19, e19⟩ := hw 19 79 (by kernel_rfl)
            obtain rfl : v19 = .bool false := e19
            obtain ⟨v16, h16, e16⟩ := hw 16 76 (by kernel_rfl)
            obtain rfl : v16 = .bool false := e16
            injection ho with ho; subst ho
            exact .inl ⟨((wanted_of rfl (by kernel_rfl) h16).trans rfl), op_val _ (by simp [execOp, Act.eval, h19, go_sem]) ⟨_, rfl, Below.refl _ _, rfl⟩⟩
          | 21, _, ho =>
            obtain ⟨v20, h20, e20⟩ := hw 20 80 (by kernel_rfl)
            obtain rfl : v20 = .bool false := e20
            injection ho with ho; subst ho
            exact .inr ⟨((wanted_of rfl (by kernel_rfl) h20).trans rfl), Below.refl _ _, rfl⟩
          | 22, _, ho =>
            obtain ⟨v20, h20, e20⟩ := hw 20 80 (by kernel_rfl)
            obtain rfl : v20 = .bool false := e20
            injection ho with ho; subst ho
            exact .inr ⟨((wanted_of rfl (by kernel_rfl) h20).trans rfl), Below.refl _ _, rfl⟩
          | 23, _, ho =>
            obtain ⟨v20, h20, e20⟩ := hw 20 80 (by kernel_rfl)
            obtain rfl : v20 = .bool false := e20
            injection ho with ho; subst ho
            exact .inr ⟨((wanted_of rfl (by kernel_rfl) h20).trans rfl), Below.refl _ _, rfl⟩
          | 24, _, ho =>
            obtain ⟨v20, h20, e20⟩ := hw 20 80 (by kernel_rfl)
            obtain rfl : v20 = .bool false := e20
            injection ho with ho; subst ho
            exact .inr ⟨((wanted_of rfl (by kernel_rfl) h20).trans rfl), Below.refl _ _, rfl⟩
          | 25, _, ho =>
            obtain ⟨v20, h20, e20⟩ := hw 20 80 (by kernel_rfl)
            obtain rfl : v20 = .bool false := e20
            obtain ⟨v16, h16, e16⟩ := hw 16 76 (by kernel_rfl)
            obtain rfl : v16 = .bool false := e16
            injection ho with ho; subst ho
            exact .inl ⟨((wanted_of rfl (by kernel_rfl) h16).trans rfl), op_val _ (by simp [execOp, Act.eval, h20, go_sem]) ⟨_, rfl, Below.refl _ _, rfl⟩⟩
          | n_ + 26, hi, _ => omega
        · intro o2 u W ho hG hw
          have e76 : u 76 = .bool false := hw 16 76 (by decide) (by kernel_rfl)
          have e85 : u 85 = .bool false := hw 25 85 (by decide) (by kernel_rfl)
          have HbW := Lib.hid hG
          have hop : o2.op = .pick (.tmp 76) (.const (.bool true)) (.tmp 85) := by injection ho with ho; subst ho; rfl
          have hds : o2.dst = some 86 := by injection ho with ho; subst ho; rfl
          clear ho
          simp only [List.foldl_cons, List.foldl_nil, Act.put, List.setIfInBounds_toArray, List.set_cons_zero, List.set_cons_succ]
          rw [e76, e85]
          refine op_val (.bool false) (by simp [execOp, hop, Act.eval, go_sem]) ?_
          rw [hds]
          simp only [Act.put, List.setIfInBounds_toArray, List.set_cons_zero, List.set_cons_succ]
          clear hw hG e76 e85 hop hds
          have v4a := below_cell HbW.out y4a
          have v4b := below_cell HbW.out y4b
          have v6a := below_cell HbW.out y6a
          have v6b := below_cell HbW.out y6b
          clear y1a y1b y3a y3b y4a y4b y6a y6b y10a y10b
          cases hok : okG n l with
          | true =>
            obtain ⟨q1, q2, q3⟩ := HFt.out hok W HbW.out
            have Hq3 := Lib.hid q3
            rw [q1] at v4a
            rw [q2]
            clear q1 q2 q3 hok
            go_wp2_with fail
            refine Hq3.out.mono ?_
            rintro e w9 ⟨rfl, hb9⟩
            have HE := Lib.hid (HBw.out.trans ((HbW.out.trans (hb9.mono HbW.out.size)).mono HBw.out.size))
            clear hb9
            go_wp2_with fail
            go_ret
            exact ⟨rfl, HE.out⟩
          | false =>
            obtain ⟨q1, q2, q3⟩ := HFf.out hok
            have Hq3 := Lib.hid q3
            rw [q1] at v4a
            rw [q2]
            clear q1 q2 q3 hok
            go_wp2_with fail
            refine (isE_any W).mono ?_
            rintro e w9 ⟨rfl, hb9⟩
            have HE := Lib.hid (HbW.out.trans (hb9.mono HbW.out.size))
            have v4a := below_cell hb9 v4a
            have v4b := below_cell hb9 v4b
            clear hb9
            go_wp2_with fail
            refine (Hq3.out w9 HE.out).mono ?_
            rintro e w10 ⟨rfl, hb10⟩
            have HE2 := Lib.hid (HBw.out.trans ((HE.out.trans (hb10.mono HE.out.size)).mono HBw.out.size))
            clear hb10
            go_wp2_with fail
            go_ret
            exact ⟨rfl, HE2.out⟩
      | false =>
        have htN : tN n l = 0 := by unfold tN; rw [if_neg (by rw [hrg]; decide)]
        have HSm0 : Hid (∀ W, Below Wt.heap.size Wt W → Calls Tryz.prog 9 #[graphV (tN n l) At kt ct, .agg #[.int .i64 0, .slice none 0 0]] W (RetBool true W)) := fun W hW => by
          have h4 := HsX.out.keep hW
          unfold tE at h4
          rw [if_neg (by rw [hrg]; decide)] at h4
          rw [htN]
          exact sameG_any 0 At none kt 0 ct 0 [] W h4 SliceIs.nil
        have HRr : Hid (∀ W, Below Wt.heap.size Wt W → Calls Tryz.prog 18 #[.agg #[.int .i64 n, .slice B j cB]] W (RetBool false W)) := by rw [← hrg]; exact HRr0
        have HRg : Hid (∀ W, Below Wt.heap.size Wt W → Calls Tryz.prog 19 #[graphV n A j c] W (RetBool false W)) := by rw [← hrg]; exact HRg0
        clear HRr0 HRg0 hrg htN
        go_wp2_with (rw [HWe.out])
        refine drawnH mixed 26 103 [60, 61, 62, 63, 64, 65, 66, 67, 68, 69, 70, 71, 72, 73, 74, 75, 76, 77, 78, 79, 80, 81, 82, 83, 84, 85] [some (.agg #[.int .i64 n, .slice B j cB]), some (.bool false), some ((graphV n A j c)), some (.bool false), some (.bool false), some (.bool false), some (.agg #[.int .i64 n, .slice B j cB]), some (.bool false), some (.bool false), some (undef), some (undef), some (undef), some (undef), some (undef), some (.bool false), some (.bool false), some (.bool false), some (.agg #[.int .i64 n, .slice B j cB]), some (.bool false), some (.bool true), some (.bool true), some ((graphV (tN n l) At kt ct)), some (.agg #[.int .i64 0, .slice none 0 0]), some (.bool true), some (.bool false), some (.bool false)] (fun i v W => ∃ A2 m2 c2, v = .agg #[.int .i64 n, .slice A2 m2 c2] ∧ SliceIs Enc.edge W W.heap.size A2 m2 c2 (putsE (turnL l))) rfl (by kernel_rfl) (by kernel_rfl) rfl (fun i v W W' h hb => by obtain ⟨A2, m2, c2, h1, h2⟩ := h; exact ⟨A2, m2, c2, h1, h2.keep hb⟩) ?_ ?_
        · intro i o2 a2 W hi ho hd hold hG hw
          have hr1 : a2.tmps[1]? = some (.pointer (some ⟨w.heap.size, 0, none⟩)) := hold 1 (by kernel_rfl)
          have hr3 : a2.tmps[3]? = some (.pointer (some ⟨g3, 0, none⟩)) := hold 3 (by kernel_rfl)
          have hr10 : a2.tmps[10]? = some (.pointer (some ⟨w5.heap.size, 0, none⟩)) := hold 10 (by kernel_rfl)
          clear hold
          match i, hi, ho with
          | 0, _, ho =>
            injection ho with ho; subst ho
            exact .inl ⟨rfl, op_val _ (by simp [execOp, Act.eval, hr3, go_sem, below_cell hG y3a, below_cell hG y3b]) ⟨_, rfl, Below.refl _ _, rfl⟩⟩
          | 1, _, ho =>
            obtain ⟨v0, h0, e0⟩ := hw 0 60 (by kernel_rfl)
            obtain rfl : v0 = .agg #[.int .i64 n, .slice B j cB] := e0
            injection ho with ho; subst ho
            refine .inl ⟨rfl, op_call 18 _ rfl rfl #[.agg #[.int .i64 n, .slice B j cB]] (by simp [Act.eval, h0]) _ Tryz.func18 (by kernel_rfl) (by kernel_rfl) ((HRr.out W hG).mono ?_)⟩
            rintro r w' ⟨rfl, hb⟩
            exact ⟨_, rfl, _, rfl, hb, rfl⟩
          | 2, _, ho =>
            injection ho with ho; subst ho
            exact .inl ⟨rfl, op_val _ (by simp [execOp, Act.eval, hr1, go_sem, below_cell hG y1a, below_cell hG y1b]) ⟨_, rfl, Below.refl _ _, rfl⟩⟩
          | 3, _, ho =>
            obtain ⟨v2, h2, e2⟩ := hw 2 62 (by kernel_rfl)
            obtain rfl : v2 = (graphV n A j c) := e2
            injection ho with ho; subst ho
            refine .inl ⟨rfl, op_call 19 _ rfl rfl #[(graphV n A j c)] (by simp [Act.eval, h2]) _ Tryz.func19 (by kernel_rfl) (by kernel_rfl) ((HRg.out W hG).mono ?_)⟩
            rintro r w' ⟨rfl, hb⟩
            exact ⟨_, rfl, _, rfl, hb, rfl⟩
          | 4, _, ho =>
            obtain ⟨v1, h1, e1⟩ := hw 1 61 (by kernel_rfl)
            obtain rfl : v1 = .bool false := e1
            obtain ⟨v3, h3, e3⟩ := hw 3 63 (by kernel_rfl)
            obtain rfl : v3 = .bool false := e3
            injection ho with ho; subst ho
            exact .inl ⟨rfl, op_val _ (by simp [execOp, Act.eval, h1, h3, go_sem]) ⟨_, rfl, Below.refl _ _, rfl⟩⟩
          | 5, _, ho =>
            obtain ⟨v4, h4, e4⟩ := hw 4 64 (by kernel_rfl)
            obtain rfl : v4 = .bool false := e4
            injection ho with ho; subst ho
            exact .inl ⟨rfl, op_val _ (by simp [execOp, Act.eval, h4, go_sem]) ⟨_, rfl, Below.refl _ _, rfl⟩⟩
          | 6, _, ho =>
            obtain ⟨v5, h5, e5⟩ := hw 5 65 (by kernel_rfl)
            obtain rfl : v5 = .bool false := e5
            injection ho with ho; subst ho
            exact .inl ⟨((wanted_of rfl (by kernel_rfl) h5).trans rfl), op_val _ (by simp [execOp, Act.eval, hr3, go_sem, below_cell hG y3a, below_cell hG y3b]) ⟨_, rfl, Below.refl _ _, rfl⟩⟩
          | 7, _, ho =>
            obtain ⟨v6, h6, e6⟩ := hw 6 66 (by kernel_rfl)
            obtain rfl : v6 = .agg #[.int .i64 n, .slice B j cB] := e6
            obtain ⟨v5, h5, e5⟩ := hw 5 65 (by kernel_rfl)
            obtain rfl : v5 = .bool false := e5
            injection ho with ho; subst ho
            refine .inl ⟨((wanted_of rfl (by kernel_rfl) h5).trans rfl), op_call 18 _ rfl rfl #[.agg #[.int .i64 n, .slice B j cB]] (by simp [Act.eval, h6]) _ Tryz.func18 (by kernel_rfl) (by kernel_rfl) ((HRr.out W hG).mono ?_)⟩
            rintro r w' ⟨rfl, hb⟩
            exact ⟨_, rfl, _, rfl, hb, rfl⟩
          | 8, _, ho =>
            obtain ⟨v7, h7, e7⟩ := hw 7 67 (by kernel_rfl)
            obtain rfl : v7 = .bool false := e7
            obtain ⟨v5, h5, e5⟩ := hw 5 65 (by kernel_rfl)
            obtain rfl : v5 = .bool false := e5
            injection ho with ho; subst ho
            exact .inl ⟨((wanted_of rfl (by kernel_rfl) h5).trans rfl), op_val _ (by simp [execOp, Act.eval, h7, go_sem]) ⟨_, rfl, Below.refl _ _, rfl⟩⟩
          | 9, _, ho =>
            obtain ⟨v8, h8, e8⟩ := hw 8 68 (by kernel_rfl)
            obtain rfl : v8 = .bool false := e8
            injection ho with ho; subst ho
            exact .inr ⟨((wanted_of rfl (by kernel_rfl) h8).trans rfl), Below.refl _ _, rfl⟩
          | 10, _, ho =>
            obtain ⟨v8, h8, e8⟩ := hw 8 68 (by kernel_rfl)
            obtain rfl : v8 = .bool false := e8
            injection ho with ho; subst ho
            exact .inr ⟨((wanted_of rfl (by kernel_rfl) h8).trans rfl), Below.refl _ _, rfl⟩
          | 11, _, ho =>
            obtain ⟨v8, h8, e8⟩ := hw 8 68 (by kernel_rfl)
            obtain rfl : v8 = .bool false := e8
            injection ho with ho; subst ho
            exact .inr ⟨((wanted_of rfl (by kernel_rfl) h8).trans rfl), Below.refl _ _, rfl⟩
          | 12, _, ho =>
            obtain ⟨v8, h8, e8⟩ := hw 8 68 (by kernel_rfl)
            obtain rfl : v8 = .bool false := e8
            injection ho with ho; subst ho
            exact .inr ⟨((wanted_of rfl (by kernel_rfl) h8).trans rfl), Below.refl _ _, rfl⟩
          | 13, _, ho =>
            obtain ⟨v8, h8, e8⟩ := hw 8 68 (by kernel_rfl)
            obtain rfl : v8 = .bool false := e8
            injection ho with ho; subst ho
            exact .inr ⟨((wanted_of rfl (by kernel_rfl) h8).trans rfl), Below.refl _ _, rfl⟩
          | 14, _, ho =>
            obtain ⟨v8, h8, e8⟩ := hw 8 68 (by kernel_rfl)
            obtain rfl : v8 = .bool false := e8
            obtain ⟨v5, h5, e5⟩ := hw 5 65 (by kernel_rfl)
            obtain rfl : v5 = .bool false := e5
            injection ho with ho; subst ho
            exact .inl ⟨((wanted_of rfl (by kernel_rfl) h5).trans rfl), op_val _ (by simp [execOp, Act.eval, h8, go_sem]) ⟨_, rfl, Below.refl _ _, rfl⟩⟩
          | 15, _, ho =>
            obtain ⟨v5, h5, e5⟩ := hw 5 65 (by kernel_rfl)
            obtain rfl : v5 = .bool false := e5
            obtain ⟨v14, h14, e14⟩ := hw 14 74 (by kernel_rfl)
            obtain rfl : v14 = .bool false := e14
            injection ho with ho; subst ho
            exact .inl ⟨rfl, op_val _ (by simp [execOp, Act.eval, h5, h14, go_sem]) ⟨_, rfl, Below.refl _ _, rfl⟩⟩
          | 16, _, ho =>
            obtain ⟨v15, h15, e15⟩ := hw 15 75 (by kernel_rfl)
            obtain rfl : v15 = .bool false := e15
            injection ho with ho; subst ho
            exact .inl ⟨rfl, op_val _ (by simp [execOp, Act.eval, h15, go_sem]) ⟨_, rfl, Below.refl _ _, rfl⟩⟩
          | 17, _, ho =>
            obtain ⟨v16, h16, e16⟩ := hw 16 76 (by kernel_rfl)
            obtain rfl : v16 = .bool false := e16
            injection ho with ho; subst ho
            exact .inl ⟨((wanted_of rfl (by kernel_rfl) h16).trans rfl), op_val _ (by simp [execOp, Act.eval, hr3, go_sem, below_cell hG y3a, below_cell hG y3b]) ⟨_, rfl, Below.refl _ _, rfl⟩⟩
          | 18, _, ho =>
            obtain ⟨v17, h17, e17⟩ := hw 17 77 (by kernel_rfl)
            obtain rfl : v17 = .agg #[.int .i64 n, .slice B j cB] := e17
            obtain ⟨v16, h16, e16⟩ := hw 16 76 (by kernel_rfl)
            obtain rfl : v16 = .bool false := e16
            injection ho with ho; subst ho
            refine .inl ⟨((wanted_of rfl (by kernel_rfl) h16).trans rfl), op_call 18 _ rfl rfl #[.agg #[.int .i64 n, .slice B j cB]] (by simp [Act.eval, h17]) _ Tryz.func18 (by kernel_rfl) (by kernel_rfl) ((HRr.out W hG).mono ?_)⟩
            rintro r w' ⟨rfl, hb⟩
            exact ⟨_, rfl, _, rfl, hb, rfl⟩
          | 19, _, ho =>
            obtain ⟨v18, h18, e18⟩ := hw 18 78 (by kernel_rfl)
            obtain rfl : v18 = .bool false := e18
            obtain ⟨v16, h16, e16⟩ := hw 16 76 (by kernel_rfl)
            obtain rfl : v16 = .bool false := e16
            injection ho with ho; subst ho
            exact .inl ⟨((wanted_of rfl (by kernel_rfl) h16).trans rfl), op_val _ (by simp [execOp, Act.eval, h18, go_sem]) ⟨_, rfl, Below.refl _ _, rfl⟩⟩
          | 20, _, ho =>
            obtain ⟨v19, h19, e19⟩ := hw 19 79 (by kernel_rfl)
            obtain rfl : v19 = .bool true := e19
            obtain ⟨v16, h16, e16⟩ := hw 16 76 (by kernel_rfl)
            obtain rfl : v16 = .bool false := e16
            injection ho with ho; subst ho
            exact .inl ⟨((wanted_of rfl (by kernel_rfl) h16).trans rfl), op_val _ (by simp [execOp, Act.eval, h19, go_sem]) ⟨_, rfl, Below.refl _ _, rfl⟩⟩
          | 21, _, ho =>
            obtain ⟨v20, h20, e20⟩ := hw 20 80 (by kernel_rfl)
            obtain rfl : v20 = .bool true := e20
            injection ho with ho; subst ho
            exact .inl ⟨((wanted_of rfl (by kernel_rfl) h20).trans rfl), op_val _ (by simp [execOp, Act.eval, hr10, go_sem, below_cell hG y10a, below_cell hG y10b]) ⟨_, rfl, Below.refl _ _, rfl⟩⟩
          | 22, _, ho =>
            obtain ⟨v20, h20, e20⟩ := hw 20 80 (by kernel_rfl)
            obtain rfl : v20 = .bool true := e20
            injection ho with ho; subst ho
            exact .inl ⟨((wanted_of rfl (by kernel_rfl) h20).trans rfl), op_build 35 _ rfl [] #[.int .i64 0, .slice none 0 0] (by simp) (by kernel_rfl) ⟨_, rfl, Below.refl _ _, rfl⟩⟩
          | 23, _, ho =>
            obtain ⟨v21, h21, e21⟩ := hw 21 81 (by kernel_rfl)
            obtain rfl : v21 = (graphV (tN n l) At kt ct) := e21
            obtain ⟨v22, h22, e22⟩ := hw 22 82 (by kernel_rfl)
            obtain rfl : v22 = .agg #[.int .i64 0, .slice none 0 0] := e22
            obtain ⟨v20, h20, e20⟩ := hw 20 80 (by kernel_rfl)
            obtain rfl : v20 = .bool true := e20
            injection ho with ho; subst ho
            refine .inl ⟨((wanted_of rfl (by kernel_rfl) h20).trans rfl), op_call 9 _ rfl rfl #[(graphV (tN n l) At kt ct), .agg #[.int .i64 0, .slice none 0 0]] (by simp [Act.eval, h21, h22]) _ Tryz.func9 (by kernel_rfl) (by kernel_rfl) ((HSm0.out W hG).mono ?_)⟩
            rintro r w' ⟨rfl, hb⟩
            exact ⟨_, rfl, _, rfl, hb, rfl⟩
          | 24, _, ho =>
            obtain ⟨v23, h23, e23⟩ := hw 23 83 (by kernel_rfl)
            obtain rfl : v23 = .bool true := e23
            obtain ⟨v20, h20, e20⟩ := hw 20 80 (by kernel_rfl)
            obtain rfl : v20 = .bool true := e20
            injection ho with ho; subst ho
            exact .inl ⟨((wanted_of rfl (by kernel_rfl) h20).trans rfl), op_val _ (by simp [execOp, Act.eval, h23, go_sem]) ⟨_, rfl, Below.refl _ _, rfl⟩⟩
          | 25, _, ho =>
            obtain ⟨v20, h20, e20⟩ := hw 20 80 (by kernel_rfl)
            obtain rfl : v20 = .bool true := e20
            obtain ⟨v24, h24, e24⟩ := hw 24 84 (by kernel_rfl)
            obtain rfl : v24 = .bool false := e24
            obtain ⟨v16, h16, e16⟩ := hw 16 76 (by kernel_rfl)
            obtain rfl : v16 = .bool false := e16
            injection ho with ho; subst ho
            exact .inl ⟨((wanted_of rfl (by kernel_rfl) h16).trans rfl), op_val _ (by simp [execOp, Act.eval, h20, h24, go_sem]) ⟨_, rfl, Below.refl _ _, rfl⟩⟩
          | n_ + 26, hi, _ => omega
        · intro o2 u W ho hG hw
          have e76 : u 76 = .bool false := hw 16 76 (by decide) (by kernel_rfl)
          have e85 : u 85 = .bool false := hw 25 85 (by decide) (by kernel_rfl)
          have HbW := Lib.hid hG
          have hop : o2.op = .pick (.tmp 76) (.const (.bool true)) (.tmp 85) := by injection ho with ho; subst ho; rfl
          have hds : o2.dst = some 86 := by injection ho with ho; subst ho; rfl
          clear ho
          simp only [List.foldl_cons, List.foldl_nil, Act.put, List.setIfInBounds_toArray, List.set_cons_zero, List.set_cons_succ]
          rw [e76, e85]
          refine op_val (.bool false) (by simp [execOp, hop, Act.eval, go_sem]) ?_
          rw [hds]
          simp only [Act.put, List.setIfInBounds_toArray, List.set_cons_zero, List.set_cons_succ]
          clear hw hG e76 e85 hop hds
          have v4a := below_cell HbW.out y4a
          have v4b := below_cell HbW.out y4b
          have v6a := below_cell HbW.out y6a
          have v6b := below_cell HbW.out y6b
          clear y1a y1b y3a y3b y4a y4b y6a y6b y10a y10b
          cases hok : okG n l with
          | true =>
            obtain ⟨q1, q2, q3⟩ := HFt.out hok W HbW.out
            have Hq3 := Lib.hid q3
            rw [q1] at v4a
            rw [q2]
            clear q1 q2 q3 hok
            go_wp2_with fail
            refine Hq3.out.mono ?_
            rintro e w9 ⟨rfl, hb9⟩
            have HE := Lib.hid (HBw.out.trans ((HbW.out.trans (hb9.mono HbW.out.size)).mono HBw.out.size))
            clear hb9
            go_wp2_with fail
            go_ret
            exact ⟨rfl, HE.out⟩
          | false =>
            obtain ⟨q1, q2, q3⟩ := HFf.out hok
            have Hq3 := Lib.hid q3
            rw [q1] at v4a
            rw [q2]
            clear q1 q2 q3 hok
            go_wp2_with fail
            refine (isE_any W).mono ?_
            rintro e w9 ⟨rfl, hb9⟩
            have HE := Lib.hid (HbW.out.trans (hb9.mono HbW.out.size))
            have v4a := below_cell hb9 v4a
            have v4b := below_cell hb9 v4b
            clear hb9
            go_wp2_with fail
            refine (Hq3.out w9 HE.out).mono ?_
            rintro e w10 ⟨rfl, hb10⟩
            have HE2 := Lib.hid (HBw.out.trans ((HE.out.trans (hb10.mono HE.out.size)).mono HBw.out.size))
            clear hb10
            go_wp2_with fail
            go_ret
            exact ⟨rfl, HE2.out⟩
end Go.Proofs.YtgphngjniplonaaGreatDoor
