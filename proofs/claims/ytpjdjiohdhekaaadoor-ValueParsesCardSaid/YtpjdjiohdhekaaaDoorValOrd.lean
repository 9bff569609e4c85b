/- ValueOrders: the chapter's example, and the walk. -/
import Derived.Test.YtpjdjiohdhekaaaDoorVal
import Derived.Test.YtpjdjiohdhekaaaDoorTab
import Derived.Deep.DeepCutAuto
namespace Go.Proofs.YtpjdjiohdhekaaaDoor
open Go.RowKit

def VBox (W : World) (g : Nat) (v : GV) : Prop := W.cell? ⟨g, 0, none⟩ = some (.int .i64 v.k) ∧ W.cell? ⟨g, 1, none⟩ = some (.int .i64 v.n) ∧ W.cell? ⟨g, 2, none⟩ = some (.string v.s)
theorem VBox.on {W W' : World} {g : Nat} {v : GV} (h : VBox W g v) (hb : Below W.heap.size W W') : VBox W' g v := ⟨below_cell hb h.1, below_cell hb h.2.1, below_cell hb h.2.2⟩
theorem VBox.old {W : World} {g : Nat} {v : GV} (h : VBox W g v) (o : Obj) : VBox (W.alloc o) g v := ⟨cellA h.1, cellA h.2.1, cellA h.2.2⟩
theorem VBox.new (W : World) (v : GV) : VBox (W.alloc (.cells #[.int .i64 v.k, .int .i64 v.n, .string v.s] 24)) W.heap.size v :=
  ⟨(cell_of_row _ _ 0 _ _ _ (Go.heap_alloc_new W _)).trans rfl, (cell_of_row _ _ 1 _ _ _ (Go.heap_alloc_new W _)).trans rfl, (cell_of_row _ _ 2 _ _ _ (Go.heap_alloc_new W _)).trans rfl⟩

set_option maxRecDepth 100000 in
set_option maxHeartbeats 400000 in
theorem of_ok (n : Int) (h : (decide (-2147483647 ≤ n) && decide (n ≤ 2147483647)) = true) (w : World) : Calls Tryd.prog 11 #[.int .i64 n] w (RetV (.tuple #[(⟨1, n, ⟨#[]⟩⟩ : GV).v, .nilIface]) w) := by
  have hb := fun w => bounded_any n w
  rw [h] at hb
  have hb := Lib.hid hb
  go_enter Tryd.func11, Tryd.ntmps11
  go_wp2_with (go_at_call 30; refine (hb.out _).mono ?_; rintro e w1 ⟨rfl, hq1⟩; obtain ⟨hc, hf⟩ := bcell hq1; have hz := hq1.size; simp only [World.size_alloc, Nat.add_one_le_iff] at hz hc hf)
  exact bodyPost_ret (v := .tuple #[(⟨1, n, ⟨#[]⟩⟩ : GV).v, .nilIface]) (by simp [results, Tryd.results11, go_sem, hc]) rfl ⟨rfl, by
    refine (((below_next (belowA (Below.refl _ w) _) hq1).setCell (Nat.le_refl _) _).setCell (Nat.le_refl _) _).setCell (Nat.le_refl _) _⟩

set_option maxRecDepth 100000 in
set_option maxHeartbeats 400000 in
theorem symbol_ok (s : ByteArray) (h : nameOk s = true) (w : World) : Calls Tryd.prog 12 #[.string s] w (RetV (.tuple #[(⟨2, 0, s⟩ : GV).v, .nilIface]) w) := by
  have hb := fun w => name_any s w
  rw [h] at hb
  have hb := Lib.hid hb
  go_enter Tryd.func12, Tryd.ntmps12
  go_wp2_with (go_at_call 15; refine (hb.out _).mono ?_; rintro e w1 ⟨rfl, hq1⟩; obtain ⟨hc, hf⟩ := bcell hq1; have hz := hq1.size; simp only [World.size_alloc, Nat.add_one_le_iff] at hz hc hf)
  exact bodyPost_ret (v := .tuple #[(⟨2, 0, s⟩ : GV).v, .nilIface]) (by simp [results, Tryd.results12, go_sem, hc]) rfl ⟨rfl, by
    refine (((below_next (belowA (Below.refl _ w) _) hq1).setCell (Nat.le_refl _) _).setCell (Nat.le_refl _) _).setCell (Nat.le_refl _) _⟩

def vA : GV := ⟨1, -5, ⟨#[]⟩⟩
def vB : GV := ⟨1, 3, ⟨#[]⟩⟩
def vC : GV := ⟨2, 0, ⟨#[97]⟩⟩
theorem cAB : cmpV vA vB = -1 := by
  have h1 : lessV vB vA = false := by simp [lessV, vA, vB]
  have h2 : lessV vA vB = true := by simp [lessV, vA, vB]
  simp [cmpV, h1, h2]
theorem cBC : cmpV vB vC = -1 := by
  have h1 : lessV vC vB = false := by simp [lessV, vC, vB]
  have h2 : lessV vB vC = true := by simp [lessV, vC, vB]
  simp [cmpV, h1, h2]
theorem text5 : Lib.itoa (-5) = [45, 53] := by kernel_rfl

set_option maxRecDepth 100000 in
set_option maxHeartbeats 400000 in
theorem textA_any (w : World) (h : TabW w) : Calls Tryd.prog 18 #[vA.v] w (RetV (.string ⟨#[45, 53]⟩) w) := by
  have HT := Lib.hid h
  have hr := fun w => right_any vA w
  rw [show rightB vA = true by kernel_rfl] at hr
  have hr := Lib.hid hr
  clear h
  simp only [vA] at hr ⊢
  go_enter Tryd.func18, Tryd.ntmps18
  go_wp2_with (first
    | (go_at_call 16
       refine (hr.out _).mono ?_
       rintro e w1 ⟨rfl, hq1⟩
       have hbw := below_next (belowA (Below.refl _ w) _) hq1
       obtain ⟨hc, hf⟩ := bcell hq1
       simp only [World.size_alloc] at hc hf)
    | (go_at_call 35
       refine (itoa_any _ (by unfold fits; decide) _ (HT.out.on hbw)).mono ?_
       rw [text5]
       rintro e w2 ⟨s, hs, -, rfl, hq2⟩))
  go_ret
  exact ⟨by rw [hs.out]; rfl, below_next hbw hq2⟩

def AnyBool (w : World) (e : Ending) (w' : World) : Prop := ∃ b, e = .returned (.bool b) ∧ Below w.heap.size w w'
set_option maxRecDepth 100000 in
set_option maxHeartbeats 400000 in
theorem long_any (v : GV) (w : World) : Calls Tryd.prog 8 #[v.v] w (AnyBool w) := by
  go_enter Tryd.func8, Tryd.ntmps8
  go_wp2
  go_ret
  exact ⟨_, rfl, belowA (Below.refl _ _) _⟩

set_option maxRecDepth 100000 in
set_option maxHeartbeats 1000000 in
theorem alive_any (w : World) (h : TabW w) : Calls Tryd.prog 7 #[] w (RetBool true w) := by
  have HT := Lib.hid h
  clear h
  have hbw := Below.refl w.heap.size w
  go_enter Tryd.func7, Tryd.ntmps7
  go_upto_region 2 with (
    (go_at_call 11
     refine (of_ok (-5) (by decide) _).mono ?_
     rintro e2 w2 ⟨rfl, hq2⟩))
  replace hbw := belowA (below_next hbw hq2) (.cells #[.int .i64 vA.k, .int .i64 vA.n, .string vA.s] 24)
  clear hq2
  have B1 := VBox.new w2 vA
  simp only [vA] at hbw B1 ⊢
  generalize w2.heap.size = g1 at B1 ⊢
  go_upto_region 3 with (
    (go_at_call 11
     refine (of_ok 3 (by decide) _).mono ?_
     rintro e2 w2 ⟨rfl, hq2⟩))
  replace hbw := belowA (below_next hbw hq2) (.cells #[.int .i64 vB.k, .int .i64 vB.n, .string vB.s] 24)
  replace B1 := (B1.on hq2).old (.cells #[.int .i64 vB.k, .int .i64 vB.n, .string vB.s] 24)
  clear hq2
  have B3 := VBox.new w2 vB
  simp only [vB] at hbw B3 B1 ⊢
  generalize w2.heap.size = g3 at B3 ⊢
  go_upto_region 4 with (
    (go_at_call 12
     refine (symbol_ok ⟨#[97]⟩ (by kernel_rfl) _).mono ?_
     rintro e2 w2 ⟨rfl, hq2⟩))
  replace hbw := belowA (below_next hbw hq2) (.cells #[.int .i64 vC.k, .int .i64 vC.n, .string vC.s] 24)
  replace B1 := (B1.on hq2).old (.cells #[.int .i64 vC.k, .int .i64 vC.n, .string vC.s] 24)
  replace B3 := (B3.on hq2).old (.cells #[.int .i64 vC.k, .int .i64 vC.n, .string vC.s] 24)
  clear hq2
  have B5 := VBox.new w2 vC
  simp only [vC] at hbw B5 B1 B3 ⊢
  generalize w2.heap.size = g5 at B5 ⊢
  generalize w2.alloc (.cells #[.int .i64 2, .int .i64 0, .string ⟨#[97]⟩] 24) = wb at hbw B1 B3 B5 ⊢
  have Hk := Lib.hid (fun W (h : Below wb.heap.size wb W) => And.intro (B1.on h) (And.intro (B3.on h) (B5.on h)))
  have hb := Below.refl wb.heap.size wb
  obtain ⟨c0, c1, c2⟩ := B1
  obtain ⟨c3, c4, c5⟩ := B3
  obtain ⟨c6, c7, c8⟩ := B5
  have hAB := Lib.hid (fun w => show Calls Tryd.prog 10 #[vA.v, vB.v] w (RetInt (-1) w) from cAB ▸ compare_any vA vB w)
  have hBC := Lib.hid (fun w => show Calls Tryd.prog 10 #[vB.v, vC.v] w (RetInt (-1) w) from cBC ▸ compare_any vB vC w)
  go_wp2_with (first
    | (go_at_call 10
       refine (hAB.out _).mono ?_
       clear hAB
       rintro e2 w2 ⟨rfl, hq2⟩
       have hb := below_next hb hq2
       clear hq2 c0 c1 c2 c3 c4 c5 c6 c7 c8
       obtain ⟨⟨c0, c1, c2⟩, ⟨c3, c4, c5⟩, ⟨c6, c7, c8⟩⟩ := Hk.out _ hb)
    | (go_at_call 10
       refine (hBC.out _).mono ?_
       rintro e2 w2 ⟨rfl, hq2⟩
       have hb := below_next hb hq2
       clear hq2 c0 c1 c2 c3 c4 c5 c6 c7 c8
       obtain ⟨⟨c0, c1, c2⟩, ⟨c3, c4, c5⟩, ⟨c6, c7, c8⟩⟩ := Hk.out _ hb)
    | (go_at_call 18
       refine (textA_any _ (HT.out.on (below_next hbw hb))).mono ?_
       rintro e2 w2 ⟨rfl, hq2⟩
       have hb := below_next hb hq2
       clear hq2 c0 c1 c2 c3 c4 c5 c6 c7 c8
       obtain ⟨⟨c0, c1, c2⟩, ⟨c3, c4, c5⟩, ⟨c6, c7, c8⟩⟩ := Hk.out _ hb))
  go_ret
  exact ⟨by simp, below_next hbw hb⟩

set_option maxRecDepth 100000 in
set_option maxHeartbeats 400000 in
theorem less_any (a b : GV) (w : World) : Calls Tryd.prog 9 #[a.v, b.v] w (RetBool (lessV a b) w) := by
  by_cases h1 : a.k = b.k
  · by_cases h2 : a.n = b.n
    · rw [show lessV a b = Op.bytesLess a.s.toList b.s.toList by unfold lessV; rw [if_pos h1, if_pos h2]]
      have z1 : (a.k != b.k) = false := by simp [h1]
      have z2 : (a.n != b.n) = false := by simp [h2]
      clear h1 h2
      go_enter Tryd.func9, Tryd.ntmps9
      go_wp2
      go_ret
      exact ⟨rfl, belowA (belowA (Below.refl _ _) _) _⟩
    · rw [show lessV a b = decide (a.n < b.n) by unfold lessV; rw [if_pos h1, if_neg h2]]
      have z1 : (a.k != b.k) = false := by simp [h1]
      have z2 : (a.n != b.n) = true := by simp [h2]
      clear h1 h2
      go_enter Tryd.func9, Tryd.ntmps9
      go_wp2
      go_ret
      exact ⟨rfl, belowA (belowA (Below.refl _ _) _) _⟩
  · rw [show lessV a b = decide (a.k < b.k) by unfold lessV; rw [if_neg h1]]
    have z1 : (a.k != b.k) = true := by simp [h1]
    clear h1
    go_enter Tryd.func9, Tryd.ntmps9
    go_wp2
    go_ret
    exact ⟨rfl, belowA (belowA (Below.refl _ _) _) _⟩

set_option maxRecDepth 100000 in
set_option maxHeartbeats 4000000 in
theorem valueOrders_walk (a b c : GV) (w : World) (h : TabW w) : Calls Tryd.prog 3 #[a.v, b.v, c.v] w (RetBool true w) := by
  have HT := Lib.hid h
  clear h
  go_enter Tryd.func3, Tryd.ntmps3
  go_wp2_with fail
  have B0 := ((VBox.new w a).old (.cells #[.int .i64 b.k, .int .i64 b.n, .string b.s] 24)).old (.cells #[.int .i64 c.k, .int .i64 c.n, .string c.s] 24)
  have B1 := (VBox.new (w.alloc (.cells #[.int .i64 a.k, .int .i64 a.n, .string a.s] 24)) b).old (.cells #[.int .i64 c.k, .int .i64 c.n, .string c.s] 24)
  have B2 := VBox.new ((w.alloc (.cells #[.int .i64 a.k, .int .i64 a.n, .string a.s] 24)).alloc (.cells #[.int .i64 b.k, .int .i64 b.n, .string b.s] 24)) c
  simp only [World.size_alloc] at B1 B2
  have hbw : Below w.heap.size w (((w.alloc (.cells #[.int .i64 a.k, .int .i64 a.n, .string a.s] 24)).alloc (.cells #[.int .i64 b.k, .int .i64 b.n, .string b.s] 24)).alloc (.cells #[.int .i64 c.k, .int .i64 c.n, .string c.s] 24)) := belowA (belowA (belowA (Below.refl _ _) _) _) _
  generalize ((w.alloc (.cells #[.int .i64 a.k, .int .i64 a.n, .string a.s] 24)).alloc (.cells #[.int .i64 b.k, .int .i64 b.n, .string b.s] 24)).alloc (.cells #[.int .i64 c.k, .int .i64 c.n, .string c.s] 24) = wb at hbw B0 B1 B2 ⊢
  have Hk := Lib.hid (fun W (h : Below wb.heap.size wb W) => And.intro (B0.on h) (And.intro (B1.on h) (B2.on h)))
  have hb := Below.refl wb.heap.size wb
  obtain ⟨c0, c1, c2⟩ := B0
  obtain ⟨c3, c4, c5⟩ := B1
  obtain ⟨c6, c7, c8⟩ := B2
  have hAB := Lib.hid (fun w => compare_any a b w)
  have hBA := Lib.hid (fun w => compare_any b a w)
  have hBC := Lib.hid (fun w => compare_any b c w)
  have hAC := Lib.hid (fun w => compare_any a c w)
  have hl1 := Lib.hid (fun w => less_any a b w)
  have hl2 := Lib.hid (fun w => less_any b a w)
  refine (alive_any _ (HT.out.on hbw)).mono ?_
  rintro e2 w2 ⟨rfl, hq2⟩
  have hb := below_next hb hq2
  clear hq2 c0 c1 c2 c3 c4 c5 c6 c7 c8
  obtain ⟨⟨c0, c1, c2⟩, ⟨c3, c4, c5⟩, ⟨c6, c7, c8⟩⟩ := Hk.out _ hb
  go_upto_region 3 with fail
  go_cut [19] (fun v W => (∃ bb, v = .bool bb) ∧ Below wb.heap.size wb W)
  case first =>
    go_wp2_with (
      (go_at_call 8
       refine (long_any _ _).mono ?_
       rintro e2 w2 ⟨bb, rfl, hq2⟩
       have hb := below_next hb hq2
       clear hq2 c0 c1 c2 c3 c4 c5 c6 c7 c8
       obtain ⟨⟨c0, c1, c2⟩, ⟨c3, c4, c5⟩, ⟨c6, c7, c8⟩⟩ := Hk.out _ hb))
    all_goals
      go_meet
      exact ⟨⟨_, rfl⟩, hb⟩
  case rest =>
  obtain ⟨⟨bb, rfl⟩, hb⟩ := hcut
  cases bb with
  | true =>
    go_wp2_with fail
    go_ret
    exact ⟨rfl, below_next hbw hb⟩
  | false =>
  obtain ⟨⟨c0, c1, c2⟩, ⟨c3, c4, c5⟩, ⟨c6, c7, c8⟩⟩ := Hk.out _ hb
  obtain ⟨ct, hct⟩ : ∃ ct, cmpV a b = ct := ⟨_, rfl⟩
  have hct' : ct = if lessV b a = true then 1 else if lessV a b = true then -1 else 0 := hct.symm
  have hfz : (ct == 0) = a.beq b := by rw [GV.beq_dec, ← hct, Bool.eq_iff_iff]; simp [cmpV_zero]
  have hneg : cmpV b a = -ct := by rw [cmpV_neg, hct]
  have hwn : wrap64 (-ct) = -ct := by
    have h3 : ct = 1 ∨ ct = -1 ∨ ct = 0 := by
      rw [hct']
      split
      · exact .inl rfl
      · split
        · exact .inr (.inl rfl)
        · exact .inr (.inr rfl)
    unfold wrap64
    omega
  have Htr := Lib.hid (fun (h1 : ¬ (0 < ct)) (h2 : ¬ (0 < cmpV b c)) => show cmpV a c ≤ 0 from cmpV_trans (a := a) (b := b) (c := c) (by omega) (by omega))
  rw [hct] at hAB
  rw [hneg] at hBA
  have rn := fun W => run_eql_value a b W
  generalize lessV a b = l1 at hl1 hct'
  generalize lessV b a = l2 at hl2 hct'
  generalize cmpV b c = cbc at hBC Htr
  generalize cmpV a c = cac at hAC Htr
  have HC := Lib.hid hct'
  have HFZ := Lib.hid hfz
  have HWN := Lib.hid hwn
  have RN := Lib.hid rn
  clear hct hct' hfz hneg hwn rn
  go_wp2_with fail
  refine (hl1.out _).mono ?_
  rintro e2 w2 ⟨rfl, hq2⟩
  have hb := below_next hb hq2
  clear hq2 c0 c1 c2 c3 c4 c5 c6 c7 c8
  obtain ⟨⟨c0, c1, c2⟩, ⟨c3, c4, c5⟩, ⟨c6, c7, c8⟩⟩ := Hk.out _ hb
  go_upto_if 22 with fail
  obtain ⟨k1, hk1⟩ : ∃ k1 : Int, (if l1 = true then -1 else 0) = k1 := ⟨_, rfl⟩
  have HK1 := Lib.hid hk1
  clear hk1
  go_cut [7] (fun v W => v = .int .i64 k1 ∧ Below wb.heap.size wb W)
  case first =>
    cases hl : l1 with
    | false =>
      have e : k1 = 0 := by have := HK1.out; rw [hl] at this; simpa using this.symm
      subst e
      go_wp2_with fail
      go_meet
      exact ⟨rfl, hb⟩
    | true =>
      have e : k1 = -1 := by have := HK1.out; rw [hl] at this; simpa using this.symm
      subst e
      go_wp2_with fail
      go_meet
      exact ⟨rfl, hb⟩
  case rest =>
  obtain ⟨rfl, hb⟩ := hcut
  obtain ⟨⟨c0, c1, c2⟩, ⟨c3, c4, c5⟩, ⟨c6, c7, c8⟩⟩ := Hk.out _ hb
  go_wp2_with fail
  refine (hl2.out _).mono ?_
  rintro e2 w2 ⟨rfl, hq2⟩
  have hb := below_next hb hq2
  clear hq2 c0 c1 c2 c3 c4 c5 c6 c7 c8
  obtain ⟨⟨c0, c1, c2⟩, ⟨c3, c4, c5⟩, ⟨c6, c7, c8⟩⟩ := Hk.out _ hb
  go_upto_if 25 with fail
  go_cut [7] (fun v W => v = .int .i64 ct ∧ Below wb.heap.size wb W)
  case first =>
    cases hl : l2 with
    | false =>
      have e : k1 = ct := by have := HC.out; rw [hl] at this; rw [this, ← HK1.out]; simp
      subst e
      go_wp2_with fail
      go_meet
      exact ⟨rfl, hb⟩
    | true =>
      have e : ct = 1 := by have := HC.out; rw [hl] at this; simpa using this
      subst e
      go_wp2_with fail
      go_meet
      exact ⟨rfl, hb⟩
  case rest =>
  obtain ⟨rfl, hb⟩ := hcut
  obtain ⟨⟨c0, c1, c2⟩, ⟨c3, c4, c5⟩, ⟨c6, c7, c8⟩⟩ := Hk.out _ hb
  clear hl1 hl2 HC HK1
  go_upto_region 10 with fail
  go_cut [46] (fun v W => v = .bool false ∧ Below wb.heap.size wb W)
  case first =>
    have hwn := HWN.out
    have hfz := HFZ.out
    have rn := RN.out
    go_wp2_with fail
    refine (hAB.out _).mono ?_
    rintro e2 w2 ⟨rfl, hq2⟩
    have hb := below_next hb hq2
    clear hq2 c0 c1 c2 c3 c4 c5 c6 c7 c8
    obtain ⟨⟨c0, c1, c2⟩, ⟨c3, c4, c5⟩, ⟨c6, c7, c8⟩⟩ := Hk.out _ hb
    go_wp2_with fail
    refine (hBA.out _).mono ?_
    rintro e2 w2 ⟨rfl, hq2⟩
    have hb := below_next hb hq2
    clear hq2 c0 c1 c2 c3 c4 c5 c6 c7 c8
    obtain ⟨⟨c0, c1, c2⟩, ⟨c3, c4, c5⟩, ⟨c6, c7, c8⟩⟩ := Hk.out _ hb
    go_wp2_with fail
    go_meet
    refine ⟨?_, hb⟩
    first
      | rfl
      | (simp; done)
      | (simp [hfz]; done)
  case rest =>
  obtain ⟨rfl, hb⟩ := hcut
  obtain ⟨⟨c0, c1, c2⟩, ⟨c3, c4, c5⟩, ⟨c6, c7, c8⟩⟩ := Hk.out _ hb
  go_wp2_with fail
  refine (hAB.out _).mono ?_
  rintro e2 w2 ⟨rfl, hq2⟩
  have hb := below_next hb hq2
  clear hq2 c0 c1 c2 c3 c4 c5 c6 c7 c8
  obtain ⟨⟨c0, c1, c2⟩, ⟨c3, c4, c5⟩, ⟨c6, c7, c8⟩⟩ := Hk.out _ hb
  by_cases h1 : 0 < ct
  · go_wp2_with fail
    go_ret
    exact ⟨by simp, below_next hbw hb⟩
  · go_wp2_with fail
    refine (hBC.out _).mono ?_
    rintro e2 w2 ⟨rfl, hq2⟩
    have hb := below_next hb hq2
    clear hq2 c0 c1 c2 c3 c4 c5 c6 c7 c8
    obtain ⟨⟨c0, c1, c2⟩, ⟨c3, c4, c5⟩, ⟨c6, c7, c8⟩⟩ := Hk.out _ hb
    by_cases h2 : 0 < cbc
    · go_wp2_with fail
      go_ret
      exact ⟨by simp, below_next hbw hb⟩
    · go_wp2_with fail
      refine (hAC.out _).mono ?_
      rintro e2 w2 ⟨rfl, hq2⟩
      have hb := below_next hb hq2
      clear hq2 c0 c1 c2 c3 c4 c5 c6 c7 c8
      obtain ⟨⟨c0, c1, c2⟩, ⟨c3, c4, c5⟩, ⟨c6, c7, c8⟩⟩ := Hk.out _ hb
      have h3 := Htr.out h1 h2
      go_wp2_with fail
      go_ret
      exact ⟨by simp, below_next hbw hb⟩
end Go.Proofs.YtpjdjiohdhekaaaDoor
