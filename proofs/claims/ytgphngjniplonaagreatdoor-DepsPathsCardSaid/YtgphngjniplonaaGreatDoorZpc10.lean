/- My own texts DgRp, DgPp, DgPq, as far as this claim needs them. -/
import Derived.Test.YtgphngjniplonaaGreatDoorZpc9
set_option linter.unusedVariables false
set_option linter.unusedSimpArgs false
set_option maxRecDepth 1000000
set_option maxHeartbeats 16000000
namespace Go.Proofs.YtgphngjniplonaaGreatDoor
open Go.RowKit
noncomputable def pathR (N : Nat) (l : List GEdge) (a b : Int) : List Nat := if farI N l a b = 0 then [] else a.toNat :: greedy N (hasN l) b.toNat (farI N l a b) a.toNat
theorem farI_nat {N : Nat} {l : List GEdge} {a b : Nat} (ha : a < N) (hb : b < N) : farI N l (a : Int) (b : Int) = farN N (hasN l) a b := by
  unfold farI
  rw [if_pos (by omega)]
  simp
theorem farI_in {N : Nat} {l : List GEdge} {a b : Int} (h : farI N l a b ≠ 0) : (0 ≤ a ∧ a < (N : Int)) ∧ (0 ≤ b ∧ b < (N : Int)) := by
  unfold farI at h
  split at h
  · assumption
  · exact absurd rfl h
theorem greedy_step {N : Nat} {l : List GEdge} (hr : rightG (N : Int) l = true) {a b d : Nat} (ha : a < N) (hf : farN N (hasN l) a b = d + 2) :
    ∃ x, x < N ∧ hasN l a x = true ∧ farN N (hasN l) x b = d + 1 ∧ (∀ y, y < x → ¬ (hasN l a y = true ∧ farN N (hasN l) y b = d + 1)) ∧ greedy N (hasN l) b (d + 2) a = x :: greedy N (hasN l) b (d + 1) x := by
  have hg := (greedy_least (hasN_lt hr) (b := b) (d + 1) a ha hf).1.1
  have e : greedy N (hasN l) b (d + 2) a = match (List.range N).find? (fun x => hasN l a x && decide (farN N (hasN l) x b = d + 1)) with
    | some x => x :: greedy N (hasN l) b (d + 1) x
    | none => [] := rfl
  cases hfi : (List.range N).find? (fun x => hasN l a x && decide (farN N (hasN l) x b = d + 1)) with
  | none =>
    rw [hfi] at e
    rw [e] at hg
    simp at hg
  | some x =>
    rw [hfi] at e
    have h1 := List.find?_some hfi
    have h2 := List.mem_range.1 (List.mem_of_find?_eq_some hfi)
    simp only [Bool.and_eq_true, decide_eq_true_eq] at h1
    refine ⟨x, h2, h1.1, h1.2, fun y hy hh => ?_, e⟩
    rw [List.find?_eq_some_iff_getElem] at hfi
    obtain ⟨-, i, hi, he, hall⟩ := hfi
    have hix : i = x := by simpa using he
    subst hix
    have := hall y hy
    simp [hh.1, hh.2] at this
def RPathP (N : Nat) (l : List GEdge) (a b : Int) (w : World) (e : Ending) (w' : World) : Prop :=
  ∃ A' c', e = .returned (.slice A' (pathR N l a b).length c') ∧ w'.ownsRow w.heap.size 3 1 (.slice A' (pathR N l a b).length c') (pathR N l a b).length ((pathR N l a b).map natC) ∧ Below w.heap.size w w'
theorem refPath_any (N : Nat) (A : Option Addr) (m c : Nat) (l : List GEdge) (hr : rightG (N : Int) l = true) (hN : N ≤ 1000) (a b : Int) (w : World) (h : SliceIs Enc.edge w w.heap.size A m c l) :
    Calls Tryz.prog 27 #[.agg #[.int .i64 (N : Int), .slice A m c], .int .i64 a, .int .i64 b] w (RPathP N l a b w) := by
  have hb0 : Below w.heap.size w (w.alloc (.cells #[.int .i64 (N : Int), .slice A m c] 35)) := belowA (Below.refl _ _) _
  have hr0 : (w.alloc (.cells #[.int .i64 (N : Int), .slice A m c] 35)).heap[w.heap.size]? = some (.cells #[.int .i64 (N : Int), .slice A m c] 35 (0, 0)) := heapNew rfl
  have HF : Hid (∀ W (x y : Int), Below w.heap.size w W → Calls Tryz.prog 50 #[.agg #[.int .i64 (N : Int), .slice A m c], .int .i64 x, .int .i64 y] W (RetInt (farI N l x y : Int) W)) := fun W x y hW => refFarI_any N hN A m c l x y W (h.keep hW)
  have HH : Hid (∀ W (x y : Int), Below w.heap.size w W → Calls Tryz.prog 26 #[.agg #[.int .i64 (N : Int), .slice A m c], .int .i64 x, .int .i64 y] W (RetBool (hasL l x y) W)) := fun W x y hW => refHas_any (N : Int) A m c l x y W (h.keep hW)
  obtain ⟨P, HP⟩ : ∃ P : Ending → World → Prop, Hid (P = RPathP N l a b w) := ⟨_, rfl⟩
  rw [← HP.out]
  have HB0 := Lib.hid hb0
  have HR0 := Lib.hid hr0
  have HC1 := Lib.hid (HF.out _ a b hb0)
  obtain ⟨fa, Hfa⟩ : ∃ fa : Nat, Hid (fa = farI N l a b) := ⟨_, rfl⟩
  rw [← Hfa.out] at HC1
  clear h hb0 hr0
  have hyu : undef = Value.tuple #[] := rfl
  go_enter Tryz.func27, Tryz.ntmps27
  go_wp2_with fail
  have hz0 : w.heap.size < (w.alloc (.cells #[.int .i64 (N : Int), .slice A m c] 35)).heap.size := by simp
  generalize w.alloc (.cells #[.int .i64 (N : Int), .slice A m c] 35) = w1 at *
  refine HC1.out.mono ?_
  rintro e w2 ⟨rfl, hb2⟩
  have hB2 : Below w.heap.size w w2 := HB0.out.trans (hb2.mono HB0.out.size)
  have hrw := (hb2.block _ hz0).trans HR0.out
  have hz2 : w.heap.size < w2.heap.size := Nat.lt_of_lt_of_le hz0 hb2.size
  have HB2 := Lib.hid hB2
  have HR2 := Lib.hid hrw
  clear hb2 hB2 hrw HC1 HR0 hz0
  by_cases hf0 : fa = 0
  · subst hf0
    have hp0 : pathR N l a b = [] := by unfold pathR; rw [← Hfa.out]; rfl
    have HE : Hid (P (.returned (.slice none 0 0)) w2) := by
      show P _ _
      rw [HP.out]
      unfold RPathP
      rw [hp0]
      exact ⟨none, 0, rfl, World.ownsRow_nil _ _ _ _, HB2.out⟩
    clear hp0
    go_wp2_with fail
    first | exact HE.out | (go_ret; exact HE.out)
  have e0 : ((fa : Int) == 0) = false := by rw [beq_eq_false_iff_ne]; omega
  obtain ⟨⟨ha0, ha1⟩, hbb0, hbb1⟩ := farI_in (N := N) (l := l) (a := a) (b := b) (by rw [← Hfa.out]; exact hf0)
  obtain ⟨A0, rfl⟩ : ∃ A0 : Nat, a = (A0 : Int) := ⟨a.toNat, by omega⟩
  obtain ⟨B0, rfl⟩ : ∃ B0 : Nat, b = (B0 : Int) := ⟨b.toNat, by omega⟩
  have hA0 : A0 < N := by omega
  have hB0 : B0 < N := by omega
  have hfn : fa = farN N (hasN l) A0 B0 := by rw [Hfa.out]; exact farI_nat hA0 hB0
  have hpp : pathR N l (A0 : Int) (B0 : Int) = A0 :: greedy N (hasN l) B0 fa A0 := by
    unfold pathR
    rw [← Hfa.out, if_neg hf0]
    simp
  have hd32 : fa ≤ N := by rw [Hfa.out]; exact farI_le _ _ _ _
  have hglen : (greedy N (hasN l) B0 fa A0).length = fa := by
    obtain ⟨d0, hd0⟩ : ∃ d0, fa = d0 + 1 := ⟨fa - 1, by omega⟩
    rw [hd0] at hfn ⊢
    exact (greedy_least (hasN_lt hr) (b := B0) d0 A0 hA0 hfn.symm).1.1
  have hfp : 0 < fa := by omega
  have hw3 : (w2.alloc (.cells #[.int .i64 (A0 : Int)] 3)).heap[w2.heap.size]? = some (.cells #[.int .i64 (A0 : Int)] 3 (0, 0)) := heapNew rfl
  have hown3 : (w2.alloc (.cells #[.int .i64 (A0 : Int)] 3)).ownsRow w2.heap.size 3 1 (.slice (some ⟨w2.heap.size, 0, none⟩) 1 1) 1 ([A0].map natC) :=
    ⟨rfl, .inr ⟨w2.heap.size, 1, _, rfl, Nat.le_refl _, hw3, Nat.le_refl _, by simp [maxLen], rfl, rfl⟩⟩
  have HO3 := Lib.hid hown3
  have HB3 : Hid (Below w2.heap.size w2 (w2.alloc (.cells #[.int .i64 (A0 : Int)] 3))) := belowA (Below.refl _ _) _
  have HFn := Lib.hid hfn.symm
  have HPp := Lib.hid hpp
  have HGl := Lib.hid hglen
  have HRt := Lib.hid hr
  clear hown3 hw3 hfn hpp hglen hr ha0 ha1 hbb0 hbb1 hf0 Hfa
  go_wp2_with fail
  clear e0
  generalize w2.alloc (.cells #[.int .i64 (A0 : Int)] 3) = w3 at *
  go_loopg [1, 7, 8] fa (fun gk v1 v7 v8 W => ∃ (ai g co ol : Nat) (os : List Nat) (fi : Int), v1 = .int .i64 (ai : Int) ∧ v7 = .int .i64 fi ∧ v8 = .slice (some ⟨g, 0, none⟩) ol co ∧ 0 < gk ∧ Hid (fi = (gk : Int)) ∧ gk ≤ N ∧ ai < N ∧ Hid (farN N (hasN l) ai B0 = gk) ∧ Hid (ol = os.length) ∧ Hid (os ++ greedy N (hasN l) B0 gk ai = A0 :: greedy N (hasN l) B0 fa A0) ∧ Hid (W.ownsRow w2.heap.size 3 1 (.slice (some ⟨g, 0, none⟩) ol co) ol (os.map natC)) ∧ Hid (Below w2.heap.size w2 W))
  case atStart => exact ⟨A0, w2.heap.size, 1, 1, [A0], (fa : Int), rfl, rfl, rfl, hfp, rfl, hd32, hA0, HFn, rfl, rfl, HO3, HB3⟩
  case round =>
    obtain ⟨ai, g, co, ol, os, fi, rfl, rfl, rfl, hg0, Hfi, hgN, hai, HFi, HOl, HEq, HOw, HBw⟩ := hrel
    have hzw := HBw.out.size
    have hrw := (HBw.out.block _ hz2).trans HR2.out
    have c0 : wr.cell? ⟨w.heap.size, 0, none⟩ = some (.int .i64 (N : Int)) := (cell_of_row _ _ 0 _ _ _ hrw).trans rfl
    have c1 : wr.cell? ⟨w.heap.size, 1, none⟩ = some (.slice A m c) := (cell_of_row _ _ 1 _ _ _ hrw).trans rfl
    have hole : ol ≤ 1002 := by
      have := congrArg List.length HEq.out
      simp only [List.length_append, List.length_cons, HGl.out, ← HOl.out] at this
      omega
    clear hrw
    obtain ⟨w4, hw4⟩ : ∃ w4, w4 = wr := ⟨_, rfl⟩
    subst hw4
    by_cases hg2 : 2 ≤ gk
    · obtain ⟨d, rfl⟩ : ∃ d, gk = d + 2 := ⟨gk - 2, by omega⟩
      obtain ⟨x, hxN, hxh, hxf, hxl, hxg⟩ := greedy_step HRt.out hai HFi.out
      have hgt : (1 : Int) < fi := by have := Hfi.out; omega
      have hfu : fi ≤ 1000 := by have := Hfi.out; omega
      have HXh := Lib.hid hxh
      have HXf := Lib.hid hxf
      have HXl := Lib.hid hxl
      have HXg := Lib.hid hxg
      clear hxh hxf hxl hxg c0 c1
      go_wp2_with fail
      go_loopw [1, 9] (fun v i W => ∃ k : Nat, k ≤ x ∧ i = .int .i64 (k : Int) ∧ v = .int .i64 (ai : Int) ∧ Hid (Below w4.heap.size w4 W)) (fun _ i _ => x - (intOf i).toNat)
      case atStart => exact ⟨0, by omega, rfl, rfl, Below.refl _ _⟩
      case round =>
        obtain ⟨k, hk, rfl, rfl, HBk⟩ := hrel
        have hkN : (k : Int) < (N : Int) := by omega
        have HBt : Hid (Below w2.heap.size w2 wr) := HBw.out.trans (HBk.out.mono hzw)
        have HBa : Hid (Below w.heap.size w wr) := HB2.out.trans (HBt.out.mono HB2.out.size)
        have hrw := (HBt.out.block _ hz2).trans HR2.out
        have c0 : wr.cell? ⟨w.heap.size, 0, none⟩ = some (.int .i64 (N : Int)) := (cell_of_row _ _ 0 _ _ _ hrw).trans rfl
        have c1 : wr.cell? ⟨w.heap.size, 1, none⟩ = some (.slice A m c) := (cell_of_row _ _ 1 _ _ _ hrw).trans rfl
        clear hrw
        have HC1 := Lib.hid (HH.out wr (ai : Int) (k : Int) HBa.out)
        obtain ⟨r, Hr⟩ : ∃ r, Hid (r = hasL l (ai : Int) (k : Int)) := ⟨_, rfl⟩
        rw [← Hr.out] at HC1
        go_wp2_with fail
        refine HC1.out.mono ?_
        rintro e w5 ⟨rfl, hb5⟩
        have hzt := HBt.out.size
        have hz5 := hb5.size
        have HB5 : Hid (Below w2.heap.size w2 w5) := HBt.out.trans (hb5.mono hzt)
        have HBa5 : Hid (Below w.heap.size w w5) := HB2.out.trans (HB5.out.mono HB2.out.size)
        have HBk5 : Hid (Below w4.heap.size w4 w5) := HBk.out.trans (hb5.mono HBk.out.size)
        have hrw5 := (HB5.out.block _ hz2).trans HR2.out
        clear c0 c1 HC1 hb5
        have c0 : w5.cell? ⟨w.heap.size, 0, none⟩ = some (.int .i64 (N : Int)) := (cell_of_row _ _ 0 _ _ _ hrw5).trans rfl
        have c1 : w5.cell? ⟨w.heap.size, 1, none⟩ = some (.slice A m c) := (cell_of_row _ _ 1 _ _ _ hrw5).trans rfl
        clear hrw5
        cases r with
        | false =>
          have hkx : k ≠ x := by
            rintro rfl
            have := HXh.out
            rw [show hasN l ai k = hasL l (ai : Int) (k : Int) from rfl, ← Hr.out] at this
            cases this
          go_wp2_with fail
          go_roundw
          case rel => exact ⟨k + 1, by omega, by go_num, rfl, HBk5⟩
          case measure => simp [intOf]; omega
        | true =>
          have HC3 := Lib.hid (HF.out w5 (k : Int) (B0 : Int) HBa5.out)
          obtain ⟨fk, Hfk⟩ : ∃ fk : Nat, Hid (fk = farI N l (k : Int) (B0 : Int)) := ⟨_, rfl⟩
          rw [← Hfk.out] at HC3
          go_wp2_with fail
          refine HC3.out.mono ?_
          rintro e w6 ⟨rfl, hb6⟩
          have hz25 := HB5.out.size
          have HB6 : Hid (Below w2.heap.size w2 w6) := HB5.out.trans (hb6.mono hz25)
          have HBk6 : Hid (Below w4.heap.size w4 w6) := HBk5.out.trans (hb6.mono HBk5.out.size)
          clear c0 c1 HC3 hb6
          by_cases hfk : fk = d + 1
          · have hke : ((fk : Int) == fi - 1) = true := by rw [beq_iff_eq]; have := Hfi.out; omega
            have hkx : k = x := by
              rcases Nat.lt_or_ge k x with h | h
              · exfalso
                refine HXl.out k h ⟨Hr.out.symm, ?_⟩
                rw [← farI_nat (by omega) hB0, ← Hfk.out, hfk]
              · omega
            subst hkx
            obtain ⟨g', c', X, u1, u2, u4⟩ := nat_push (own_below HOw.out HBk6.out) (k : Int) (by omega) HB6.out.size
            have HRun := Lib.hid u1
            have HOl5 : Hid (ol + 1 = (os ++ [k]).length) := by show _ = _; rw [List.length_append, ← HOl.out]; rfl
            have HO5 : Hid (X.ownsRow w2.heap.size 3 1 (.slice (some ⟨g', 0, none⟩) (ol + 1) c') (ol + 1) ((os ++ [k]).map natC)) := by
              show World.ownsRow _ _ _ _ _ _ _
              rw [List.map_append]
              exact u2
            have HB7 : Hid (Below w2.heap.size w2 X) := HB6.out.trans u4
            have HFk : Hid (farN N (hasN l) k B0 = d + 1) := HXf.out
            have HEq7 : Hid ((os ++ [k]) ++ greedy N (hasN l) B0 (d + 1) k = A0 :: greedy N (hasN l) B0 fa A0) := by
              show _ = _
              rw [← HEq.out, HXg.out]
              simp
            have hfn7 : Hid (fi - 1 = ((d + 1 : Nat) : Int)) := by show _ = _; have := Hfi.out; omega
            clear u1 u2 u4
            go_wp2_with (at_builtin; refine wpList_append_run (o := ⟨some 43, _, _, _, _, _⟩) rfl _ _ _ rfl _ _ rfl rfl (HRun.out _) ?_)
            go_roundg (d + 1)
            case rel => exact ⟨k, g', c', ol + 1, os ++ [k], fi - 1, rfl, by go_num, rfl, by omega, hfn7, by omega, hxN, HFk, HOl5, HEq7, HO5, HB7⟩
            case measure => omega
          · have hke : ((fk : Int) == fi - 1) = false := by rw [beq_eq_false_iff_ne]; have := Hfi.out; omega
            have hkx : k ≠ x := by
              rintro rfl
              have := HXf.out
              rw [← farI_nat hxN hB0, ← Hfk.out] at this
              exact hfk this
            go_wp2_with fail
            go_roundw
            case rel => exact ⟨k + 1, by omega, by go_num, rfl, HBk6⟩
            case measure => simp [intOf]; omega
    · obtain rfl : gk = 1 := by omega
      have hgt : ¬ (1 : Int) < fi := by have := Hfi.out; omega
      have hge : greedy N (hasN l) B0 1 ai = [B0] := rfl
      obtain ⟨g', c', X, u1, u2, u4⟩ := nat_push HOw.out (B0 : Int) (by omega) HBw.out.size
      have HRun := Lib.hid u1
      have HE : Hid (P (.returned (.slice (some ⟨g', 0, none⟩) (ol + 1) c')) X) := by
        show P _ _
        rw [HP.out]
        have hp2 : os ++ [B0] = pathR N l (A0 : Int) (B0 : Int) := by
          rw [HPp.out, ← HEq.out, hge]
        have hl2 : ol + 1 = (pathR N l (A0 : Int) (B0 : Int)).length := by rw [← hp2, List.length_append, ← HOl.out]; rfl
        refine ⟨some ⟨g', 0, none⟩, c', by rw [← hl2], ?_, HB2.out.trans ((HBw.out.trans u4).mono HB2.out.size)⟩
        rw [← hl2, ← hp2, List.map_append]
        refine ⟨u2.1, ?_⟩
        rcases u2.2 with h0 | ⟨g, cap, cur, hv, h4, h5⟩
        · exact .inl h0
        · exact .inr ⟨g, cap, cur, hv, by have := HB2.out.size; omega, h5⟩
      clear u1 u2 u4 hge HEq HOw HFi
      go_wp2_with (at_builtin; refine wpList_append_run (o := ⟨some 49, _, _, _, _, _⟩) rfl _ _ _ rfl _ _ rfl rfl (HRun.out _) ?_)
      first | exact HE.out | (go_ret; exact HE.out)
end Go.Proofs.YtgphngjniplonaaGreatDoor

namespace Go.Proofs.YtgphngjniplonaaGreatDoor
open Go.RowKit
theorem hasL_in {N : Nat} {l : List GEdge} (hr : rightG (N : Int) l = true) {a b : Int} (h : hasL l a b = true) : (0 ≤ a ∧ a < (N : Int)) ∧ (0 ≤ b ∧ b < (N : Int)) := by
  unfold hasL at h
  obtain ⟨e, he, h2⟩ := List.any_eq_true.1 h
  simp only [Bool.and_eq_true, decide_eq_true_eq] at h2
  have := right_in hr e he
  simp only [withinE, Bool.and_eq_true, decide_eq_true_eq] at this
  omega
theorem needsG_nats {N : Nat} {l : List GEdge} (hr : rightG (N : Int) l = true) (a : Int) :
    ∃ ys : List Nat, needsG (N : Int) l a = ys.map (fun y : Nat => (y : Int)) ∧ ys.Pairwise (· < ·) ∧ (∀ y : Nat, y ∈ ys ↔ hasL l a (y : Int) = true) ∧ ∀ y ∈ ys, y < N := by
  by_cases hk : okA (N : Int) l a
  · obtain ⟨-, h0, h1⟩ := hk
    obtain ⟨A, rfl⟩ : ∃ A : Nat, a = (A : Int) := ⟨a.toNat, by omega⟩
    obtain ⟨ys, q1, q2, q3, q4⟩ := needs_at hr A
    exact ⟨ys, by unfold needsG; rw [if_pos hr]; exact q1, q2, q3, fun y hy => by have := (hasL_in hr (q3 y |>.1 hy)).2; omega⟩
  · refine ⟨[], by rw [needsG_none hk]; rfl, List.Pairwise.nil, fun y => ⟨fun h => (by cases h), fun h => ?_⟩, fun y hy => (by cases hy)⟩
    exact absurd ⟨hr, (hasL_in hr h).1⟩ hk
def nextQ (pre : List Nat) : Nat := match pre.getLast? with
  | some y => y + 1
  | none => 0
theorem nextQ_snoc (pre : List Nat) (y : Nat) : nextQ (pre ++ [y]) = y + 1 := by simp [nextQ]
section
variable {N : Nat} {l : List GEdge} {a : Int} {ys : List Nat}
theorem need_gap (h1 : ys.Pairwise (· < ·)) (h2 : ∀ y : Nat, y ∈ ys ↔ hasL l a (y : Int) = true) (h3 : ∀ y ∈ ys, y < N) {pre post : List Nat} {y : Nat} (he : ys = pre ++ y :: post) :
    nextQ pre ≤ y ∧ y < N ∧ hasL l a (y : Int) = true ∧ ∀ j : Nat, nextQ pre ≤ j → j < y → hasL l a (j : Int) = false := by
  have hy : y ∈ ys := by rw [he]; simp
  have hp := h1
  rw [he, List.pairwise_append, List.pairwise_cons] at hp
  have hq : nextQ pre ≤ y ∧ ∀ z ∈ pre, z < nextQ pre := by
    rcases List.eq_nil_or_concat pre with rfl | ⟨p, z, rfl⟩
    · exact ⟨Nat.zero_le _, fun z hz => by cases hz⟩
    · rw [List.concat_eq_append, nextQ_snoc]
      rw [List.concat_eq_append] at hp
      refine ⟨hp.2.2 z (by simp) y (List.mem_cons_self ..), fun u hu => ?_⟩
      rcases List.mem_append.1 hu with hu | hu
      · have := (List.pairwise_append.1 hp.1).2.2 u hu z (by simp)
        omega
      · rw [List.mem_singleton.1 hu]; omega
  refine ⟨hq.1, h3 y hy, (h2 y).1 hy, fun j hj hjy => ?_⟩
  cases hh : hasL l a (j : Int) with
  | false => rfl
  | true =>
    exfalso
    have := (h2 j).2 hh
    rw [he, List.mem_append, List.mem_cons] at this
    rcases this with h | h | h
    · have := hq.2 j h; omega
    · omega
    · have := hp.2.1.1 j h; omega
theorem need_end (h1 : ys.Pairwise (· < ·)) (h2 : ∀ y : Nat, y ∈ ys ↔ hasL l a (y : Int) = true) (j : Nat) (hj : nextQ ys ≤ j) : hasL l a (j : Int) = false := by
  cases hh : hasL l a (j : Int) with
  | false => rfl
  | true =>
    exfalso
    have hm := (h2 j).2 hh
    rcases List.eq_nil_or_concat ys with rfl | ⟨p, z, rfl⟩
    · cases hm
    · rw [List.concat_eq_append] at *
      rw [nextQ_snoc] at hj
      rcases List.mem_append.1 hm with hu | hu
      · have := (List.pairwise_append.1 h1).2.2 j hu z (by simp)
        omega
      · rw [List.mem_singleton.1 hu] at hj; omega
end
theorem reach_same {N : Nat} {l : List GEdge} (hr : rightG (N : Int) l = true) (a : Int) : reachO (N : Int) l a = reachR N l a := by
  unfold reachO reachR
  split
  · rename_i hk
    obtain ⟨-, h0, h1⟩ := hk
    rw [Int.toNat_natCast]
    refine List.filter_congr fun b hb => ?_
    have hb2 := List.mem_range.1 hb
    unfold farI
    rw [if_pos ⟨⟨h0, h1⟩, by omega, by omega⟩, Int.toNat_natCast]
  · rename_i hk
    refine (List.filter_eq_nil_iff.2 fun b hb => ?_).symm
    unfold farI
    rw [if_neg (fun h => hk ⟨hr, h.1⟩)]
    simp
theorem path_no {N : Nat} {l : List GEdge} (hr : rightG (N : Int) l = true) {a b : Int} (h : ∀ y ∈ reachO (N : Int) l a, ((y : Nat) : Int) ≠ b) : pathR N l a b = [] := by
  unfold pathR
  split
  · rfl
  · rename_i hf
    exfalso
    obtain ⟨h1, h2⟩ := farI_in hf
    refine h b.toNat ?_ (by omega)
    rw [reach_same hr]
    unfold reachR
    rw [List.mem_filter]
    refine ⟨List.mem_range.2 (by omega), ?_⟩
    rw [show ((b.toNat : Nat) : Int) = b by omega]
    simp
    omega
theorem path_yes {N : Nat} {l : List GEdge} {a b : Int} {p : List Nat} (hp : PathW (N : Int) l a b p) (hm : b.toNat ∈ reachO (N : Int) l a) : pathR N l a b = a.toNat :: p := by
  obtain ⟨hk, -, -, -, h0, h1, he⟩ := hp
  obtain ⟨hr, ha0, ha1⟩ := hk
  rw [reach_same hr] at hm
  unfold reachR at hm
  have h2 := (List.mem_filter.1 hm).2
  rw [show ((b.toNat : Nat) : Int) = b by omega] at h2
  simp only [decide_eq_true_eq] at h2
  unfold pathR
  rw [if_neg (by omega), he]
  unfold farI
  rw [if_pos ⟨⟨ha0, ha1⟩, h0, h1⟩, Int.toNat_natCast]
theorem reach_bad {n : Int} {l : List GEdge} (hr : ¬ rightG n l = true) (a : Int) : reachO n l a = [] := by
  unfold reachO
  rw [if_neg (fun h => hr h.1)]
end Go.Proofs.YtgphngjniplonaaGreatDoor

namespace Go.Proofs.YtgphngjniplonaaGreatDoor
open Go.RowKit Go.Shelf
theorem nats_is {w : World} {base : Nat} {A : Option Addr} {n c : Nat} {l : List Nat} (h : w.ownsRow base 3 1 (.slice A n c) n (l.map natC)) (hl : l.length = n) (hn : n ≤ 1000) (hok : ∀ k ∈ l, k < 1000) : SliceIs Enc.int w w.heap.size A n c (l.map (fun x : Nat => (x : Int))) := by
  have e : l.map natC = (l.map (fun x : Nat => (x : Int))).flatMap (fun x : Int => [Value.int .i64 x]) := by
    clear h hl hn hok
    induction l with
    | nil => rfl
    | cons a r ih => simp only [List.map_cons, List.flatMap_cons, ih]; rfl
  rw [e] at h
  refine SliceIs.of_flat (E := Enc.int) (fun x : Int => [Value.int .i64 x]) (fun _ => rfl) h (by simp [hl]) (by simp [reachN]; omega) (fun q hq => ⟨rfl, ?_⟩)
  obtain ⟨k, hk, rfl⟩ := List.mem_map.1 hq
  have := hok k hk
  show (Lit.int .i64 (k : Int)).wf = true
  simp [Lit.wf, IntKind.min, IntKind.max, IntKind.signed, IntKind.bits]; omega
theorem greedy_in (N : Nat) (has : Nat → Nat → Bool) (b : Nat) (hb : b < N) : ∀ (d a y : Nat), y ∈ greedy N has b d a → y < N
  | 0, _, y, h => by simp [greedy] at h
  | 1, _, y, h => by simp [greedy] at h; omega
  | d + 2, a, y, h => by
    unfold greedy at h
    split at h
    · rename_i x hx
      rcases List.mem_cons.1 h with rfl | h
      · exact List.mem_range.1 (List.mem_of_find?_eq_some hx)
      · exact greedy_in N has b hb (d + 1) x y h
    · cases h
theorem pathR_len (N : Nat) (l : List GEdge) (a b : Int) : (pathR N l a b).length ≤ N + 1 := by
  unfold pathR
  split
  · simp
  · have h1 := greedy_len N (hasN l) b.toNat (farI N l a b) a.toNat
    have h2 := farI_le N l a b
    simp only [List.length_cons]
    omega
theorem pathR_lt {N : Nat} {l : List GEdge} {a b : Int} : ∀ y ∈ pathR N l a b, y < N := by
  intro y hy
  unfold pathR at hy
  split at hy
  · cases hy
  · rename_i hf
    obtain ⟨h1, h2⟩ := farI_in hf
    rcases List.mem_cons.1 hy with rfl | hy
    · omega
    · exact greedy_in N (hasN l) b.toNat (by omega) _ _ y hy
theorem reachR_lt {N : Nat} {l : List GEdge} {a : Int} : ∀ y ∈ reachR N l a, y < N := fun y hy => List.mem_range.1 (List.mem_filter.1 hy).1
theorem reachR_len (N : Nat) (l : List GEdge) (a : Int) : (reachR N l a).length ≤ N := by
  unfold reachR
  have := List.length_filter_le (fun b : Nat => decide (0 < farI N l a (b : Int))) (List.range N)
  simpa using this
section
variable {N : Nat} {l : List GEdge} (hr : rightG (N : Int) l = true) (hN : N ≤ 900) (A : Option Addr) (m c : Nat) (a b : Int) (w : World) (h : SliceIs Enc.edge w w.heap.size A m c l)
include hr hN h
theorem pathB_any : Calls Tryz.prog 23 #[graphV (N : Int) A m c, .int .i64 a, .int .i64 b] w (fun e w' => ∃ A' c', e = .returned (.tuple #[.slice A' (pathR N l a b).length c', .bool (decide (0 < (pathR N l a b).length))]) ∧ SliceIs Enc.int w' w'.heap.size A' (pathR N l a b).length c' ((pathR N l a b).map (fun x : Nat => (x : Int))) ∧ Below w.heap.size w w') := by
  refine (path_any (N : Int) a b A m c l w h).mono ?_
  rintro e w' ⟨hb, ⟨h1, rfl⟩ | ⟨g, c', p, h1, h2, rfl, h3⟩⟩
  · rw [path_no hr h1]
    exact ⟨none, 0, rfl, SliceIs.nil, hb⟩
  · have e := path_yes h1 h2
    have hl := pathR_len N l a b
    have hlt := pathR_lt (N := N) (l := l) (a := a) (b := b)
    rw [e] at hl hlt ⊢
    simp only [List.length_cons] at hl ⊢
    refine ⟨some ⟨g, 0, none⟩, c', by simp, nats_is h3 (by simp) (by omega) (fun k hk => by have := hlt k hk; omega), hb⟩
theorem reachB_any : Calls Tryz.prog 25 #[graphV (N : Int) A m c, .int .i64 a] w (fun e w' => ∃ A' c', e = .returned (.slice A' (reachR N l a).length c') ∧ SliceIs Enc.int w' w'.heap.size A' (reachR N l a).length c' ((reachR N l a).map (fun x : Nat => (x : Int))) ∧ Below w.heap.size w w') := by
  refine (reached_any (N : Int) a A m c l w h).mono ?_
  rintro e w' ⟨A', c', rfl, h3, hb⟩
  rw [reach_same hr] at h3 ⊢
  have := reachR_len N l a
  exact ⟨A', c', rfl, nats_is h3 rfl (by omega) (fun k hk => by have := reachR_lt k hk; omega), hb⟩
theorem refPathB_any : Calls Tryz.prog 27 #[.agg #[.int .i64 (N : Int), .slice A m c], .int .i64 a, .int .i64 b] w (fun e w' => ∃ A' c', e = .returned (.slice A' (pathR N l a b).length c') ∧ SliceIs Enc.int w' w'.heap.size A' (pathR N l a b).length c' ((pathR N l a b).map (fun x : Nat => (x : Int))) ∧ Below w.heap.size w w') := by
  refine (refPath_any N A m c l hr (by omega) a b w h).mono ?_
  rintro e w' ⟨A', c', rfl, h3, hb⟩
  have := pathR_len N l a b
  exact ⟨A', c', rfl, nats_is h3 rfl (by omega) (fun k hk => by have := pathR_lt k hk; omega), hb⟩
omit hr in
theorem refReachedB_any : Calls Tryz.prog 29 #[.agg #[.int .i64 (N : Int), .slice A m c], .int .i64 a] w (fun e w' => ∃ A' c', e = .returned (.slice A' (reachR N l a).length c') ∧ SliceIs Enc.int w' w'.heap.size A' (reachR N l a).length c' ((reachR N l a).map (fun x : Nat => (x : Int))) ∧ Below w.heap.size w w') := by
  refine (refReached_any N (by omega) A m c l a w h).mono ?_
  rintro e w' ⟨A', c', rfl, h3, hb⟩
  have := reachR_len N l a
  exact ⟨A', c', rfl, nats_is h3 rfl (by omega) (fun k hk => by have := reachR_lt k hk; omega), hb⟩
end
end Go.Proofs.YtgphngjniplonaaGreatDoor
