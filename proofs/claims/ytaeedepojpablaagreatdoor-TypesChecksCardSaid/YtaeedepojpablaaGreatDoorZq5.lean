/- My own texts LexN, as far as this claim needs them. -/
import Derived.Test.YtaeedepojpablaaGreatDoorZq4
import Derived.Deep.RegionWith
import Derived.Deep.RegionHeld3
set_option linter.unusedVariables false
set_option linter.unusedSimpArgs false
set_option maxRecDepth 1000000
set_option maxHeartbeats 16000000
namespace Go.Proofs.YtaeedepojpablaaGreatDoor
open Go.RowKit
def tokFrom (k : Nat) (l : List UInt8) : Int × Nat := match (signsL.drop k).find? (·.isPrefixOf l) with
 | some s => (5, s.length)
 | none => (0, 0)
theorem tokFrom_step {k : Nat} {p : List UInt8} (hp : signsL[k]? = some p) (l : List UInt8) : tokFrom k l = if p.isPrefixOf l then (5, p.length) else tokFrom (k + 1) l := by
 obtain ⟨h1, h2⟩ := List.getElem?_eq_some_iff.1 hp; unfold tokFrom; rw [List.drop_eq_getElem_cons h1, h2, List.find?_cons]; cases p.isPrefixOf l <;> rfl
theorem tokFrom_end (l : List UInt8) : tokFrom 14 l = (0, 0) := rfl
theorem set_three {W : World} {g e : Nat} {a b c x y z : Value} (h : W.heap[g]? = some (.cells #[a, b, c] e (0, 0))) : (((W.setCell ⟨g, 0, none⟩ x).setCell ⟨g, 1, none⟩ y).setCell ⟨g, 2, none⟩ z).heap[g]? = some (.cells #[x, y, z] e (0, 0)) := by
 simp [World.setCell, Array.getElem?_modify, h]
theorem three_facts {W : World} {g e : Nat} {a b c : Value} (h : W.heap[g]? = some (.cells #[a, b, c] e (0, 0))) : W.cell? ⟨g, 0, none⟩ = some a ∧ W.cell? ⟨g, 1, none⟩ = some b ∧ W.cell? ⟨g, 2, none⟩ = some c ∧ W.frozen? ⟨g, 0, none⟩ = false ∧ W.frozen? ⟨g, 1, none⟩ = false ∧ W.frozen? ⟨g, 2, none⟩ = false :=
 ⟨(cell_of_row _ _ 0 _ _ _ h).trans rfl, (cell_of_row _ _ 1 _ _ _ h).trans rfl, (cell_of_row _ _ 2 _ _ _ h).trans rfl, frozen_of_row _ _ 0 _ _ h, frozen_of_row _ _ 1 _ _ h, frozen_of_row _ _ 2 _ _ h⟩
theorem below_three {w W : World} {g : Nat} {x y z : Value} (h : Below w.heap.size w W) (hg : w.heap.size ≤ g) : Below w.heap.size w (((W.setCell ⟨g, 0, none⟩ x).setCell ⟨g, 1, none⟩ y).setCell ⟨g, 2, none⟩ z) := ((h.setCell hg _).setCell hg _).setCell hg _
def tokV (l : List UInt8) : Value := .agg #[.int .i64 (tokL wordK l).1, .string (bytes (l.take (tokL wordK l).2)), .int .i64 0]
theorem bytes_pref {p l : List UInt8} (h : p.isPrefixOf l = true) : bytes (l.take p.length) = ⟨p.toArray⟩ := by
 rw [← List.prefix_iff_eq_take.1 (List.isPrefixOf_iff_prefix.1 h)]; rfl
theorem sign_0 (w : World) : (Instr.index 258 (.agg #[.string ⟨#[58, 45]⟩, .string ⟨#[33, 61]⟩, .string ⟨#[60, 61]⟩, .string ⟨#[62, 61]⟩, .string ⟨#[40]⟩, .string ⟨#[41]⟩, .string ⟨#[44]⟩, .string ⟨#[46]⟩, .string ⟨#[61]⟩, .string ⟨#[60]⟩, .string ⟨#[62]⟩, .string ⟨#[43]⟩, .string ⟨#[45]⟩, .string ⟨#[42]⟩]) (.int .i64 0)).run Tryz.prog w = .ok (.string ⟨#[58, 45]⟩) w := by kernel_rfl
theorem sign_1 (w : World) : (Instr.index 258 (.agg #[.string ⟨#[58, 45]⟩, .string ⟨#[33, 61]⟩, .string ⟨#[60, 61]⟩, .string ⟨#[62, 61]⟩, .string ⟨#[40]⟩, .string ⟨#[41]⟩, .string ⟨#[44]⟩, .string ⟨#[46]⟩, .string ⟨#[61]⟩, .string ⟨#[60]⟩, .string ⟨#[62]⟩, .string ⟨#[43]⟩, .string ⟨#[45]⟩, .string ⟨#[42]⟩]) (.int .i64 1)).run Tryz.prog w = .ok (.string ⟨#[33, 61]⟩) w := by kernel_rfl
theorem sign_2 (w : World) : (Instr.index 258 (.agg #[.string ⟨#[58, 45]⟩, .string ⟨#[33, 61]⟩, .string ⟨#[60, 61]⟩, .string ⟨#[62, 61]⟩, .string ⟨#[40]⟩, .string ⟨#[41]⟩, .string ⟨#[44]⟩, .string ⟨#[46]⟩, .string ⟨#[61]⟩, .string ⟨#[60]⟩, .string ⟨#[62]⟩, .string ⟨#[43]⟩, .string ⟨#[45]⟩, .string ⟨#[42]⟩]) (.int .i64 2)).run Tryz.prog w = .ok (.string ⟨#[60, 61]⟩) w := by kernel_rfl
theorem sign_3 (w : World) : (Instr.index 258 (.agg #[.string ⟨#[58, 45]⟩, .string ⟨#[33, 61]⟩, .string ⟨#[60, 61]⟩, .string ⟨#[62, 61]⟩, .string ⟨#[40]⟩, .string ⟨#[41]⟩, .string ⟨#[44]⟩, .string ⟨#[46]⟩, .string ⟨#[61]⟩, .string ⟨#[60]⟩, .string ⟨#[62]⟩, .string ⟨#[43]⟩, .string ⟨#[45]⟩, .string ⟨#[42]⟩]) (.int .i64 3)).run Tryz.prog w = .ok (.string ⟨#[62, 61]⟩) w := by kernel_rfl
theorem sign_4 (w : World) : (Instr.index 258 (.agg #[.string ⟨#[58, 45]⟩, .string ⟨#[33, 61]⟩, .string ⟨#[60, 61]⟩, .string ⟨#[62, 61]⟩, .string ⟨#[40]⟩, .string ⟨#[41]⟩, .string ⟨#[44]⟩, .string ⟨#[46]⟩, .string ⟨#[61]⟩, .string ⟨#[60]⟩, .string ⟨#[62]⟩, .string ⟨#[43]⟩, .string ⟨#[45]⟩, .string ⟨#[42]⟩]) (.int .i64 4)).run Tryz.prog w = .ok (.string ⟨#[40]⟩) w := by kernel_rfl
theorem sign_5 (w : World) : (Instr.index 258 (.agg #[.string ⟨#[58, 45]⟩, .string ⟨#[33, 61]⟩, .string ⟨#[60, 61]⟩, .string ⟨#[62, 61]⟩, .string ⟨#[40]⟩, .string ⟨#[41]⟩, .string ⟨#[44]⟩, .string ⟨#[46]⟩, .string ⟨#[61]⟩, .string ⟨#[60]⟩, .string ⟨#[62]⟩, .string ⟨#[43]⟩, .string ⟨#[45]⟩, .string ⟨#[42]⟩]) (.int .i64 5)).run Tryz.prog w = .ok (.string ⟨#[41]⟩) w := by kernel_rfl
theorem sign_6 (w : World) : (Instr.index 258 (.agg #[.string ⟨#[58, 45]⟩, .string ⟨#[33, 61]⟩, .string ⟨#[60, 61]⟩, .string ⟨#[62, 61]⟩, .string ⟨#[40]⟩, .string ⟨#[41]⟩, .string ⟨#[44]⟩, .string ⟨#[46]⟩, .string ⟨#[61]⟩, .string ⟨#[60]⟩, .string ⟨#[62]⟩, .string ⟨#[43]⟩, .string ⟨#[45]⟩, .string ⟨#[42]⟩]) (.int .i64 6)).run Tryz.prog w = .ok (.string ⟨#[44]⟩) w := by kernel_rfl
theorem sign_7 (w : World) : (Instr.index 258 (.agg #[.string ⟨#[58, 45]⟩, .string ⟨#[33, 61]⟩, .string ⟨#[60, 61]⟩, .string ⟨#[62, 61]⟩, .string ⟨#[40]⟩, .string ⟨#[41]⟩, .string ⟨#[44]⟩, .string ⟨#[46]⟩, .string ⟨#[61]⟩, .string ⟨#[60]⟩, .string ⟨#[62]⟩, .string ⟨#[43]⟩, .string ⟨#[45]⟩, .string ⟨#[42]⟩]) (.int .i64 7)).run Tryz.prog w = .ok (.string ⟨#[46]⟩) w := by kernel_rfl
theorem sign_8 (w : World) : (Instr.index 258 (.agg #[.string ⟨#[58, 45]⟩, .string ⟨#[33, 61]⟩, .string ⟨#[60, 61]⟩, .string ⟨#[62, 61]⟩, .string ⟨#[40]⟩, .string ⟨#[41]⟩, .string ⟨#[44]⟩, .string ⟨#[46]⟩, .string ⟨#[61]⟩, .string ⟨#[60]⟩, .string ⟨#[62]⟩, .string ⟨#[43]⟩, .string ⟨#[45]⟩, .string ⟨#[42]⟩]) (.int .i64 8)).run Tryz.prog w = .ok (.string ⟨#[61]⟩) w := by kernel_rfl
theorem sign_9 (w : World) : (Instr.index 258 (.agg #[.string ⟨#[58, 45]⟩, .string ⟨#[33, 61]⟩, .string ⟨#[60, 61]⟩, .string ⟨#[62, 61]⟩, .string ⟨#[40]⟩, .string ⟨#[41]⟩, .string ⟨#[44]⟩, .string ⟨#[46]⟩, .string ⟨#[61]⟩, .string ⟨#[60]⟩, .string ⟨#[62]⟩, .string ⟨#[43]⟩, .string ⟨#[45]⟩, .string ⟨#[42]⟩]) (.int .i64 9)).run Tryz.prog w = .ok (.string ⟨#[60]⟩) w := by kernel_rfl
theorem sign_10 (w : World) : (Instr.index 258 (.agg #[.string ⟨#[58, 45]⟩, .string ⟨#[33, 61]⟩, .string ⟨#[60, 61]⟩, .string ⟨#[62, 61]⟩, .string ⟨#[40]⟩, .string ⟨#[41]⟩, .string ⟨#[44]⟩, .string ⟨#[46]⟩, .string ⟨#[61]⟩, .string ⟨#[60]⟩, .string ⟨#[62]⟩, .string ⟨#[43]⟩, .string ⟨#[45]⟩, .string ⟨#[42]⟩]) (.int .i64 10)).run Tryz.prog w = .ok (.string ⟨#[62]⟩) w := by kernel_rfl
theorem sign_11 (w : World) : (Instr.index 258 (.agg #[.string ⟨#[58, 45]⟩, .string ⟨#[33, 61]⟩, .string ⟨#[60, 61]⟩, .string ⟨#[62, 61]⟩, .string ⟨#[40]⟩, .string ⟨#[41]⟩, .string ⟨#[44]⟩, .string ⟨#[46]⟩, .string ⟨#[61]⟩, .string ⟨#[60]⟩, .string ⟨#[62]⟩, .string ⟨#[43]⟩, .string ⟨#[45]⟩, .string ⟨#[42]⟩]) (.int .i64 11)).run Tryz.prog w = .ok (.string ⟨#[43]⟩) w := by kernel_rfl
theorem sign_12 (w : World) : (Instr.index 258 (.agg #[.string ⟨#[58, 45]⟩, .string ⟨#[33, 61]⟩, .string ⟨#[60, 61]⟩, .string ⟨#[62, 61]⟩, .string ⟨#[40]⟩, .string ⟨#[41]⟩, .string ⟨#[44]⟩, .string ⟨#[46]⟩, .string ⟨#[61]⟩, .string ⟨#[60]⟩, .string ⟨#[62]⟩, .string ⟨#[43]⟩, .string ⟨#[45]⟩, .string ⟨#[42]⟩]) (.int .i64 12)).run Tryz.prog w = .ok (.string ⟨#[45]⟩) w := by kernel_rfl
theorem sign_13 (w : World) : (Instr.index 258 (.agg #[.string ⟨#[58, 45]⟩, .string ⟨#[33, 61]⟩, .string ⟨#[60, 61]⟩, .string ⟨#[62, 61]⟩, .string ⟨#[40]⟩, .string ⟨#[41]⟩, .string ⟨#[44]⟩, .string ⟨#[46]⟩, .string ⟨#[61]⟩, .string ⟨#[60]⟩, .string ⟨#[62]⟩, .string ⟨#[43]⟩, .string ⟨#[45]⟩, .string ⟨#[42]⟩]) (.int .i64 13)).run Tryz.prog w = .ok (.string ⟨#[42]⟩) w := by kernel_rfl
theorem head_ins {l : List UInt8} (h : 0 < runL l) : ∃ c r, l = c :: r ∧ insB c = true := by
 cases l with
 | nil => simp [runL] at h
 | cons c r =>
   refine ⟨c, r, rfl, ?_⟩; unfold runL at h; rw [List.takeWhile_cons] at h; cases hc : insB c with
   | true => rfl
   | false => rw [hc] at h; simp at h
theorem ins_45 {c : UInt8} (h : insB c = true) : c ≠ 45 := by rintro rfl; revert h; decide
theorem next_any (s : ByteArray) (hs : s.size ≤ 140737488351232) (h1 : 1 ≤ s.size) (w : World) (hW : LexW w) : Calls Tryz.prog 130 #[.string s] w (fun e w' => e = .returned (tokV s.toList) ∧ Below w.heap.size w w') := by
 have HW := hZ9 hW; have Hlen := hZ9 (ba_len s); have hrl : runL s.toList ≤ s.size := by have := runL_le s.toList; rw [ba_len] at this; exact this
 have HR := hZ9 (fun w => run_any s hs w); have Hh := hZ9 (ba_head h1); have h1n : (0 : Int) < (s.size : Int) := by omega
 by_cases hA : 0 < runL s.toList ∧ s.toList.head? ≠ some 95
 ·have hV : Hid (tokV s.toList = .agg #[.int .i64 (wordK (s.toList.take (runL s.toList))), .string (bytes (s.toList.take (runL s.toList))), .int .i64 0]) := by
   show _ = _; unfold tokV tokL; rw [if_pos hA]
  obtain ⟨n, Hn⟩ : ∃ n, Hid (n = runL s.toList) := ⟨_, rfl⟩
  rw [← Hn.out] at hrl HR hV hA; obtain ⟨hA1, hA2⟩ := hA
  have z1 : (((s[0]'h1).toNat : Int) != 95) = true := by
   rw [Hh.out] at hA2; simp only [bne_iff_ne, ne_eq]; intro h; apply hA2; have h2 : (s[0]'h1).toNat = 95 := by omega
   rw [show (s[0]'h1) = 95 from UInt8.toNat_inj.1 (by rw [h2]; rfl)]
  have z2 : (0 : Int) < (n : Int) := by omega
  have z3 : (0 : Int) ≤ (n : Int) := by omega
  have z4 : (n : Int) ≤ (s.size : Int) := by omega
  have HX : Hid ((s.extract 0 n).toList = s.toList.take n) := ba_take s n; have hxs : (s.extract 0 n).size = n := by rw [← ba_len, HX.out, List.length_take, Hlen.out]; omega
  have hx45 : (s.extract 0 n).toList.head? ≠ some 45 := by
   rw [HX.out]; obtain ⟨c, r, hc, hi⟩ := head_ins (l := s.toList) (by rw [← Hn.out]; exact hA1); obtain ⟨m, rfl⟩ : ∃ m, n = m + 1 := ⟨n - 1, by omega⟩
   rw [hc, List.take_succ_cons]; simp; exact ins_45 hi
  have HWd := hZ9 (fun (W : World) (hb : Below w.heap.size w W) => word_any (s.extract 0 n) (by omega) (by omega) hx45 W (HW.out.on hb)); have HB : Hid (s.extract 0 n = bytes (s.toList.take n)) := ba_eq HX.out; rw [HX.out] at HWd; rw [hV.out]; generalize wordK (s.toList.take n) = q at *; rw [← HB.out]; clear hA2 hV hW hx45; go_enter Tryz.func130, Tryz.ntmps130
  go_wp2_with fail
  refine (HR.out _).mono ?_; rintro e w1 ⟨rfl, rfl⟩; have hba : Below w.heap.size w (w.alloc (.cells #[.int .i64 0, .string ⟨#[]⟩, .int .i64 0] 178)) := belowA (Below.refl _ _) _; have hra : (w.alloc (.cells #[.int .i64 0, .string ⟨#[]⟩, .int .i64 0] 178)).heap[w.heap.size]? = some (.cells #[.int .i64 0, .string ⟨#[]⟩, .int .i64 0] 178 (0, 0)) := heapNew rfl; have hz : w.heap.size < (w.alloc (.cells #[.int .i64 0, .string ⟨#[]⟩, .int .i64 0] 178)).heap.size := by simp
  go_wp2_with fail
  generalize (w.alloc (.cells #[.int .i64 0, .string ⟨#[]⟩, .int .i64 0] 178)) = w1 at *
  go_region_with ((first
   | (go_at_call 165
      with_reducible refine (HWd.out _ ?s1).mono ?_
      case s1 => repeat (first | with_reducible assumption | with_reducible refine Below.drew ?_)
      rintro e w3 ⟨rfl, hq3⟩; have r3 : w3.heap[w.heap.size]? = some (.cells #[.int .i64 0, .string ⟨#[]⟩, .int .i64 0] 178 (0, 0)) := (hq3.block _ hz).trans hra; have hb3 : Below w.heap.size w w3 := below_next (Below.drew hba) hq3; have f0 : w3.frozen? ⟨w.heap.size, 0, none⟩ = false := frozen_of_row _ _ _ _ _ r3; have f1 : w3.frozen? ⟨w.heap.size, 1, none⟩ = false := frozen_of_row _ _ _ _ _ r3; have f2 : w3.frozen? ⟨w.heap.size, 2, none⟩ = false := frozen_of_row _ _ _ _ _ r3; have y0 : w3.cell? ⟨w.heap.size, 0, none⟩ = some (.int .i64 0) := (cell_of_row _ _ 0 _ _ _ r3).trans rfl; have y1 : w3.cell? ⟨w.heap.size, 1, none⟩ = some (.string ⟨#[]⟩) := (cell_of_row _ _ 1 _ _ _ r3).trans rfl
      have y2 : w3.cell? ⟨w.heap.size, 2, none⟩ = some (.int .i64 0) := (cell_of_row _ _ 2 _ _ _ r3).trans rfl)))
  obtain ⟨x0, x1, x2, -, -, -⟩ := three_facts (set_three (x := .int .i64 q) (y := .string (s.extract 0 n)) (z := .int .i64 0) r3); have hbe := below_three (x := .int .i64 q) (y := .string (s.extract 0 n)) (z := .int .i64 0) hb3 (Nat.le_refl _); clear f0 f1 f2 y0 y1 y2 r3 hb3 HWd; go_wp2_with fail
  exact bodyPost_ret (v := .agg #[.int .i64 q, .string (s.extract 0 n), .int .i64 0]) (by simp [results, Tryz.results130, go_sem, x0, x1, x2]) rfl ⟨rfl, hbe⟩
 ·have hV : Hid (tokL wordK s.toList = tokFrom 0 s.toList) := by
   show _ = _; unfold tokL; rw [if_neg hA]; rfl
  have hP : Hid (∀ p w, Calls Tryz.prog 166 #[.string s, .string p] w (fun e w' => e = .returned (.bool (p.toList.isPrefixOf s.toList)) ∧ w' = w)) := by
   intro p w; refine (Tryz.strings_HasPrefix s p w).mono ?_; rintro e w1 ⟨rfl, rfl⟩; rw [← ByteArray.toList_eq, ← ByteArray.toList_eq]; exact ⟨rfl, rfl⟩
  obtain ⟨ts, fr, hS⟩ := hW.signs; have HS := hZ9 hS; have hgw : 1 < w.heap.size := (glt hS)
  obtain ⟨Q, HQ⟩ : ∃ Q, Hid (Q = tokL wordK s.toList) := ⟨_, rfl⟩
  have hT : tokV s.toList = .agg #[.int .i64 Q.1, .string (bytes (s.toList.take Q.2)), .int .i64 0] := by rw [HQ.out]; rfl
  rw [hT]; rw [← HQ.out] at hV; clear hT hS hW hrl; go_enter Tryz.func130, Tryz.ntmps130
  go_wp2_with fail
  refine (HR.out _).mono ?_; rintro e w1 ⟨rfl, rfl⟩; have hba : Below w.heap.size w (w.alloc (.cells #[.int .i64 0, .string ⟨#[]⟩, .int .i64 0] 178)) := belowA (Below.refl _ _) _; have hra : (w.alloc (.cells #[.int .i64 0, .string ⟨#[]⟩, .int .i64 0] 178)).heap[w.heap.size]? = some (.cells #[.int .i64 0, .string ⟨#[]⟩, .int .i64 0] 178 (0, 0)) := heapNew rfl; have hS1 := (hba.block _ hgw).trans HS.out; have hP1 := hZ9 (fun p => hP.out p (w.alloc (.cells #[.int .i64 0, .string ⟨#[]⟩, .int .i64 0] 178))); generalize (w.alloc (.cells #[.int .i64 0, .string ⟨#[]⟩, .int .i64 0] 178)) = w1 at *; have s0 : w1.cell? ⟨1, 0, none⟩ = some (.string ⟨#[58, 45]⟩) := (cell_of_row _ _ 0 _ _ _ hS1).trans rfl; have s1 : w1.cell? ⟨1, 1, none⟩ = some (.string ⟨#[33, 61]⟩) := (cell_of_row _ _ 1 _ _ _ hS1).trans rfl; have s2 : w1.cell? ⟨1, 2, none⟩ = some (.string ⟨#[60, 61]⟩) := (cell_of_row _ _ 2 _ _ _ hS1).trans rfl; have s3 : w1.cell? ⟨1, 3, none⟩ = some (.string ⟨#[62, 61]⟩) := (cell_of_row _ _ 3 _ _ _ hS1).trans rfl; have s4 : w1.cell? ⟨1, 4, none⟩ = some (.string ⟨#[40]⟩) := (cell_of_row _ _ 4 _ _ _ hS1).trans rfl; have s5 : w1.cell? ⟨1, 5, none⟩ = some (.string ⟨#[41]⟩) := (cell_of_row _ _ 5 _ _ _ hS1).trans rfl; have s6 : w1.cell? ⟨1, 6, none⟩ = some (.string ⟨#[44]⟩) := (cell_of_row _ _ 6 _ _ _ hS1).trans rfl; have s7 : w1.cell? ⟨1, 7, none⟩ = some (.string ⟨#[46]⟩) := (cell_of_row _ _ 7 _ _ _ hS1).trans rfl; have s8 : w1.cell? ⟨1, 8, none⟩ = some (.string ⟨#[61]⟩) := (cell_of_row _ _ 8 _ _ _ hS1).trans rfl; have s9 : w1.cell? ⟨1, 9, none⟩ = some (.string ⟨#[60]⟩) := (cell_of_row _ _ 9 _ _ _ hS1).trans rfl; have s10 : w1.cell? ⟨1, 10, none⟩ = some (.string ⟨#[62]⟩) := (cell_of_row _ _ 10 _ _ _ hS1).trans rfl; have s11 : w1.cell? ⟨1, 11, none⟩ = some (.string ⟨#[43]⟩) := (cell_of_row _ _ 11 _ _ _ hS1).trans rfl; have s12 : w1.cell? ⟨1, 12, none⟩ = some (.string ⟨#[45]⟩) := (cell_of_row _ _ 12 _ _ _ hS1).trans rfl; have s13 : w1.cell? ⟨1, 13, none⟩ = some (.string ⟨#[42]⟩) := (cell_of_row _ _ 13 _ _ _ hS1).trans rfl; obtain ⟨y0, y1, y2, f0, f1, f2⟩ := three_facts hra; obtain ⟨n, Hn⟩ : ∃ n, Hid (n = runL s.toList) := ⟨_, rfl⟩
  rw [← Hn.out]
  have hcase : (¬ (0 : Int) < (n : Int)) ∨ ((0 : Int) < (n : Int) ∧ (((s[0]'h1).toNat : Int) != 95) = false) := by
   by_cases h0 : 0 < n
   ·right
    refine ⟨by omega, ?_⟩; rw [Hn.out] at h0
    have h2 : s.toList.head? = some 95 := by
     by_cases h2 : s.toList.head? = some 95
     ·exact h2
     ·exact absurd ⟨h0, h2⟩ hA
    rw [Hh.out] at h2; injection h2 with h2
    rw [h2]; rfl
   ·left; omega
  have HRa := hZ9 hra; clear hA hS1 hra HR hP; rcases hcase with z2 | ⟨z2, z1⟩
  all_goals
   go_wp2_with fail
   go_loop [5, 24] (fun _ i => ∃ k : Nat, k ≤ 14 ∧ i = .int .i64 k ∧ Hid (Q = tokFrom k s.toList)) (fun _ i => 14 - (intOf i).toNat)
   case atStart => exact ⟨0, by omega, rfl, hV⟩
   case round =>
    obtain ⟨k, hk, rfl, HK⟩ := hrel; have i0 : (0 : Int) ≤ (k : Int) := by omega
    by_cases hlt : k < 14
    ·rcases (by omega : k = 0 ∨ k = 1 ∨ k = 2 ∨ k = 3 ∨ k = 4 ∨ k = 5 ∨ k = 6 ∨ k = 7 ∨ k = 8 ∨ k = 9 ∨ k = 10 ∨ k = 11 ∨ k = 12 ∨ k = 13) with rfl | rfl | rfl | rfl | rfl | rfl | rfl | rfl | rfl | rfl | rfl | rfl | rfl | rfl
     ·have hst : Hid (Q = if ([58, 45] : List UInt8).isPrefixOf s.toList then (5, 2) else tokFrom 1 s.toList) := by show _ = _; rw [HK.out]; exact tokFrom_step rfl _
      have hix := sign_0; have hp := hP1.out ⟨#[58, 45]⟩; rw [show (⟨#[58, 45]⟩ : ByteArray).toList = [58, 45] from toList_mk _] at hp; have HPb := hZ9 (bytes_pref (p := [58, 45]) (l := s.toList)); generalize hb : ([58, 45] : List UInt8).isPrefixOf s.toList = bb at *; cases bb with
      | true =>
        have HQ5 : Hid (Q = (5, 2)) := by show _ = _; rw [hst.out]; rfl
        have HPx := hZ9 (HPb.out rfl); obtain ⟨x0, x1, x2, -, -, -⟩ := three_facts (set_three (x := .int .i64 5) (y := .string ⟨#[58, 45]⟩) (z := .int .i64 0) HRa.out); have hbe := below_three (x := .int .i64 5) (y := .string ⟨#[58, 45]⟩) (z := .int .i64 0) hba (Nat.le_refl _); clear HK HQ hV hst hb HPb; go_wp2_with fail
        refine hp.mono ?_; rintro e w2 ⟨rfl, rfl⟩; go_wp2_with fail
        exact bodyPost_ret (v := .agg #[.int .i64 5, .string ⟨#[58, 45]⟩, .int .i64 0]) (by simp [results, Tryz.results130, go_sem, x0, x1, x2]) rfl ⟨by rw [HQ5.out]; show _ = Ending.returned (.agg #[.int .i64 5, .string (bytes (s.toList.take 2)), .int .i64 0]); rw [show bytes (s.toList.take 2) = ⟨#[58, 45]⟩ from HPx.out], hbe⟩
      | false =>
        have HQ5 : Hid (Q = tokFrom 1 s.toList) := by show _ = _; rw [hst.out]; rfl
        clear HK HQ hV hst hb HPb; go_wp2_with fail
        refine hp.mono ?_; rintro e w2 ⟨rfl, rfl⟩; go_wp2_with fail
        go_round
        case rel => exact ⟨1, by omega, by go_num, HQ5⟩
        case measure => simp [intOf]
     ·have hst : Hid (Q = if ([33, 61] : List UInt8).isPrefixOf s.toList then (5, 2) else tokFrom 2 s.toList) := by show _ = _; rw [HK.out]; exact tokFrom_step rfl _
      have hix := sign_1; have hp := hP1.out ⟨#[33, 61]⟩; rw [show (⟨#[33, 61]⟩ : ByteArray).toList = [33, 61] from toList_mk _] at hp; have HPb := hZ9 (bytes_pref (p := [33, 61]) (l := s.toList)); generalize hb : ([33, 61] : List UInt8).isPrefixOf s.toList = bb at *; cases bb with
      | true =>
        have HQ5 : Hid (Q = (5, 2)) := by show _ = _; rw [hst.out]; rfl
        have HPx := hZ9 (HPb.out rfl); obtain ⟨x0, x1, x2, -, -, -⟩ := three_facts (set_three (x := .int .i64 5) (y := .string ⟨#[33, 61]⟩) (z := .int .i64 0) HRa.out); have hbe := below_three (x := .int .i64 5) (y := .string ⟨#[33, 61]⟩) (z := .int .i64 0) hba (Nat.le_refl _); clear HK HQ hV hst hb HPb; go_wp2_with fail
        refine hp.mono ?_; rintro e w2 ⟨rfl, rfl⟩; go_wp2_with fail
        exact bodyPost_ret (v := .agg #[.int .i64 5, .string ⟨#[33, 61]⟩, .int .i64 0]) (by simp [results, Tryz.results130, go_sem, x0, x1, x2]) rfl ⟨by rw [HQ5.out]; show _ = Ending.returned (.agg #[.int .i64 5, .string (bytes (s.toList.take 2)), .int .i64 0]); rw [show bytes (s.toList.take 2) = ⟨#[33, 61]⟩ from HPx.out], hbe⟩
      | false =>
        have HQ5 : Hid (Q = tokFrom 2 s.toList) := by show _ = _; rw [hst.out]; rfl
        clear HK HQ hV hst hb HPb; go_wp2_with fail
        refine hp.mono ?_; rintro e w2 ⟨rfl, rfl⟩; go_wp2_with fail
        go_round
        case rel => exact ⟨2, by omega, by go_num, HQ5⟩
        case measure => simp [intOf]
     ·have hst : Hid (Q = if ([60, 61] : List UInt8).isPrefixOf s.toList then (5, 2) else tokFrom 3 s.toList) := by show _ = _; rw [HK.out]; exact tokFrom_step rfl _
      have hix := sign_2; have hp := hP1.out ⟨#[60, 61]⟩; rw [show (⟨#[60, 61]⟩ : ByteArray).toList = [60, 61] from toList_mk _] at hp; have HPb := hZ9 (bytes_pref (p := [60, 61]) (l := s.toList)); generalize hb : ([60, 61] : List UInt8).isPrefixOf s.toList = bb at *; cases bb with
      | true =>
        have HQ5 : Hid (Q = (5, 2)) := by show _ = _; rw [hst.out]; rfl
        have HPx := hZ9 (HPb.out rfl); obtain ⟨x0, x1, x2, -, -, -⟩ := three_facts (set_three (x := .int .i64 5) (y := .string ⟨#[60, 61]⟩) (z := .int .i64 0) HRa.out); have hbe := below_three (x := .int .i64 5) (y := .string ⟨#[60, 61]⟩) (z := .int .i64 0) hba (Nat.le_refl _); clear HK HQ hV hst hb HPb; go_wp2_with fail
        refine hp.mono ?_; rintro e w2 ⟨rfl, rfl⟩; go_wp2_with fail
        exact bodyPost_ret (v := .agg #[.int .i64 5, .string ⟨#[60, 61]⟩, .int .i64 0]) (by simp [results, Tryz.results130, go_sem, x0, x1, x2]) rfl ⟨by rw [HQ5.out]; show _ = Ending.returned (.agg #[.int .i64 5, .string (bytes (s.toList.take 2)), .int .i64 0]); rw [show bytes (s.toList.take 2) = ⟨#[60, 61]⟩ from HPx.out], hbe⟩
      | false =>
        have HQ5 : Hid (Q = tokFrom 3 s.toList) := by show _ = _; rw [hst.out]; rfl
        clear HK HQ hV hst hb HPb; go_wp2_with fail
        refine hp.mono ?_; rintro e w2 ⟨rfl, rfl⟩; go_wp2_with fail
        go_round
        case rel => exact ⟨3, by omega, by go_num, HQ5⟩
        case measure => simp [intOf]
     ·have hst : Hid (Q = if ([62, 61] : List UInt8).isPrefixOf s.toList then (5, 2) else tokFrom 4 s.toList) := by show _ = _; rw [HK.out]; exact tokFrom_step rfl _
      have hix := sign_3; have hp := hP1.out ⟨#[62, 61]⟩; rw [show (⟨#[62, 61]⟩ : ByteArray).toList = [62, 61] from toList_mk _] at hp; have HPb := hZ9 (bytes_pref (p := [62, 61]) (l := s.toList)); generalize hb : ([62, 61] : List UInt8).isPrefixOf s.toList = bb at *; cases bb with
      | true =>
        have HQ5 : Hid (Q = (5, 2)) := by show _ = _; rw [hst.out]; rfl
        have HPx := hZ9 (HPb.out rfl); obtain ⟨x0, x1, x2, -, -, -⟩ := three_facts (set_three (x := .int .i64 5) (y := .string ⟨#[62, 61]⟩) (z := .int .i64 0) HRa.out); have hbe := below_three (x := .int .i64 5) (y := .string ⟨#[62, 61]⟩) (z := .int .i64 0) hba (Nat.le_refl _); clear HK HQ hV hst hb HPb; go_wp2_with fail
        refine hp.mono ?_; rintro e w2 ⟨rfl, rfl⟩; go_wp2_with fail
        exact bodyPost_ret (v := .agg #[.int .i64 5, .string ⟨#[62, 61]⟩, .int .i64 0]) (by simp [results, Tryz.results130, go_sem, x0, x1, x2]) rfl ⟨by rw [HQ5.out]; show _ = Ending.returned (.agg #[.int .i64 5, .string (bytes (s.toList.take 2)), .int .i64 0]); rw [show bytes (s.toList.take 2) = ⟨#[62, 61]⟩ from HPx.out], hbe⟩
      | false =>
        have HQ5 : Hid (Q = tokFrom 4 s.toList) := by show _ = _; rw [hst.out]; rfl
        clear HK HQ hV hst hb HPb; go_wp2_with fail
        refine hp.mono ?_; rintro e w2 ⟨rfl, rfl⟩; go_wp2_with fail
        go_round
        case rel => exact ⟨4, by omega, by go_num, HQ5⟩
        case measure => simp [intOf]
     ·have hst : Hid (Q = if ([40] : List UInt8).isPrefixOf s.toList then (5, 1) else tokFrom 5 s.toList) := by show _ = _; rw [HK.out]; exact tokFrom_step rfl _
      have hix := sign_4; have hp := hP1.out ⟨#[40]⟩; rw [show (⟨#[40]⟩ : ByteArray).toList = [40] from toList_mk _] at hp; have HPb := hZ9 (bytes_pref (p := [40]) (l := s.toList)); generalize hb : ([40] : List UInt8).isPrefixOf s.toList = bb at *; cases bb with
      | true =>
        have HQ5 : Hid (Q = (5, 1)) := by show _ = _; rw [hst.out]; rfl
        have HPx := hZ9 (HPb.out rfl); obtain ⟨x0, x1, x2, -, -, -⟩ := three_facts (set_three (x := .int .i64 5) (y := .string ⟨#[40]⟩) (z := .int .i64 0) HRa.out); have hbe := below_three (x := .int .i64 5) (y := .string ⟨#[40]⟩) (z := .int .i64 0) hba (Nat.le_refl _); clear HK HQ hV hst hb HPb; go_wp2_with fail
        refine hp.mono ?_; rintro e w2 ⟨rfl, rfl⟩; go_wp2_with fail
        exact bodyPost_ret (v := .agg #[.int .i64 5, .string ⟨#[40]⟩, .int .i64 0]) (by simp [results, Tryz.results130, go_sem, x0, x1, x2]) rfl ⟨by rw [HQ5.out]; show _ = Ending.returned (.agg #[.int .i64 5, .string (bytes (s.toList.take 1)), .int .i64 0]); rw [show bytes (s.toList.take 1) = ⟨#[40]⟩ from HPx.out], hbe⟩
      | false =>
        have HQ5 : Hid (Q = tokFrom 5 s.toList) := by show _ = _; rw [hst.out]; rfl
        clear HK HQ hV hst hb HPb; go_wp2_with fail
        refine hp.mono ?_; rintro e w2 ⟨rfl, rfl⟩; go_wp2_with fail
        go_round
        case rel => exact ⟨5, by omega, by go_num, HQ5⟩
        case measure => simp [intOf]
     ·have hst : Hid (Q = if ([41] : List UInt8).isPrefixOf s.toList then (5, 1) else tokFrom 6 s.toList) := by show _ = _; rw [HK.out]; exact tokFrom_step rfl _
      have hix := sign_5; have hp := hP1.out ⟨#[41]⟩; rw [show (⟨#[41]⟩ : ByteArray).toList = [41] from toList_mk _] at hp; have HPb := hZ9 (bytes_pref (p := [41]) (l := s.toList)); generalize hb : ([41] : List UInt8).isPrefixOf s.toList = bb at *; cases bb with
      | true =>
        have HQ5 : Hid (Q = (5, 1)) := by show _ = _; rw [hst.out]; rfl
        have HPx := hZ9 (HPb.out rfl); obtain ⟨x0, x1, x2, -, -, -⟩ := three_facts (set_three (x := .int .i64 5) (y := .string ⟨#[41]⟩) (z := .int .i64 0) HRa.out); have hbe := below_three (x := .int .i64 5) (y := .string ⟨#[41]⟩) (z := .int .i64 0) hba (Nat.le_refl _); clear HK HQ hV hst hb HPb; go_wp2_with fail
        refine hp.mono ?_; rintro e w2 ⟨rfl, rfl⟩; go_wp2_with fail
        exact bodyPost_ret (v := .agg #[.int .i64 5, .string ⟨#[41]⟩, .int .i64 0]) (by simp [results, Tryz.results130, go_sem, x0, x1, x2]) rfl ⟨by rw [HQ5.out]; show _ = Ending.returned (.agg #[.int .i64 5, .string (bytes (s.toList.take 1)), .int .i64 0]); rw [show bytes (s.toList.take 1) = ⟨#[41]⟩ from HPx.out], hbe⟩
      | false =>
        have HQ5 : Hid (Q = tokFrom 6 s.toList) := by show _ = _; rw [hst.out]; rfl
        clear HK HQ hV hst hb HPb; go_wp2_with fail
        refine hp.mono ?_; rintro e w2 ⟨rfl, rfl⟩; go_wp2_with fail
        go_round
        case rel => exact ⟨6, by omega, by go_num, HQ5⟩
        case measure => simp [intOf]
     ·have hst : Hid (Q = if ([44] : List UInt8).isPrefixOf s.toList then (5, 1) else tokFrom 7 s.toList) := by show _ = _; rw [HK.out]; exact tokFrom_step rfl _
      have hix := sign_6; have hp := hP1.out ⟨#[44]⟩; rw [show (⟨#[44]⟩ : ByteArray).toList = [44] from toList_mk _] at hp; have HPb := hZ9 (bytes_pref (p := [44]) (l := s.toList)); generalize hb : ([44] : List UInt8).isPrefixOf s.toList = bb at *; cases bb with
      | true =>
        have HQ5 : Hid (Q = (5, 1)) := by show _ = _; rw [hst.out]; rfl
        have HPx := hZ9 (HPb.out rfl); obtain ⟨x0, x1, x2, -, -, -⟩ := three_facts (set_three (x := .int .i64 5) (y := .string ⟨#[44]⟩) (z := .int .i64 0) HRa.out); have hbe := below_three (x := .int .i64 5) (y := .string ⟨#[44]⟩) (z := .int .i64 0) hba (Nat.le_refl _); clear HK HQ hV hst hb HPb; go_wp2_with fail
        refine hp.mono ?_; rintro e w2 ⟨rfl, rfl⟩; go_wp2_with fail
        exact bodyPost_ret (v := .agg #[.int .i64 5, .string ⟨#[44]⟩, .int .i64 0]) (by simp [results, Tryz.results130, go_sem, x0, x1, x2]) rfl ⟨by rw [HQ5.out]; show _ = Ending.returned (.agg #[.int .i64 5, .string (bytes (s.toList.take 1)), .int .i64 0]); rw [show bytes (s.toList.take 1) = ⟨#[44]⟩ from HPx.out], hbe⟩
      | false =>
        have HQ5 : Hid (Q = tokFrom 7 s.toList) := by show _ = _; rw [hst.out]; rfl
        clear HK HQ hV hst hb HPb; go_wp2_with fail
        refine hp.mono ?_; rintro e w2 ⟨rfl, rfl⟩; go_wp2_with fail
        go_round
        case rel => exact ⟨7, by omega, by go_num, HQ5⟩
        case measure => simp [intOf]
     ·have hst : Hid (Q = if ([46] : List UInt8).isPrefixOf s.toList then (5, 1) else tokFrom 8 s.toList) := by show _ = _; rw [HK.out]; exact tokFrom_step rfl _
      have hix := sign_7; have hp := hP1.out ⟨#[46]⟩; rw [show (⟨#[46]⟩ : ByteArray).toList = [46] from toList_mk _] at hp; have HPb := hZ9 (bytes_pref (p := [46]) (l := s.toList)); generalize hb : ([46] : List UInt8).isPrefixOf s.toList = bb at *; cases bb with
      | true =>
        have HQ5 : Hid (Q = (5, 1)) := by show _ = _; rw [hst.out]; rfl
        have HPx := hZ9 (HPb.out rfl); obtain ⟨x0, x1, x2, -, -, -⟩ := three_facts (set_three (x := .int .i64 5) (y := .string ⟨#[46]⟩) (z := .int .i64 0) HRa.out); have hbe := below_three (x := .int .i64 5) (y := .string ⟨#[46]⟩) (z := .int .i64 0) hba (Nat.le_refl _); clear HK HQ hV hst hb HPb; go_wp2_with fail
        refine hp.mono ?_; rintro e w2 ⟨rfl, rfl⟩; go_wp2_with fail
        exact bodyPost_ret (v := .agg #[.int .i64 5, .string ⟨#[46]⟩, .int .i64 0]) (by simp [results, Tryz.results130, go_sem, x0, x1, x2]) rfl ⟨by rw [HQ5.out]; show _ = Ending.returned (.agg #[.int .i64 5, .string (bytes (s.toList.take 1)), .int .i64 0]); rw [show bytes (s.toList.take 1) = ⟨#[46]⟩ from HPx.out], hbe⟩
      | false =>
        have HQ5 : Hid (Q = tokFrom 8 s.toList) := by show _ = _; rw [hst.out]; rfl
        clear HK HQ hV hst hb HPb; go_wp2_with fail
        refine hp.mono ?_; rintro e w2 ⟨rfl, rfl⟩; go_wp2_with fail
        go_round
        case rel => exact ⟨8, by omega, by go_num, HQ5⟩
        case measure => simp [intOf]
     ·have hst : Hid (Q = if ([61] : List UInt8).isPrefixOf s.toList then (5, 1) else tokFrom 9 s.toList) := by show _ = _; rw [HK.out]; exact tokFrom_step rfl _
      have hix := sign_8; have hp := hP1.out ⟨#[61]⟩; rw [show (⟨#[61]⟩ : ByteArray).toList = [61] from toList_mk _] at hp; have HPb := hZ9 (bytes_pref (p := [61]) (l := s.toList)); generalize hb : ([61] : List UInt8).isPrefixOf s.toList = bb at *; cases bb with
      | true =>
        have HQ5 : Hid (Q = (5, 1)) := by show _ = _; rw [hst.out]; rfl
        have HPx := hZ9 (HPb.out rfl); obtain ⟨x0, x1, x2, -, -, -⟩ := three_facts (set_three (x := .int .i64 5) (y := .string ⟨#[61]⟩) (z := .int .i64 0) HRa.out); have hbe := below_three (x := .int .i64 5) (y := .string ⟨#[61]⟩) (z := .int .i64 0) hba (Nat.le_refl _); clear HK HQ hV hst hb HPb; go_wp2_with fail
        refine hp.mono ?_; rintro e w2 ⟨rfl, rfl⟩; go_wp2_with fail
        exact bodyPost_ret (v := .agg #[.int .i64 5, .string ⟨#[61]⟩, .int .i64 0]) (by simp [results, Tryz.results130, go_sem, x0, x1, x2]) rfl ⟨by rw [HQ5.out]; show _ = Ending.returned (.agg #[.int .i64 5, .string (bytes (s.toList.take 1)), .int .i64 0]); rw [show bytes (s.toList.take 1) = ⟨#[61]⟩ from HPx.out], hbe⟩
      | false =>
        have HQ5 : Hid (Q = tokFrom 9 s.toList) := by show _ = _; rw [hst.out]; rfl
        clear HK HQ hV hst hb HPb; go_wp2_with fail
        refine hp.mono ?_; rintro e w2 ⟨rfl, rfl⟩; go_wp2_with fail
        go_round
        case rel => exact ⟨9, by omega, by go_num, HQ5⟩
        case measure => simp [intOf]
     ·have hst : Hid (Q = if ([60] : List UInt8).isPrefixOf s.toList then (5, 1) else tokFrom 10 s.toList) := by show _ = _; rw [HK.out]; exact tokFrom_step rfl _
      have hix := sign_9; have hp := hP1.out ⟨#[60]⟩; rw [show (⟨#[60]⟩ : ByteArray).toList = [60] from toList_mk _] at hp; have HPb := hZ9 (bytes_pref (p := [60]) (l := s.toList)); generalize hb : ([60] : List UInt8).isPrefixOf s.toList = bb at *; cases bb with
      | true =>
        have HQ5 : Hid (Q = (5, 1)) := by show _ = _; rw [hst.out]; rfl
        have HPx := hZ9 (HPb.out rfl); obtain ⟨x0, x1, x2, -, -, -⟩ := three_facts (set_three (x := .int .i64 5) (y := .string ⟨#[60]⟩) (z := .int .i64 0) HRa.out); have hbe := below_three (x := .int .i64 5) (y := .string ⟨#[60]⟩) (z := .int .i64 0) hba (Nat.le_refl _); clear HK HQ hV hst hb HPb; go_wp2_with fail
        refine hp.mono ?_; rintro e w2 ⟨rfl, rfl⟩; go_wp2_with fail
        exact bodyPost_ret (v := .agg #[.int .i64 5, .string ⟨#[60]⟩, .int .i64 0]) (by simp [results, Tryz.results130, go_sem, x0, x1, x2]) rfl ⟨by rw [HQ5.out]; show _ = Ending.returned (.agg #[.int .i64 5, .string (bytes (s.toList.take 1)), .int .i64 0]); rw [show bytes (s.toList.take 1) = ⟨#[60]⟩ from HPx.out], hbe⟩
      | false =>
        have HQ5 : Hid (Q = tokFrom 10 s.toList) := by show _ = _; rw [hst.out]; rfl
        clear HK HQ hV hst hb HPb; go_wp2_with fail
        refine hp.mono ?_; rintro e w2 ⟨rfl, rfl⟩; go_wp2_with fail
        go_round
        case rel => exact ⟨10, by omega, by go_num, HQ5⟩
        case measure => simp [intOf]
     ·have hst : Hid (Q = if ([62] : List UInt8).isPrefixOf s.toList then (5, 1) else tokFrom 11 s.toList) := by show _ = _; rw [HK.out]; exact tokFrom_step rfl _
      have hix := sign_10; have hp := hP1.out ⟨#[62]⟩; rw [show (⟨#[62]⟩ : ByteArray).toList = [62] from toList_mk _] at hp; have HPb := hZ9 (bytes_pref (p := [62]) (l := s.toList)); generalize hb : ([62] : List UInt8).isPrefixOf s.toList = bb at *; cases bb with
      | true =>
        have HQ5 : Hid (Q = (5, 1)) := by show _ = _; rw [hst.out]; rfl
        have HPx := hZ9 (HPb.out rfl); obtain ⟨x0, x1, x2, -, -, -⟩ := three_facts (set_three (x := .int .i64 5) (y := .string ⟨#[62]⟩) (z := .int .i64 0) HRa.out); have hbe := below_three (x := .int .i64 5) (y := .string ⟨#[62]⟩) (z := .int .i64 0) hba (Nat.le_refl _); clear HK HQ hV hst hb HPb; go_wp2_with fail
        refine hp.mono ?_; rintro e w2 ⟨rfl, rfl⟩; go_wp2_with fail
        exact bodyPost_ret (v := .agg #[.int .i64 5, .string ⟨#[62]⟩, .int .i64 0]) (by simp [results, Tryz.results130, go_sem, x0, x1, x2]) rfl ⟨by rw [HQ5.out]; show _ = Ending.returned (.agg #[.int .i64 5, .string (bytes (s.toList.take 1)), .int .i64 0]); rw [show bytes (s.toList.take 1) = ⟨#[62]⟩ from HPx.out], hbe⟩
      | false =>
        have HQ5 : Hid (Q = tokFrom 11 s.toList) := by show _ = _; rw [hst.out]; rfl
        clear HK HQ hV hst hb HPb; go_wp2_with fail
        refine hp.mono ?_; rintro e w2 ⟨rfl, rfl⟩; go_wp2_with fail
        go_round
        case rel => exact ⟨11, by omega, by go_num, HQ5⟩
        case measure => simp [intOf]
     ·have hst : Hid (Q = if ([43] : List UInt8).isPrefixOf s.toList then (5, 1) else tokFrom 12 s.toList) := by show _ = _; rw [HK.out]; exact tokFrom_step rfl _
      have hix := sign_11; have hp := hP1.out ⟨#[43]⟩; rw [show (⟨#[43]⟩ : ByteArray).toList = [43] from toList_mk _] at hp; have HPb := hZ9 (bytes_pref (p := [43]) (l := s.toList)); generalize hb : ([43] : List UInt8).isPrefixOf s.toList = bb at *; cases bb with
      | true =>
        have HQ5 : Hid (Q = (5, 1)) := by show _ = _; rw [hst.out]; rfl
        have HPx := hZ9 (HPb.out rfl); obtain ⟨x0, x1, x2, -, -, -⟩ := three_facts (set_three (x := .int .i64 5) (y := .string ⟨#[43]⟩) (z := .int .i64 0) HRa.out); have hbe := below_three (x := .int .i64 5) (y := .string ⟨#[43]⟩) (z := .int .i64 0) hba (Nat.le_refl _); clear HK HQ hV hst hb HPb; go_wp2_with fail
        refine hp.mono ?_; rintro e w2 ⟨rfl, rfl⟩; go_wp2_with fail
        exact bodyPost_ret (v := .agg #[.int .i64 5, .string ⟨#[43]⟩, .int .i64 0]) (by simp [results, Tryz.results130, go_sem, x0, x1, x2]) rfl ⟨by rw [HQ5.out]; show _ = Ending.returned (.agg #[.int .i64 5, .string (bytes (s.toList.take 1)), .int .i64 0]); rw [show bytes (s.toList.take 1) = ⟨#[43]⟩ from HPx.out], hbe⟩
      | false =>
        have HQ5 : Hid (Q = tokFrom 12 s.toList) := by show _ = _; rw [hst.out]; rfl
        clear HK HQ hV hst hb HPb; go_wp2_with fail
        refine hp.mono ?_; rintro e w2 ⟨rfl, rfl⟩; go_wp2_with fail
        go_round
        case rel => exact ⟨12, by omega, by go_num, HQ5⟩
        case measure => simp [intOf]
     ·have hst : Hid (Q = if ([45] : List UInt8).isPrefixOf s.toList then (5, 1) else tokFrom 13 s.toList) := by show _ = _; rw [HK.out]; exact tokFrom_step rfl _
      have hix := sign_12; have hp := hP1.out ⟨#[45]⟩; rw [show (⟨#[45]⟩ : ByteArray).toList = [45] from toList_mk _] at hp; have HPb := hZ9 (bytes_pref (p := [45]) (l := s.toList)); generalize hb : ([45] : List UInt8).isPrefixOf s.toList = bb at *; cases bb with
      | true =>
        have HQ5 : Hid (Q = (5, 1)) := by show _ = _; rw [hst.out]; rfl
        have HPx := hZ9 (HPb.out rfl); obtain ⟨x0, x1, x2, -, -, -⟩ := three_facts (set_three (x := .int .i64 5) (y := .string ⟨#[45]⟩) (z := .int .i64 0) HRa.out); have hbe := below_three (x := .int .i64 5) (y := .string ⟨#[45]⟩) (z := .int .i64 0) hba (Nat.le_refl _); clear HK HQ hV hst hb HPb; go_wp2_with fail
        refine hp.mono ?_; rintro e w2 ⟨rfl, rfl⟩; go_wp2_with fail
        exact bodyPost_ret (v := .agg #[.int .i64 5, .string ⟨#[45]⟩, .int .i64 0]) (by simp [results, Tryz.results130, go_sem, x0, x1, x2]) rfl ⟨by rw [HQ5.out]; show _ = Ending.returned (.agg #[.int .i64 5, .string (bytes (s.toList.take 1)), .int .i64 0]); rw [show bytes (s.toList.take 1) = ⟨#[45]⟩ from HPx.out], hbe⟩
      | false =>
        have HQ5 : Hid (Q = tokFrom 13 s.toList) := by show _ = _; rw [hst.out]; rfl
        clear HK HQ hV hst hb HPb; go_wp2_with fail
        refine hp.mono ?_; rintro e w2 ⟨rfl, rfl⟩; go_wp2_with fail
        go_round
        case rel => exact ⟨13, by omega, by go_num, HQ5⟩
        case measure => simp [intOf]
     ·have hst : Hid (Q = if ([42] : List UInt8).isPrefixOf s.toList then (5, 1) else tokFrom 14 s.toList) := by show _ = _; rw [HK.out]; exact tokFrom_step rfl _
      have hix := sign_13; have hp := hP1.out ⟨#[42]⟩; rw [show (⟨#[42]⟩ : ByteArray).toList = [42] from toList_mk _] at hp; have HPb := hZ9 (bytes_pref (p := [42]) (l := s.toList)); generalize hb : ([42] : List UInt8).isPrefixOf s.toList = bb at *; cases bb with
      | true =>
        have HQ5 : Hid (Q = (5, 1)) := by show _ = _; rw [hst.out]; rfl
        have HPx := hZ9 (HPb.out rfl); obtain ⟨x0, x1, x2, -, -, -⟩ := three_facts (set_three (x := .int .i64 5) (y := .string ⟨#[42]⟩) (z := .int .i64 0) HRa.out); have hbe := below_three (x := .int .i64 5) (y := .string ⟨#[42]⟩) (z := .int .i64 0) hba (Nat.le_refl _); clear HK HQ hV hst hb HPb; go_wp2_with fail
        refine hp.mono ?_; rintro e w2 ⟨rfl, rfl⟩; go_wp2_with fail
        exact bodyPost_ret (v := .agg #[.int .i64 5, .string ⟨#[42]⟩, .int .i64 0]) (by simp [results, Tryz.results130, go_sem, x0, x1, x2]) rfl ⟨by rw [HQ5.out]; show _ = Ending.returned (.agg #[.int .i64 5, .string (bytes (s.toList.take 1)), .int .i64 0]); rw [show bytes (s.toList.take 1) = ⟨#[42]⟩ from HPx.out], hbe⟩
      | false =>
        have HQ5 : Hid (Q = tokFrom 14 s.toList) := by show _ = _; rw [hst.out]; rfl
        clear HK HQ hV hst hb HPb; go_wp2_with fail
        refine hp.mono ?_; rintro e w2 ⟨rfl, rfl⟩; go_wp2_with fail
        go_round
        case rel => exact ⟨14, by omega, by go_num, HQ5⟩
        case measure => simp [intOf]
    ·have i1 : ¬ (k : Int) < 14 := by omega
     obtain rfl : k = 14 := by omega
     have HQ0 : Hid (Q = (0, 0)) := by show _ = _; rw [HK.out, tokFrom_end]
     obtain ⟨x0, x1, x2, -, -, -⟩ := three_facts (set_three (x := .int .i64 0) (y := .string ⟨#[]⟩) (z := .int .i64 0) HRa.out); have hbe := below_three (x := .int .i64 0) (y := .string ⟨#[]⟩) (z := .int .i64 0) hba (Nat.le_refl _); clear HK HQ hV; go_wp2_with fail
     exact bodyPost_ret (v := .agg #[.int .i64 0, .string ⟨#[]⟩, .int .i64 0]) (by simp [results, Tryz.results130, go_sem, x0, x1, x2]) rfl ⟨by rw [HQ0.out]; rfl, hbe⟩
end Go.Proofs.YtaeedepojpablaaGreatDoor
