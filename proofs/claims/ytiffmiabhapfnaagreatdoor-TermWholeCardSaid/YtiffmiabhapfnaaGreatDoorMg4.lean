/- Merged by my own program of: LexN, LexA, LexL, Tok, LexR1, LexR2, RefAll, TVar. -/
import Derived.Test.YtiffmiabhapfnaaGreatDoorMg3
import Derived.Deep.RegionWith
import Derived.Deep.RegionHeld3
import Derived.Test.YtiffmiabhapfnaaGreatDoorMg1
import Derived.OwnWalkIn
import Derived.TacticsInMore
import Derived.RegionIn
import Derived.LoopNIn
import Derived.LoopIn
import Derived.Shelf.Abstract
/- lex.next. -/
namespace Go.Proofs.YtiffmiabhapfnaaGreatDoor
open Go.RowKit

def tokFrom (k : Nat) (l : List UInt8) : Int × Nat := match (signsL.drop k).find? (·.isPrefixOf l) with
  | some s => (5, s.length)
  | none => (0, 0)
theorem tokFrom_step {k : Nat} {p : List UInt8} (hp : signsL[k]? = some p) (l : List UInt8) : tokFrom k l = if p.isPrefixOf l then (5, p.length) else tokFrom (k + 1) l := by
  obtain ⟨h1, h2⟩ := List.getElem?_eq_some_iff.1 hp
  unfold tokFrom
  rw [List.drop_eq_getElem_cons h1, h2, List.find?_cons]
  cases p.isPrefixOf l <;> rfl
theorem tokFrom_end (l : List UInt8) : tokFrom 14 l = (0, 0) := rfl
theorem set_three {W : World} {g e : Nat} {a b c x y z : Value} (h : W.heap[g]? = some (.cells #[a, b, c] e (0, 0))) : (((W.setCell ⟨g, 0, none⟩ x).setCell ⟨g, 1, none⟩ y).setCell ⟨g, 2, none⟩ z).heap[g]? = some (.cells #[x, y, z] e (0, 0)) := by
  simp [World.setCell, Array.getElem?_modify, h]
theorem three_facts {W : World} {g e : Nat} {a b c : Value} (h : W.heap[g]? = some (.cells #[a, b, c] e (0, 0))) : W.cell? ⟨g, 0, none⟩ = some a ∧ W.cell? ⟨g, 1, none⟩ = some b ∧ W.cell? ⟨g, 2, none⟩ = some c ∧ W.frozen? ⟨g, 0, none⟩ = false ∧ W.frozen? ⟨g, 1, none⟩ = false ∧ W.frozen? ⟨g, 2, none⟩ = false :=
  ⟨(cell_of_row _ _ 0 _ _ _ h).trans rfl, (cell_of_row _ _ 1 _ _ _ h).trans rfl, (cell_of_row _ _ 2 _ _ _ h).trans rfl, frozen_of_row _ _ 0 _ _ h, frozen_of_row _ _ 1 _ _ h, frozen_of_row _ _ 2 _ _ h⟩
theorem below_three {w W : World} {g : Nat} {x y z : Value} (h : Below w.heap.size w W) (hg : w.heap.size ≤ g) : Below w.heap.size w (((W.setCell ⟨g, 0, none⟩ x).setCell ⟨g, 1, none⟩ y).setCell ⟨g, 2, none⟩ z) := ((h.setCell hg _).setCell hg _).setCell hg _
def tokV (l : List UInt8) : Value := .agg #[.int .i64 (tokL wordK l).1, .string (bytes (l.take (tokL wordK l).2)), .int .i64 0]
theorem bytes_pref {p l : List UInt8} (h : p.isPrefixOf l = true) : bytes (l.take p.length) = ⟨p.toArray⟩ := by
  rw [← List.prefix_iff_eq_take.1 (List.isPrefixOf_iff_prefix.1 h)]; rfl
theorem sign_0 (w : World) : (Instr.index 162 (.agg #[.string ⟨#[58, 45]⟩, .string ⟨#[33, 61]⟩, .string ⟨#[60, 61]⟩, .string ⟨#[62, 61]⟩, .string ⟨#[40]⟩, .string ⟨#[41]⟩, .string ⟨#[44]⟩, .string ⟨#[46]⟩, .string ⟨#[61]⟩, .string ⟨#[60]⟩, .string ⟨#[62]⟩, .string ⟨#[43]⟩, .string ⟨#[45]⟩, .string ⟨#[42]⟩]) (.int .i64 0)).run Tryz.prog w = .ok (.string ⟨#[58, 45]⟩) w := by kernel_rfl
theorem sign_1 (w : World) : (Instr.index 162 (.agg #[.string ⟨#[58, 45]⟩, .string ⟨#[33, 61]⟩, .string ⟨#[60, 61]⟩, .string ⟨#[62, 61]⟩, .string ⟨#[40]⟩, .string ⟨#[41]⟩, .string ⟨#[44]⟩, .string ⟨#[46]⟩, .string ⟨#[61]⟩, .string ⟨#[60]⟩, .string ⟨#[62]⟩, .string ⟨#[43]⟩, .string ⟨#[45]⟩, .string ⟨#[42]⟩]) (.int .i64 1)).run Tryz.prog w = .ok (.string ⟨#[33, 61]⟩) w := by kernel_rfl
theorem sign_2 (w : World) : (Instr.index 162 (.agg #[.string ⟨#[58, 45]⟩, .string ⟨#[33, 61]⟩, .string ⟨#[60, 61]⟩, .string ⟨#[62, 61]⟩, .string ⟨#[40]⟩, .string ⟨#[41]⟩, .string ⟨#[44]⟩, .string ⟨#[46]⟩, .string ⟨#[61]⟩, .string ⟨#[60]⟩, .string ⟨#[62]⟩, .string ⟨#[43]⟩, .string ⟨#[45]⟩, .string ⟨#[42]⟩]) (.int .i64 2)).run Tryz.prog w = .ok (.string ⟨#[60, 61]⟩) w := by kernel_rfl
theorem sign_3 (w : World) : (Instr.index 162 (.agg #[.string ⟨#[58, 45]⟩, .string ⟨#[33, 61]⟩, .string ⟨#[60, 61]⟩, .string ⟨#[62, 61]⟩, .string ⟨#[40]⟩, .string ⟨#[41]⟩, .string ⟨#[44]⟩, .string ⟨#[46]⟩, .string ⟨#[61]⟩, .string ⟨#[60]⟩, .string ⟨#[62]⟩, .string ⟨#[43]⟩, .string ⟨#[45]⟩, .string ⟨#[42]⟩]) (.int .i64 3)).run Tryz.prog w = .ok (.string ⟨#[62, 61]⟩) w := by kernel_rfl
theorem sign_4 (w : World) : (Instr.index 162 (.agg #[.string ⟨#[58, 45]⟩, .string ⟨#[33, 61]⟩, .string ⟨#[60, 61]⟩, .string ⟨#[62, 61]⟩, .string ⟨#[40]⟩, .string ⟨#[41]⟩, .string ⟨#[44]⟩, .string ⟨#[46]⟩, .string ⟨#[61]⟩, .string ⟨#[60]⟩, .string ⟨#[62]⟩, .string ⟨#[43]⟩, .string ⟨#[45]⟩, .string ⟨#[42]⟩]) (.int .i64 4)).run Tryz.prog w = .ok (.string ⟨#[40]⟩) w := by kernel_rfl
theorem sign_5 (w : World) : (Instr.index 162 (.agg #[.string ⟨#[58, 45]⟩, .string ⟨#[33, 61]⟩, .string ⟨#[60, 61]⟩, .string ⟨#[62, 61]⟩, .string ⟨#[40]⟩, .string ⟨#[41]⟩, .string ⟨#[44]⟩, .string ⟨#[46]⟩, .string ⟨#[61]⟩, .string ⟨#[60]⟩, .string ⟨#[62]⟩, .string ⟨#[43]⟩, .string ⟨#[45]⟩, .string ⟨#[42]⟩]) (.int .i64 5)).run Tryz.prog w = .ok (.string ⟨#[41]⟩) w := by kernel_rfl
theorem sign_6 (w : World) : (Instr.index 162 (.agg #[.string ⟨#[58, 45]⟩, .string ⟨#[33, 61]⟩, .string ⟨#[60, 61]⟩, .string ⟨#[62, 61]⟩, .string ⟨#[40]⟩, .string ⟨#[41]⟩, .string ⟨#[44]⟩, .string ⟨#[46]⟩, .string ⟨#[61]⟩, .string ⟨#[60]⟩, .string ⟨#[62]⟩, .string ⟨#[43]⟩, .string ⟨#[45]⟩, .string ⟨#[42]⟩]) (.int .i64 6)).run Tryz.prog w = .ok (.string ⟨#[44]⟩) w := by kernel_rfl
theorem sign_7 (w : World) : (Instr.index 162 (.agg #[.string ⟨#[58, 45]⟩, .string ⟨#[33, 61]⟩, .string ⟨#[60, 61]⟩, .string ⟨#[62, 61]⟩, .string ⟨#[40]⟩, .string ⟨#[41]⟩, .string ⟨#[44]⟩, .string ⟨#[46]⟩, .string ⟨#[61]⟩, .string ⟨#[60]⟩, .string ⟨#[62]⟩, .string ⟨#[43]⟩, .string ⟨#[45]⟩, .string ⟨#[42]⟩]) (.int .i64 7)).run Tryz.prog w = .ok (.string ⟨#[46]⟩) w := by kernel_rfl
theorem sign_8 (w : World) : (Instr.index 162 (.agg #[.string ⟨#[58, 45]⟩, .string ⟨#[33, 61]⟩, .string ⟨#[60, 61]⟩, .string ⟨#[62, 61]⟩, .string ⟨#[40]⟩, .string ⟨#[41]⟩, .string ⟨#[44]⟩, .string ⟨#[46]⟩, .string ⟨#[61]⟩, .string ⟨#[60]⟩, .string ⟨#[62]⟩, .string ⟨#[43]⟩, .string ⟨#[45]⟩, .string ⟨#[42]⟩]) (.int .i64 8)).run Tryz.prog w = .ok (.string ⟨#[61]⟩) w := by kernel_rfl
theorem sign_9 (w : World) : (Instr.index 162 (.agg #[.string ⟨#[58, 45]⟩, .string ⟨#[33, 61]⟩, .string ⟨#[60, 61]⟩, .string ⟨#[62, 61]⟩, .string ⟨#[40]⟩, .string ⟨#[41]⟩, .string ⟨#[44]⟩, .string ⟨#[46]⟩, .string ⟨#[61]⟩, .string ⟨#[60]⟩, .string ⟨#[62]⟩, .string ⟨#[43]⟩, .string ⟨#[45]⟩, .string ⟨#[42]⟩]) (.int .i64 9)).run Tryz.prog w = .ok (.string ⟨#[60]⟩) w := by kernel_rfl
theorem sign_10 (w : World) : (Instr.index 162 (.agg #[.string ⟨#[58, 45]⟩, .string ⟨#[33, 61]⟩, .string ⟨#[60, 61]⟩, .string ⟨#[62, 61]⟩, .string ⟨#[40]⟩, .string ⟨#[41]⟩, .string ⟨#[44]⟩, .string ⟨#[46]⟩, .string ⟨#[61]⟩, .string ⟨#[60]⟩, .string ⟨#[62]⟩, .string ⟨#[43]⟩, .string ⟨#[45]⟩, .string ⟨#[42]⟩]) (.int .i64 10)).run Tryz.prog w = .ok (.string ⟨#[62]⟩) w := by kernel_rfl
theorem sign_11 (w : World) : (Instr.index 162 (.agg #[.string ⟨#[58, 45]⟩, .string ⟨#[33, 61]⟩, .string ⟨#[60, 61]⟩, .string ⟨#[62, 61]⟩, .string ⟨#[40]⟩, .string ⟨#[41]⟩, .string ⟨#[44]⟩, .string ⟨#[46]⟩, .string ⟨#[61]⟩, .string ⟨#[60]⟩, .string ⟨#[62]⟩, .string ⟨#[43]⟩, .string ⟨#[45]⟩, .string ⟨#[42]⟩]) (.int .i64 11)).run Tryz.prog w = .ok (.string ⟨#[43]⟩) w := by kernel_rfl
theorem sign_12 (w : World) : (Instr.index 162 (.agg #[.string ⟨#[58, 45]⟩, .string ⟨#[33, 61]⟩, .string ⟨#[60, 61]⟩, .string ⟨#[62, 61]⟩, .string ⟨#[40]⟩, .string ⟨#[41]⟩, .string ⟨#[44]⟩, .string ⟨#[46]⟩, .string ⟨#[61]⟩, .string ⟨#[60]⟩, .string ⟨#[62]⟩, .string ⟨#[43]⟩, .string ⟨#[45]⟩, .string ⟨#[42]⟩]) (.int .i64 12)).run Tryz.prog w = .ok (.string ⟨#[45]⟩) w := by kernel_rfl
theorem sign_13 (w : World) : (Instr.index 162 (.agg #[.string ⟨#[58, 45]⟩, .string ⟨#[33, 61]⟩, .string ⟨#[60, 61]⟩, .string ⟨#[62, 61]⟩, .string ⟨#[40]⟩, .string ⟨#[41]⟩, .string ⟨#[44]⟩, .string ⟨#[46]⟩, .string ⟨#[61]⟩, .string ⟨#[60]⟩, .string ⟨#[62]⟩, .string ⟨#[43]⟩, .string ⟨#[45]⟩, .string ⟨#[42]⟩]) (.int .i64 13)).run Tryz.prog w = .ok (.string ⟨#[42]⟩) w := by kernel_rfl
theorem head_ins {l : List UInt8} (h : 0 < runL l) : ∃ c r, l = c :: r ∧ insB c = true := by
  cases l with
  | nil => simp [runL] at h
  | cons c r =>
    refine ⟨c, r, rfl, ?_⟩
    unfold runL at h
    rw [List.takeWhile_cons] at h
    cases hc : insB c with
    | true => rfl
    | false => rw [hc] at h; simp at h
theorem ins_45 {c : UInt8} (h : insB c = true) : c ≠ 45 := by rintro rfl; revert h; decide

set_option maxRecDepth 100000 in
set_option maxHeartbeats 4000000 in
theorem next_any (s : ByteArray) (hs : s.size ≤ 140737488351232) (h1 : 1 ≤ s.size) (w : World) (hW : LexW w) : Calls Tryz.prog 78 #[.string s] w (fun e w' => e = .returned (tokV s.toList) ∧ Below w.heap.size w w') := by
  have HW := Lib.hid hW
  have Hlen := Lib.hid (ba_len s)
  have hrl : runL s.toList ≤ s.size := by have := runL_le s.toList; rw [ba_len] at this; exact this
  have HR := Lib.hid (fun w => run_any s hs w)
  have Hh := Lib.hid (ba_head h1)
  have h1n : (0 : Int) < (s.size : Int) := by omega
  by_cases hA : 0 < runL s.toList ∧ s.toList.head? ≠ some 95
  · have hV : Hid (tokV s.toList = .agg #[.int .i64 (wordK (s.toList.take (runL s.toList))), .string (bytes (s.toList.take (runL s.toList))), .int .i64 0]) := by
      show _ = _
      unfold tokV tokL
      rw [if_pos hA]
    obtain ⟨n, Hn⟩ : ∃ n, Hid (n = runL s.toList) := ⟨_, rfl⟩
    rw [← Hn.out] at hrl HR hV hA
    obtain ⟨hA1, hA2⟩ := hA
    have z1 : (((s[0]'h1).toNat : Int) != 95) = true := by
      rw [Hh.out] at hA2
      simp only [bne_iff_ne, ne_eq]
      intro h
      apply hA2
      have h2 : (s[0]'h1).toNat = 95 := by omega
      rw [show (s[0]'h1) = 95 from UInt8.toNat_inj.1 (by rw [h2]; rfl)]
    have z2 : (0 : Int) < (n : Int) := by omega
    have z3 : (0 : Int) ≤ (n : Int) := by omega
    have z4 : (n : Int) ≤ (s.size : Int) := by omega
    have HX : Hid ((s.extract 0 n).toList = s.toList.take n) := ba_take s n
    have hxs : (s.extract 0 n).size = n := by rw [← ba_len, HX.out, List.length_take, Hlen.out]; omega
    have hx45 : (s.extract 0 n).toList.head? ≠ some 45 := by
      rw [HX.out]
      obtain ⟨c, r, hc, hi⟩ := head_ins (l := s.toList) (by rw [← Hn.out]; exact hA1)
      obtain ⟨m, rfl⟩ : ∃ m, n = m + 1 := ⟨n - 1, by omega⟩
      rw [hc, List.take_succ_cons]
      simp; exact ins_45 hi
    have HWd := Lib.hid (fun (W : World) (hb : Below w.heap.size w W) => word_any (s.extract 0 n) (by omega) (by omega) hx45 W (HW.out.on hb))
    have HB : Hid (s.extract 0 n = bytes (s.toList.take n)) := ba_eq HX.out
    rw [HX.out] at HWd
    rw [hV.out]
    generalize wordK (s.toList.take n) = q at *
    rw [← HB.out]
    clear hA2 hV hW hx45
    go_enter Tryz.func78, Tryz.ntmps78
    go_wp2_with fail
    refine (HR.out _).mono ?_
    rintro e w1 ⟨rfl, rfl⟩
    have hba : Below w.heap.size w (w.alloc (.cells #[.int .i64 0, .string ⟨#[]⟩, .int .i64 0] 85)) := belowA (Below.refl _ _) _
    have hra : (w.alloc (.cells #[.int .i64 0, .string ⟨#[]⟩, .int .i64 0] 85)).heap[w.heap.size]? = some (.cells #[.int .i64 0, .string ⟨#[]⟩, .int .i64 0] 85 (0, 0)) := heapNew rfl
    have hz : w.heap.size < (w.alloc (.cells #[.int .i64 0, .string ⟨#[]⟩, .int .i64 0] 85)).heap.size := by simp
    go_wp2_with fail
    generalize (w.alloc (.cells #[.int .i64 0, .string ⟨#[]⟩, .int .i64 0] 85)) = w1 at *
    go_region_with ((first
     | (go_at_call 99
        with_reducible refine (HWd.out _ ?s1).mono ?_
        case s1 => repeat (first | with_reducible assumption | with_reducible refine Below.drew ?_)
        rintro e w3 ⟨rfl, hq3⟩
        have r3 : w3.heap[w.heap.size]? = some (.cells #[.int .i64 0, .string ⟨#[]⟩, .int .i64 0] 85 (0, 0)) := (hq3.block _ hz).trans hra
        have hb3 : Below w.heap.size w w3 := below_next (Below.drew hba) hq3
        have f0 : w3.frozen? ⟨w.heap.size, 0, none⟩ = false := frozen_of_row _ _ _ _ _ r3
        have f1 : w3.frozen? ⟨w.heap.size, 1, none⟩ = false := frozen_of_row _ _ _ _ _ r3
        have f2 : w3.frozen? ⟨w.heap.size, 2, none⟩ = false := frozen_of_row _ _ _ _ _ r3
        have y0 : w3.cell? ⟨w.heap.size, 0, none⟩ = some (.int .i64 0) := (cell_of_row _ _ 0 _ _ _ r3).trans rfl
        have y1 : w3.cell? ⟨w.heap.size, 1, none⟩ = some (.string ⟨#[]⟩) := (cell_of_row _ _ 1 _ _ _ r3).trans rfl
        have y2 : w3.cell? ⟨w.heap.size, 2, none⟩ = some (.int .i64 0) := (cell_of_row _ _ 2 _ _ _ r3).trans rfl)))
    obtain ⟨x0, x1, x2, -, -, -⟩ := three_facts (set_three (x := .int .i64 q) (y := .string (s.extract 0 n)) (z := .int .i64 0) r3)
    have hbe := below_three (x := .int .i64 q) (y := .string (s.extract 0 n)) (z := .int .i64 0) hb3 (Nat.le_refl _)
    clear f0 f1 f2 y0 y1 y2 r3 hb3 HWd
    go_wp2_with fail
    exact bodyPost_ret (v := .agg #[.int .i64 q, .string (s.extract 0 n), .int .i64 0]) (by simp [results, Tryz.results78, go_sem, x0, x1, x2]) rfl ⟨rfl, hbe⟩
  · have hV : Hid (tokL wordK s.toList = tokFrom 0 s.toList) := by
      show _ = _
      unfold tokL
      rw [if_neg hA]; rfl
    have hP : Hid (∀ p w, Calls Tryz.prog 100 #[.string s, .string p] w (fun e w' => e = .returned (.bool (p.toList.isPrefixOf s.toList)) ∧ w' = w)) := by
      intro p w
      refine (Tryz.strings_HasPrefix s p w).mono ?_
      rintro e w1 ⟨rfl, rfl⟩
      rw [← ByteArray.toList_eq, ← ByteArray.toList_eq]
      exact ⟨rfl, rfl⟩
    obtain ⟨ts, fr, hS⟩ := hW.signs
    have HS := Lib.hid hS
    have hgw : 0 < w.heap.size := (Array.getElem?_eq_some_iff.1 hS).1
    obtain ⟨Q, HQ⟩ : ∃ Q, Hid (Q = tokL wordK s.toList) := ⟨_, rfl⟩
    have hT : tokV s.toList = .agg #[.int .i64 Q.1, .string (bytes (s.toList.take Q.2)), .int .i64 0] := by rw [HQ.out]; rfl
    rw [hT]
    rw [← HQ.out] at hV
    clear hT hS hW hrl
    go_enter Tryz.func78, Tryz.ntmps78
    go_wp2_with fail
    refine (HR.out _).mono ?_
    rintro e w1 ⟨rfl, rfl⟩
    have hba : Below w.heap.size w (w.alloc (.cells #[.int .i64 0, .string ⟨#[]⟩, .int .i64 0] 85)) := belowA (Below.refl _ _) _
    have hra : (w.alloc (.cells #[.int .i64 0, .string ⟨#[]⟩, .int .i64 0] 85)).heap[w.heap.size]? = some (.cells #[.int .i64 0, .string ⟨#[]⟩, .int .i64 0] 85 (0, 0)) := heapNew rfl
    have hS1 := (hba.block _ hgw).trans HS.out
    have hP1 := Lib.hid (fun p => hP.out p (w.alloc (.cells #[.int .i64 0, .string ⟨#[]⟩, .int .i64 0] 85)))
    generalize (w.alloc (.cells #[.int .i64 0, .string ⟨#[]⟩, .int .i64 0] 85)) = w1 at *
    have s0 : w1.cell? ⟨0, 0, none⟩ = some (.string ⟨#[58, 45]⟩) := (cell_of_row _ _ 0 _ _ _ hS1).trans rfl
    have s1 : w1.cell? ⟨0, 1, none⟩ = some (.string ⟨#[33, 61]⟩) := (cell_of_row _ _ 1 _ _ _ hS1).trans rfl
    have s2 : w1.cell? ⟨0, 2, none⟩ = some (.string ⟨#[60, 61]⟩) := (cell_of_row _ _ 2 _ _ _ hS1).trans rfl
    have s3 : w1.cell? ⟨0, 3, none⟩ = some (.string ⟨#[62, 61]⟩) := (cell_of_row _ _ 3 _ _ _ hS1).trans rfl
    have s4 : w1.cell? ⟨0, 4, none⟩ = some (.string ⟨#[40]⟩) := (cell_of_row _ _ 4 _ _ _ hS1).trans rfl
    have s5 : w1.cell? ⟨0, 5, none⟩ = some (.string ⟨#[41]⟩) := (cell_of_row _ _ 5 _ _ _ hS1).trans rfl
    have s6 : w1.cell? ⟨0, 6, none⟩ = some (.string ⟨#[44]⟩) := (cell_of_row _ _ 6 _ _ _ hS1).trans rfl
    have s7 : w1.cell? ⟨0, 7, none⟩ = some (.string ⟨#[46]⟩) := (cell_of_row _ _ 7 _ _ _ hS1).trans rfl
    have s8 : w1.cell? ⟨0, 8, none⟩ = some (.string ⟨#[61]⟩) := (cell_of_row _ _ 8 _ _ _ hS1).trans rfl
    have s9 : w1.cell? ⟨0, 9, none⟩ = some (.string ⟨#[60]⟩) := (cell_of_row _ _ 9 _ _ _ hS1).trans rfl
    have s10 : w1.cell? ⟨0, 10, none⟩ = some (.string ⟨#[62]⟩) := (cell_of_row _ _ 10 _ _ _ hS1).trans rfl
    have s11 : w1.cell? ⟨0, 11, none⟩ = some (.string ⟨#[43]⟩) := (cell_of_row _ _ 11 _ _ _ hS1).trans rfl
    have s12 : w1.cell? ⟨0, 12, none⟩ = some (.string ⟨#[45]⟩) := (cell_of_row _ _ 12 _ _ _ hS1).trans rfl
    have s13 : w1.cell? ⟨0, 13, none⟩ = some (.string ⟨#[42]⟩) := (cell_of_row _ _ 13 _ _ _ hS1).trans rfl
    obtain ⟨y0, y1, y2, f0, f1, f2⟩ := three_facts hra
    obtain ⟨n, Hn⟩ : ∃ n, Hid (n = runL s.toList) := ⟨_, rfl⟩
    rw [← Hn.out]
    have hcase : (¬ (0 : Int) < (n : Int)) ∨ ((0 : Int) < (n : Int) ∧ (((s[0]'h1).toNat : Int) != 95) = false) := by
      by_cases h0 : 0 < n
      · right
        refine ⟨by omega, ?_⟩
        rw [Hn.out] at h0
        have h2 : s.toList.head? = some 95 := by
          by_cases h2 : s.toList.head? = some 95
          · exact h2
          · exact absurd ⟨h0, h2⟩ hA
        rw [Hh.out] at h2
        injection h2 with h2
        rw [h2]; rfl
      · left; omega
    have HRa := Lib.hid hra
    clear hA hS1 hra HR hP
    rcases hcase with z2 | ⟨z2, z1⟩
    all_goals
      go_wp2_with fail
      go_loop [5, 24] (fun _ i => ∃ k : Nat, k ≤ 14 ∧ i = .int .i64 k ∧ Hid (Q = tokFrom k s.toList)) (fun _ i => 14 - (intOf i).toNat)
      case atStart => exact ⟨0, by omega, rfl, hV⟩
      case round =>
        obtain ⟨k, hk, rfl, HK⟩ := hrel
        have i0 : (0 : Int) ≤ (k : Int) := by omega
        by_cases hlt : k < 14
        · rcases (by omega : k = 0 ∨ k = 1 ∨ k = 2 ∨ k = 3 ∨ k = 4 ∨ k = 5 ∨ k = 6 ∨ k = 7 ∨ k = 8 ∨ k = 9 ∨ k = 10 ∨ k = 11 ∨ k = 12 ∨ k = 13) with rfl | rfl | rfl | rfl | rfl | rfl | rfl | rfl | rfl | rfl | rfl | rfl | rfl | rfl
          · have hst : Hid (Q = if ([58, 45] : List UInt8).isPrefixOf s.toList then (5, 2) else tokFrom 1 s.toList) := by show _ = _; rw [HK.out]; exact tokFrom_step rfl _
            have hix := sign_0
            have hp := hP1.out ⟨#[58, 45]⟩
            rw [show (⟨#[58, 45]⟩ : ByteArray).toList = [58, 45] from toList_mk _] at hp
            have HPb := Lib.hid (bytes_pref (p := [58, 45]) (l := s.toList))
            generalize hb : ([58, 45] : List UInt8).isPrefixOf s.toList = bb at *
            cases bb with
            | true =>
              have HQ5 : Hid (Q = (5, 2)) := by show _ = _; rw [hst.out]; rfl
              have HPx := Lib.hid (HPb.out rfl)
              obtain ⟨x0, x1, x2, -, -, -⟩ := three_facts (set_three (x := .int .i64 5) (y := .string ⟨#[58, 45]⟩) (z := .int .i64 0) HRa.out)
              have hbe := below_three (x := .int .i64 5) (y := .string ⟨#[58, 45]⟩) (z := .int .i64 0) hba (Nat.le_refl _)
              clear HK HQ hV hst hb HPb
              go_wp2_with fail
              refine hp.mono ?_
              rintro e w2 ⟨rfl, rfl⟩
              go_wp2_with fail
              exact bodyPost_ret (v := .agg #[.int .i64 5, .string ⟨#[58, 45]⟩, .int .i64 0]) (by simp [results, Tryz.results78, go_sem, x0, x1, x2]) rfl ⟨by rw [HQ5.out]; show _ = Ending.returned (.agg #[.int .i64 5, .string (bytes (s.toList.take 2)), .int .i64 0]); rw [show bytes (s.toList.take 2) = ⟨#[58, 45]⟩ from HPx.out], hbe⟩
            | false =>
              have HQ5 : Hid (Q = tokFrom 1 s.toList) := by show _ = _; rw [hst.out]; rfl
              clear HK HQ hV hst hb HPb
              go_wp2_with fail
              refine hp.mono ?_
              rintro e w2 ⟨rfl, rfl⟩
              go_wp2_with fail
              go_round
              case rel => exact ⟨1, by omega, by go_num, HQ5⟩
              case measure => simp [intOf]
          · have hst : Hid (Q = if ([33, 61] : List UInt8).isPrefixOf s.toList then (5, 2) else tokFrom 2 s.toList) := by show _ = _; rw [HK.out]; exact tokFrom_step rfl _
            have hix := sign_1
            have hp := hP1.out ⟨#[33, 61]⟩
            rw [show (⟨#[33, 61]⟩ : ByteArray).toList = [33, 61] from toList_mk _] at hp
            have HPb := Lib.hid (bytes_pref (p := [33, 61]) (l := s.toList))
            generalize hb : ([33, 61] : List UInt8).isPrefixOf s.toList = bb at *
            cases bb with
            | true =>
              have HQ5 : Hid (Q = (5, 2)) := by show _ = _; rw [hst.out]; rfl
              have HPx := Lib.hid (HPb.out rfl)
              obtain ⟨x0, x1, x2, -, -, -⟩ := three_facts (set_three (x := .int .i64 5) (y := .string ⟨#[33, 61]⟩) (z := .int .i64 0) HRa.out)
              have hbe := below_three (x := .int .i64 5) (y := .string ⟨#[33, 61]⟩) (z := .int .i64 0) hba (Nat.le_refl _)
              clear HK HQ hV hst hb HPb
              go_wp2_with fail
              refine hp.mono ?_
              rintro e w2 ⟨rfl, rfl⟩
              go_wp2_with fail
              exact bodyPost_ret (v := .agg #[.int .i64 5, .string ⟨#[33, 61]⟩, .int .i64 0]) (by simp [results, Tryz.results78, go_sem, x0, x1, x2]) rfl ⟨by rw [HQ5.out]; show _ = Ending.returned (.agg #[.int .i64 5, .string (bytes (s.toList.take 2)), .int .i64 0]); rw [show bytes (s.toList.take 2) = ⟨#[33, 61]⟩ from HPx.out], hbe⟩
            | false =>
              have HQ5 : Hid (Q = tokFrom 2 s.toList) := by show _ = _; rw [hst.out]; rfl
              clear HK HQ hV hst hb HPb
              go_wp2_with fail
              refine hp.mono ?_
              rintro e w2 ⟨rfl, rfl⟩
              go_wp2_with fail
              go_round
              case rel => exact ⟨2, by omega, by go_num, HQ5⟩
              case measure => simp [intOf]
          · have hst : Hid (Q = if ([60, 61] : List UInt8).isPrefixOf s.toList then (5, 2) else tokFrom 3 s.toList) := by show _ = _; rw [HK.out]; exact tokFrom_step rfl _
            have hix := sign_2
            have hp := hP1.out ⟨#[60, 61]⟩
            rw [show (⟨#[60, 61]⟩ : ByteArray).toList = [60, 61] from toList_mk _] at hp
            have HPb := Lib.hid (bytes_pref (p := [60, 61]) (l := s.toList))
            generalize hb : ([60, 61] : List UInt8).isPrefixOf s.toList = bb at *
            cases bb with
            | true =>
              have HQ5 : Hid (Q = (5, 2)) := by show _ = _; rw [hst.out]; rfl
              have HPx := Lib.hid (HPb.out rfl)
              obtain ⟨x0, x1, x2, -, -, -⟩ := three_facts (set_three (x := .int .i64 5) (y := .string ⟨#[60, 61]⟩) (z := .int .i64 0) HRa.out)
              have hbe := below_three (x := .int .i64 5) (y := .string ⟨#[60, 61]⟩) (z := .int .i64 0) hba (Nat.le_refl _)
              clear HK HQ hV hst hb HPb
              go_wp2_with fail
              refine hp.mono ?_
              rintro e w2 ⟨rfl, rfl⟩
              go_wp2_with fail
              exact bodyPost_ret (v := .agg #[.int .i64 5, .string ⟨#[60, 61]⟩, .int .i64 0]) (by simp [results, Tryz.results78, go_sem, x0, x1, x2]) rfl ⟨by rw [HQ5.out]; show _ = Ending.returned (.agg #[.int .i64 5, .string (bytes (s.toList.take 2)), .int .i64 0]); rw [show bytes (s.toList.take 2) = ⟨#[60, 61]⟩ from HPx.out], hbe⟩
            | false =>
              have HQ5 : Hid (Q = tokFrom 3 s.toList) := by show _ = _; rw [hst.out]; rfl
              clear HK HQ hV hst hb HPb
              go_wp2_with fail
              refine hp.mono ?_
              rintro e w2 ⟨rfl, rfl⟩
              go_wp2_with fail
              go_round
              case rel => exact ⟨3, by omega, by go_num, HQ5⟩
              case measure => simp [intOf]
          · have hst : Hid (Q = if ([62, 61] : List UInt8).isPrefixOf s.toList then (5, 2) else tokFrom 4 s.toList) := by show _ = _; rw [HK.out]; exact tokFrom_step rfl _
            have hix := sign_3
            have hp := hP1.out ⟨#[62, 61]⟩
            rw [show (⟨#[62, 61]⟩ : ByteArray).toList = [62, 61] from toList_mk _] at hp
            have HPb := Lib.hid (bytes_pref (p := [62, 61]) (l := s.toList))
            generalize hb : ([62, 61] : List UInt8).isPrefixOf s.toList = bb at *
            cases bb with
            | true =>
              have HQ5 : Hid (Q = (5, 2)) := by show _ = _; rw [hst.out]; rfl
              have HPx := Lib.hid (HPb.out rfl)
              obtain ⟨x0, x1, x2, -, -, -⟩ := three_facts (set_three (x := .int .i64 5) (y := .string ⟨#[62, 61]⟩) (z := .int .i64 0) HRa.out)
              have hbe := below_three (x := .int .i64 5) (y := .string ⟨#[62, 61]⟩) (z := .int .i64 0) hba (Nat.le_refl _)
              clear HK HQ hV hst hb HPb
              go_wp2_with fail
              refine hp.mono ?_
              rintro e w2 ⟨rfl, rfl⟩
              go_wp2_with fail
              exact bodyPost_ret (v := .agg #[.int .i64 5, .string ⟨#[62, 61]⟩, .int .i64 0]) (by simp [results, Tryz.results78, go_sem, x0, x1, x2]) rfl ⟨by rw [HQ5.out]; show _ = Ending.returned (.agg #[.int .i64 5, .string (bytes (s.toList.take 2)), .int .i64 0]); rw [show bytes (s.toList.take 2) = ⟨#[62, 61]⟩ from HPx.out], hbe⟩
            | false =>
              have HQ5 : Hid (Q = tokFrom 4 s.toList) := by show _ = _; rw [hst.out]; rfl
              clear HK HQ hV hst hb HPb
              go_wp2_with fail
              refine hp.mono ?_
              rintro e w2 ⟨rfl, rfl⟩
              go_wp2_with fail
              go_round
              case rel => exact ⟨4, by omega, by go_num, HQ5⟩
              case measure => simp [intOf]
          · have hst : Hid (Q = if ([40] : List UInt8).isPrefixOf s.toList then (5, 1) else tokFrom 5 s.toList) := by show _ = _; rw [HK.out]; exact tokFrom_step rfl _
            have hix := sign_4
            have hp := hP1.out ⟨#[40]⟩
            rw [show (⟨#[40]⟩ : ByteArray).toList = [40] from toList_mk _] at hp
            have HPb := Lib.hid (bytes_pref (p := [40]) (l := s.toList))
            generalize hb : ([40] : List UInt8).isPrefixOf s.toList = bb at *
            cases bb with
            | true =>
              have HQ5 : Hid (Q = (5, 1)) := by show _ = _; rw [hst.out]; rfl
              have HPx := Lib.hid (HPb.out rfl)
              obtain ⟨x0, x1, x2, -, -, -⟩ := three_facts (set_three (x := .int .i64 5) (y := .string ⟨#[40]⟩) (z := .int .i64 0) HRa.out)
              have hbe := below_three (x := .int .i64 5) (y := .string ⟨#[40]⟩) (z := .int .i64 0) hba (Nat.le_refl _)
              clear HK HQ hV hst hb HPb
              go_wp2_with fail
              refine hp.mono ?_
              rintro e w2 ⟨rfl, rfl⟩
              go_wp2_with fail
              exact bodyPost_ret (v := .agg #[.int .i64 5, .string ⟨#[40]⟩, .int .i64 0]) (by simp [results, Tryz.results78, go_sem, x0, x1, x2]) rfl ⟨by rw [HQ5.out]; show _ = Ending.returned (.agg #[.int .i64 5, .string (bytes (s.toList.take 1)), .int .i64 0]); rw [show bytes (s.toList.take 1) = ⟨#[40]⟩ from HPx.out], hbe⟩
            | false =>
              have HQ5 : Hid (Q = tokFrom 5 s.toList) := by show _ = _; rw [hst.out]; rfl
              clear HK HQ hV hst hb HPb
              go_wp2_with fail
              refine hp.mono ?_
              rintro e w2 ⟨rfl, rfl⟩
              go_wp2_with fail
              go_round
              case rel => exact ⟨5, by omega, by go_num, HQ5⟩
              case measure => simp [intOf]
          · have hst : Hid (Q = if ([41] : List UInt8).isPrefixOf s.toList then (5, 1) else tokFrom 6 s.toList) := by show _ = _; rw [HK.out]; exact tokFrom_step rfl _
            have hix := sign_5
            have hp := hP1.out ⟨#[41]⟩
            rw [show (⟨#[41]⟩ : ByteArray).toList = [41] from toList_mk _] at hp
            have HPb := Lib.hid (bytes_pref (p := [41]) (l := s.toList))
            generalize hb : ([41] : List UInt8).isPrefixOf s.toList = bb at *
            cases bb with
            | true =>
              have HQ5 : Hid (Q = (5, 1)) := by show _ = _; rw [hst.out]; rfl
              have HPx := Lib.hid (HPb.out rfl)
              obtain ⟨x0, x1, x2, -, -, -⟩ := three_facts (set_three (x := .int .i64 5) (y := .string ⟨#[41]⟩) (z := .int .i64 0) HRa.out)
              have hbe := below_three (x := .int .i64 5) (y := .string ⟨#[41]⟩) (z := .int .i64 0) hba (Nat.le_refl _)
              clear HK HQ hV hst hb HPb
              go_wp2_with fail
              refine hp.mono ?_
              rintro e w2 ⟨rfl, rfl⟩
              go_wp2_with fail
              exact bodyPost_ret (v := .agg #[.int .i64 5, .string ⟨#[41]⟩, .int .i64 0]) (by simp [results, Tryz.results78, go_sem, x0, x1, x2]) rfl ⟨by rw [HQ5.out]; show _ = Ending.returned (.agg #[.int .i64 5, .string (bytes (s.toList.take 1)), .int .i64 0]); rw [show bytes (s.toList.take 1) = ⟨#[41]⟩ from HPx.out], hbe⟩
            | false =>
              have HQ5 : Hid (Q = tokFrom 6 s.toList) := by show _ = _; rw [hst.out]; rfl
              clear HK HQ hV hst hb HPb
              go_wp2_with fail
              refine hp.mono ?_
              rintro e w2 ⟨rfl, rfl⟩
              go_wp2_with fail
              go_round
              case rel => exact ⟨6, by omega, by go_num, HQ5⟩
              case measure => simp [intOf]
          · have hst : Hid (Q = if ([44] : List UInt8).isPrefixOf s.toList then (5, 1) else tokFrom 7 s.toList) := by show _ = _; rw [HK.out]; exact tokFrom_step rfl _
            have hix := sign_6
            have hp := hP1.out ⟨#[44]⟩
            rw [show (⟨#[44]⟩ : ByteArray).toList = [44] from toList_mk _] at hp
            have HPb := Lib.hid (bytes_pref (p := [44]) (l := s.toList))
            generalize hb : ([44] : List UInt8).isPrefixOf s.toList = bb at *
            cases bb with
            | true =>
              have HQ5 : Hid (Q = (5, 1)) := by show _ = _; rw [hst.out]; rfl
              have HPx := Lib.hid (HPb.out rfl)
              obtain ⟨x0, x1, x2, -, -, -⟩ := three_facts (set_three (x := .int .i64 5) (y := .string ⟨#[44]⟩) (z := .int .i64 0) HRa.out)
              have hbe := below_three (x := .int .i64 5) (y := .string ⟨#[44]⟩) (z := .int .i64 0) hba (Nat.le_refl _)
              clear HK HQ hV hst hb HPb
              go_wp2_with fail
              refine hp.mono ?_
              rintro e w2 ⟨rfl, rfl⟩
              go_wp2_with fail
              exact bodyPost_ret (v := .agg #[.int .i64 5, .string ⟨#[44]⟩, .int .i64 0]) (by simp [results, Tryz.results78, go_sem, x0, x1, x2]) rfl ⟨by rw [HQ5.out]; show _ = Ending.returned (.agg #[.int .i64 5, .string (bytes (s.toList.take 1)), .int .i64 0]); rw [show bytes (s.toList.take 1) = ⟨#[44]⟩ from HPx.out], hbe⟩
            | false =>
              have HQ5 : Hid (Q = tokFrom 7 s.toList) := by show _ = _; rw [hst.out]; rfl
              clear HK HQ hV hst hb HPb
              go_wp2_with fail
              refine hp.mono ?_
              rintro e w2 ⟨rfl, rfl⟩
              go_wp2_with fail
              go_round
              case rel => exact ⟨7, by omega, by go_num, HQ5⟩
              case measure => simp [intOf]
          · have hst : Hid (Q = if ([46] : List UInt8).isPrefixOf s.toList then (5, 1) else tokFrom 8 s.toList) := by show _ = _; rw [HK.out]; exact tokFrom_step rfl _
            have hix := sign_7
            have hp := hP1.out ⟨#[46]⟩
            rw [show (⟨#[46]⟩ : ByteArray).toList = [46] from toList_mk _] at hp
            have HPb := Lib.hid (bytes_pref (p := [46]) (l := s.toList))
            generalize hb : ([46] : List UInt8).isPrefixOf s.toList = bb at *
            cases bb with
            | true =>
              have HQ5 : Hid (Q = (5, 1)) := by show _ = _; rw [hst.out]; rfl
              have HPx := Lib.hid (HPb.out rfl)
              obtain ⟨x0, x1, x2, -, -, -⟩ := three_facts (set_three (x := .int .i64 5) (y := .string ⟨#[46]⟩) (z := .int .i64 0) HRa.out)
              have hbe := below_three (x := .int .i64 5) (y := .string ⟨#[46]⟩) (z := .int .i64 0) hba (Nat.le_refl _)
              clear HK HQ hV hst hb HPb
              go_wp2_with fail
              refine hp.mono ?_
              rintro e w2 ⟨rfl, rfl⟩
              go_wp2_with fail
              exact bodyPost_ret (v := .agg #[.int .i64 5, .string ⟨#[46]⟩, .int .i64 0]) (by simp [results, Tryz.results78, go_sem, x0, x1, x2]) rfl ⟨by rw [HQ5.out]; show _ = Ending.returned (.agg #[.int .i64 5, .string (bytes (s.toList.take 1)), .int .i64 0]); rw [show bytes (s.toList.take 1) = ⟨#[46]⟩ from HPx.out], hbe⟩
            | false =>
              have HQ5 : Hid (Q = tokFrom 8 s.toList) := by show _ = _; rw [hst.out]; rfl
              clear HK HQ hV hst hb HPb
              go_wp2_with fail
              refine hp.mono ?_
              rintro e w2 ⟨rfl, rfl⟩
              go_wp2_with fail
              go_round
              case rel => exact ⟨8, by omega, by go_num, HQ5⟩
              case measure => simp [intOf]
          · have hst : Hid (Q = if ([61] : List UInt8).isPrefixOf s.toList then (5, 1) else tokFrom 9 s.toList) := by show _ = _; rw [HK.out]; exact tokFrom_step rfl _
            have hix := sign_8
            have hp := hP1.out ⟨#[61]⟩
            rw [show (⟨#[61]⟩ : ByteArray).toList = [61] from toList_mk _] at hp
            have HPb := Lib.hid (bytes_pref (p := [61]) (l := s.toList))
            generalize hb : ([61] : List UInt8).isPrefixOf s.toList = bb at *
            cases bb with
            | true =>
              have HQ5 : Hid (Q = (5, 1)) := by show _ = _; rw [hst.out]; rfl
              have HPx := Lib.hid (HPb.out rfl)
              obtain ⟨x0, x1, x2, -, -, -⟩ := three_facts (set_three (x := .int .i64 5) (y := .string ⟨#[61]⟩) (z := .int .i64 0) HRa.out)
              have hbe := below_three (x := .int .i64 5) (y := .string ⟨#[61]⟩) (z := .int .i64 0) hba (Nat.le_refl _)
              clear HK HQ hV hst hb HPb
              go_wp2_with fail
              refine hp.mono ?_
              rintro e w2 ⟨rfl, rfl⟩
              go_wp2_with fail
              exact bodyPost_ret (v := .agg #[.int .i64 5, .string ⟨#[61]⟩, .int .i64 0]) (by simp [results, Tryz.results78, go_sem, x0, x1, x2]) rfl ⟨by rw [HQ5.out]; show _ = Ending.returned (.agg #[.int .i64 5, .string (bytes (s.toList.take 1)), .int .i64 0]); rw [show bytes (s.toList.take 1) = ⟨#[61]⟩ from HPx.out], hbe⟩
            | false =>
              have HQ5 : Hid (Q = tokFrom 9 s.toList) := by show _ = _; rw [hst.out]; rfl
              clear HK HQ hV hst hb HPb
              go_wp2_with fail
              refine hp.mono ?_
              rintro e w2 ⟨rfl, rfl⟩
              go_wp2_with fail
              go_round
              case rel => exact ⟨9, by omega, by go_num, HQ5⟩
              case measure => simp [intOf]
          · have hst : Hid (Q = if ([60] : List UInt8).isPrefixOf s.toList then (5, 1) else tokFrom 10 s.toList) := by show _ = _; rw [HK.out]; exact tokFrom_step rfl _
            have hix := sign_9
            have hp := hP1.out ⟨#[60]⟩
            rw [show (⟨#[60]⟩ : ByteArray).toList = [60] from toList_mk _] at hp
            have HPb := Lib.hid (bytes_pref (p := [60]) (l := s.toList))
            generalize hb : ([60] : List UInt8).isPrefixOf s.toList = bb at *
            cases bb with
            | true =>
              have HQ5 : Hid (Q = (5, 1)) := by show _ = _; rw [hst.out]; rfl
              have HPx := Lib.hid (HPb.out rfl)
              obtain ⟨x0, x1, x2, -, -, -⟩ := three_facts (set_three (x := .int .i64 5) (y := .string ⟨#[60]⟩) (z := .int .i64 0) HRa.out)
              have hbe := below_three (x := .int .i64 5) (y := .string ⟨#[60]⟩) (z := .int .i64 0) hba (Nat.le_refl _)
              clear HK HQ hV hst hb HPb
              go_wp2_with fail
              refine hp.mono ?_
              rintro e w2 ⟨rfl, rfl⟩
              go_wp2_with fail
              exact bodyPost_ret (v := .agg #[.int .i64 5, .string ⟨#[60]⟩, .int .i64 0]) (by simp [results, Tryz.results78, go_sem, x0, x1, x2]) rfl ⟨by rw [HQ5.out]; show _ = Ending.returned (.agg #[.int .i64 5, .string (bytes (s.toList.take 1)), .int .i64 0]); rw [show bytes (s.toList.take 1) = ⟨#[60]⟩ from HPx.out], hbe⟩
            | false =>
              have HQ5 : Hid (Q = tokFrom 10 s.toList) := by show _ = _; rw [hst.out]; rfl
              clear HK HQ hV hst hb HPb
              go_wp2_with fail
              refine hp.mono ?_
              rintro e w2 ⟨rfl, rfl⟩
              go_wp2_with fail
              go_round
              case rel => exact ⟨10, by omega, by go_num, HQ5⟩
              case measure => simp [intOf]
          · have hst : Hid (Q = if ([62] : List UInt8).isPrefixOf s.toList then (5, 1) else tokFrom 11 s.toList) := by show _ = _; rw [HK.out]; exact tokFrom_step rfl _
            have hix := sign_10
            have hp := hP1.out ⟨#[62]⟩
            rw [show (⟨#[62]⟩ : ByteArray).toList = [62] from toList_mk _] at hp
            have HPb := Lib.hid (bytes_pref (p := [62]) (l := s.toList))
            generalize hb : ([62] : List UInt8).isPrefixOf s.toList = bb at *
            cases bb with
            | true =>
              have HQ5 : Hid (Q = (5, 1)) := by show _ = _; rw [hst.out]; rfl
              have HPx := Lib.hid (HPb.out rfl)
              obtain ⟨x0, x1, x2, -, -, -⟩ := three_facts (set_three (x := .int .i64 5) (y := .string ⟨#[62]⟩) (z := .int .i64 0) HRa.out)
              have hbe := below_three (x := .int .i64 5) (y := .string ⟨#[62]⟩) (z := .int .i64 0) hba (Nat.le_refl _)
              clear HK HQ hV hst hb HPb
              go_wp2_with fail
              refine hp.mono ?_
              rintro e w2 ⟨rfl, rfl⟩
              go_wp2_with fail
              exact bodyPost_ret (v := .agg #[.int .i64 5, .string ⟨#[62]⟩, .int .i64 0]) (by simp [results, Tryz.results78, go_sem, x0, x1, x2]) rfl ⟨by rw [HQ5.out]; show _ = Ending.returned (.agg #[.int .i64 5, .string (bytes (s.toList.take 1)), .int .i64 0]); rw [show bytes (s.toList.take 1) = ⟨#[62]⟩ from HPx.out], hbe⟩
            | false =>
              have HQ5 : Hid (Q = tokFrom 11 s.toList) := by show _ = _; rw [hst.out]; rfl
              clear HK HQ hV hst hb HPb
              go_wp2_with fail
              refine hp.mono ?_
              rintro e w2 ⟨rfl, rfl⟩
              go_wp2_with fail
              go_round
              case rel => exact ⟨11, by omega, by go_num, HQ5⟩
              case measure => simp [intOf]
          · have hst : Hid (Q = if ([43] : List UInt8).isPrefixOf s.toList then (5, 1) else tokFrom 12 s.toList) := by show _ = _; rw [HK.out]; exact tokFrom_step rfl _
            have hix := sign_11
            have hp := hP1.out ⟨#[43]⟩
            rw [show (⟨#[43]⟩ : ByteArray).toList = [43] from toList_mk _] at hp
            have HPb := Lib.hid (bytes_pref (p := [43]) (l := s.toList))
            generalize hb : ([43] : List UInt8).isPrefixOf s.toList = bb at *
            cases bb with
            | true =>
              have HQ5 : Hid (Q = (5, 1)) := by show _ = _; rw [hst.out]; rfl
              have HPx := Lib.hid (HPb.out rfl)
              obtain ⟨x0, x1, x2, -, -, -⟩ := three_facts (set_three (x := .int .i64 5) (y := .string ⟨#[43]⟩) (z := .int .i64 0) HRa.out)
              have hbe := below_three (x := .int .i64 5) (y := .string ⟨#[43]⟩) (z := .int .i64 0) hba (Nat.le_refl _)
              clear HK HQ hV hst hb HPb
              go_wp2_with fail
              refine hp.mono ?_
              rintro e w2 ⟨rfl, rfl⟩
              go_wp2_with fail
              exact bodyPost_ret (v := .agg #[.int .i64 5, .string ⟨#[43]⟩, .int .i64 0]) (by simp [results, Tryz.results78, go_sem, x0, x1, x2]) rfl ⟨by rw [HQ5.out]; show _ = Ending.returned (.agg #[.int .i64 5, .string (bytes (s.toList.take 1)), .int .i64 0]); rw [show bytes (s.toList.take 1) = ⟨#[43]⟩ from HPx.out], hbe⟩
            | false =>
              have HQ5 : Hid (Q = tokFrom 12 s.toList) := by show _ = _; rw [hst.out]; rfl
              clear HK HQ hV hst hb HPb
              go_wp2_with fail
              refine hp.mono ?_
              rintro e w2 ⟨rfl, rfl⟩
              go_wp2_with fail
              go_round
              case rel => exact ⟨12, by omega, by go_num, HQ5⟩
              case measure => simp [intOf]
          · have hst : Hid (Q = if ([45] : List UInt8).isPrefixOf s.toList then (5, 1) else tokFrom 13 s.toList) := by show _ = _; rw [HK.out]; exact tokFrom_step rfl _
            have hix := sign_12
            have hp := hP1.out ⟨#[45]⟩
            rw [show (⟨#[45]⟩ : ByteArray).toList = [45] from toList_mk _] at hp
            have HPb := Lib.hid (bytes_pref (p := [45]) (l := s.toList))
            generalize hb : ([45] : List UInt8).isPrefixOf s.toList = bb at *
            cases bb with
            | true =>
              have HQ5 : Hid (Q = (5, 1)) := by show _ = _; rw [hst.out]; rfl
              have HPx := Lib.hid (HPb.out rfl)
              obtain ⟨x0, x1, x2, -, -, -⟩ := three_facts (set_three (x := .int .i64 5) (y := .string ⟨#[45]⟩) (z := .int .i64 0) HRa.out)
              have hbe := below_three (x := .int .i64 5) (y := .string ⟨#[45]⟩) (z := .int .i64 0) hba (Nat.le_refl _)
              clear HK HQ hV hst hb HPb
              go_wp2_with fail
              refine hp.mono ?_
              rintro e w2 ⟨rfl, rfl⟩
              go_wp2_with fail
              exact bodyPost_ret (v := .agg #[.int .i64 5, .string ⟨#[45]⟩, .int .i64 0]) (by simp [results, Tryz.results78, go_sem, x0, x1, x2]) rfl ⟨by rw [HQ5.out]; show _ = Ending.returned (.agg #[.int .i64 5, .string (bytes (s.toList.take 1)), .int .i64 0]); rw [show bytes (s.toList.take 1) = ⟨#[45]⟩ from HPx.out], hbe⟩
            | false =>
              have HQ5 : Hid (Q = tokFrom 13 s.toList) := by show _ = _; rw [hst.out]; rfl
              clear HK HQ hV hst hb HPb
              go_wp2_with fail
              refine hp.mono ?_
              rintro e w2 ⟨rfl, rfl⟩
              go_wp2_with fail
              go_round
              case rel => exact ⟨13, by omega, by go_num, HQ5⟩
              case measure => simp [intOf]
          · have hst : Hid (Q = if ([42] : List UInt8).isPrefixOf s.toList then (5, 1) else tokFrom 14 s.toList) := by show _ = _; rw [HK.out]; exact tokFrom_step rfl _
            have hix := sign_13
            have hp := hP1.out ⟨#[42]⟩
            rw [show (⟨#[42]⟩ : ByteArray).toList = [42] from toList_mk _] at hp
            have HPb := Lib.hid (bytes_pref (p := [42]) (l := s.toList))
            generalize hb : ([42] : List UInt8).isPrefixOf s.toList = bb at *
            cases bb with
            | true =>
              have HQ5 : Hid (Q = (5, 1)) := by show _ = _; rw [hst.out]; rfl
              have HPx := Lib.hid (HPb.out rfl)
              obtain ⟨x0, x1, x2, -, -, -⟩ := three_facts (set_three (x := .int .i64 5) (y := .string ⟨#[42]⟩) (z := .int .i64 0) HRa.out)
              have hbe := below_three (x := .int .i64 5) (y := .string ⟨#[42]⟩) (z := .int .i64 0) hba (Nat.le_refl _)
              clear HK HQ hV hst hb HPb
              go_wp2_with fail
              refine hp.mono ?_
              rintro e w2 ⟨rfl, rfl⟩
              go_wp2_with fail
              exact bodyPost_ret (v := .agg #[.int .i64 5, .string ⟨#[42]⟩, .int .i64 0]) (by simp [results, Tryz.results78, go_sem, x0, x1, x2]) rfl ⟨by rw [HQ5.out]; show _ = Ending.returned (.agg #[.int .i64 5, .string (bytes (s.toList.take 1)), .int .i64 0]); rw [show bytes (s.toList.take 1) = ⟨#[42]⟩ from HPx.out], hbe⟩
            | false =>
              have HQ5 : Hid (Q = tokFrom 14 s.toList) := by show _ = _; rw [hst.out]; rfl
              clear HK HQ hV hst hb HPb
              go_wp2_with fail
              refine hp.mono ?_
              rintro e w2 ⟨rfl, rfl⟩
              go_wp2_with fail
              go_round
              case rel => exact ⟨14, by omega, by go_num, HQ5⟩
              case measure => simp [intOf]
        · have i1 : ¬ (k : Int) < 14 := by omega
          obtain rfl : k = 14 := by omega
          have HQ0 : Hid (Q = (0, 0)) := by show _ = _; rw [HK.out, tokFrom_end]
          obtain ⟨x0, x1, x2, -, -, -⟩ := three_facts (set_three (x := .int .i64 0) (y := .string ⟨#[]⟩) (z := .int .i64 0) HRa.out)
          have hbe := below_three (x := .int .i64 0) (y := .string ⟨#[]⟩) (z := .int .i64 0) hba (Nat.le_refl _)
          clear HK HQ hV
          go_wp2_with fail
          exact bodyPost_ret (v := .agg #[.int .i64 0, .string ⟨#[]⟩, .int .i64 0]) (by simp [results, Tryz.results78, go_sem, x0, x1, x2]) rfl ⟨by rw [HQ0.out]; rfl, hbe⟩
end Go.Proofs.YtiffmiabhapfnaaGreatDoor

/- lex.All: the iterator. -/
namespace Go.Proofs.YtiffmiabhapfnaaGreatDoor
open Go.RowKit Go.Shelf
attribute [local go_sem] Oper.semAt_some

/-- what the iterator hands on: a token, or (bad) the place without one -/
structure LX where
  q : GTok
  bad : Bool
def tokC (q : GTok) : Value := .agg #[.int .i64 q.k, .string (bytes q.t), .int .i64 q.a]
def encL (x : LX) : Array Value := #[tokC x.q, if x.bad then .iface 111 (.int .i64 2) else .nilIface]
def seqOf (r : List GTok × Option Nat) : List LX := r.1.map (fun q => ⟨q, false⟩) ++ (match r.2 with | some p => [⟨⟨0, [], p⟩, true⟩] | none => [])
def lexS (l : List UInt8) : List GTok × Option Nat := lexA wordK 0 l
def RL (L : List LX) (pre : List LX) (x : LX) (_base : Nat) (_W : World) : Prop := (pre ++ [x]) <+: L

theorem tok_range (l : List UInt8) : 0 ≤ (tokL wordK l).1 ∧ (tokL wordK l).1 ≤ 5 := by
  have hw : ∀ t, 0 ≤ wordK t ∧ wordK t ≤ 5 := by
    intro t; unfold wordK
    split
    · omega
    · split
      · omega
      · split
        · omega
        · split <;> omega
  unfold tokL
  split
  · exact hw _
  · split <;> simp
theorem tokL_le (l : List UInt8) : (tokL wordK l).2 ≤ l.length := by
  by_cases h : (tokL wordK l).1 = 0
  · revert h
    unfold tokL
    split
    · intro _; exact runL_le l
    · split
      · intro h; simp at h
      · intro _; exact Nat.zero_le _
  · exact (tokL_len l h).2

/-- the blocks of the tables -/
def lexG : List Nat := [5, 3, 4, 1, 0]
theorem gPow : Tryz.prog.globalNamed "internal/strconv.uint64pow10" = some 5 := by kernel_rfl
theorem tab_lt {W : World} (h : TabW W) : 5 < W.heap.size := by
  have h0 := h W (Below.refl _ _)
  have h1 := World.var?_cell gPow h0 0
  exact World.block_lt_of_cell? W ⟨5, 0, none⟩ (h1.trans rfl)
theorem LexW.lt {W : World} (h : LexW W) : ∀ b ∈ lexG, b < W.heap.size := by
  obtain ⟨⟨t1, p1, h1⟩, ⟨t2, p2, h2⟩⟩ := h.err
  obtain ⟨t3, fr3, h3⟩ := h.keys
  obtain ⟨t4, fr4, h4⟩ := h.signs
  intro b hb
  simp only [lexG, List.mem_cons, List.not_mem_nil, or_false] at hb
  rcases hb with rfl | rfl | rfl | rfl | rfl
  · exact tab_lt h.tab
  · exact World.block_lt_of_cell? W ⟨3, 0, none⟩ h1
  · exact World.block_lt_of_cell? W ⟨4, 0, none⟩ h2
  · exact (Array.getElem?_eq_some_iff.1 h3).1
  · exact (Array.getElem?_eq_some_iff.1 h4).1
theorem LexW.keep {W W' : World} (h : LexW W) (hk : ∀ b ∈ lexG, W'.heap[b]? = W.heap[b]?) : LexW W' := by
  obtain ⟨⟨t1, p1, h1⟩, ⟨t2, p2, h2⟩⟩ := h.err
  obtain ⟨t3, fr3, h3⟩ := h.keys
  obtain ⟨t4, fr4, h4⟩ := h.signs
  refine ⟨TabW.of ?_, ⟨⟨t1, p1, ?_⟩, ⟨t2, p2, ?_⟩⟩, ⟨t3, fr3, (hk _ (by simp [lexG])).trans h3⟩, ⟨t4, fr4, (hk _ (by simp [lexG])).trans h4⟩⟩
  · have h0 := h.tab W (Below.refl _ _)
    unfold Lib.TabIs World.var? at h0 ⊢
    rw [gPow] at h0 ⊢
    simp only [Option.bind_some] at h0 ⊢
    rw [hk _ (by simp [lexG])]; exact h0
  · unfold World.cell? at h1 ⊢; rw [hk _ (by simp [lexG])]; exact h1
  · unfold World.cell? at h2 ⊢; rw [hk _ (by simp [lexG])]; exact h2
theorem set_third {W : World} {g e : Nat} {a b c z : Value} (h : W.heap[g]? = some (.cells #[a, b, c] e (0, 0))) : (W.setCell ⟨g, 2, none⟩ z).heap[g]? = some (.cells #[a, b, z] e (0, 0)) := by
  simp [World.setCell, Array.getElem?_modify, h]
theorem encL_bad (a : Nat) : encL ⟨⟨0, [], a⟩, true⟩ = #[.agg #[.int .i64 0, .string ⟨#[]⟩, .int .i64 a], .iface 111 (.int .i64 2)] := rfl
theorem encL_tok (q : GTok) : encL ⟨q, false⟩ = #[.agg #[.int .i64 q.k, .string (bytes q.t), .int .i64 q.a], .nilIface] := rfl
theorem seqOf_bad {a : Nat} {l : List UInt8} (hl : l ≠ []) (hs : skipG false l = 0) (h0 : (tokL wordK l).1 = 0) : seqOf (lexA wordK a l) = [⟨⟨0, [], a⟩, true⟩] := by
  rw [lexA_at hl hs, if_pos h0]; rfl
theorem seqOf_tok {a : Nat} {l : List UInt8} (hl : l ≠ []) (hs : skipG false l = 0) (h0 : (tokL wordK l).1 ≠ 0) : seqOf (lexA wordK a l) = ⟨⟨(tokL wordK l).1, l.take (tokL wordK l).2, a⟩, false⟩ :: seqOf (lexA wordK (a + (tokL wordK l).2) (l.drop (tokL wordK l).2)) := by
  rw [lexA_at hl hs, if_neg h0]; rfl

set_option maxRecDepth 100000 in
set_option maxHeartbeats 4000000 in
theorem lexAll_seq {w : World} (hW : LexW w) (s : ByteArray) (hs : s.size ≤ 140737488351232) {g : Nat} (hg : w.cell? ⟨g, 0, none⟩ = some (.string s)) (S : List Nat) (hgS : g ∉ S) (hGS : ∀ b ∈ lexG, b ∉ S) :
    SeqR2 Tryz.prog 76 #[.pointer (some ⟨g, 0, none⟩)] encL (RL (seqOf (lexS s.toList))) S (fun xs => Hid (xs = seqOf (lexS s.toList))) (fun pre => Hid (pre <+: seqOf (lexS s.toList))) w := by
  intro l J Jx W hbW hl hlW hJ h0 hY
  have hbW0 := hbW
  have Hlen := Lib.hid (ba_len s)
  have HW := Lib.hid (hW.on hbW)
  have HG := Lib.hid hW.lt
  have cg := below_cell hbW hg
  have gl : g < w.heap.size := World.block_lt_of_cell? w _ hg
  have HJ := Lib.hid hJ
  have H0 := Lib.hid h0
  have HY := Lib.hid hY
  have hsW := hbW.size
  have hglW : g < W.heap.size := by omega
  have hneq : g ≠ l := by omega
  have HSk := Lib.hid (fun (a : Nat) (ha : a ≤ s.size) (W : World) => skip_any s hs a ha W)
  have hSk0 := Lib.hid (HSk.out 0 (by omega) W)
  obtain ⟨L, HL⟩ : ∃ L, Hid (L = seqOf (lexS s.toList)) := ⟨_, rfl⟩
  rw [← HL.out] at HY ⊢
  clear hW hg hJ h0 hY hbW
  refine (callsIn_wide (n := 0)).1 ?_
  refine callsIn_of_wp Tryz.func76 rfl trivial ?_ rfl
  simp only [Tryz.ntmps76, List.size_toArray, List.length_cons, List.length_nil, Nat.reduceAdd, Nat.reduceSub, Array.replicate_succ, Array.replicate_zero, List.push_toArray, List.append_toArray, List.nil_append, List.cons_append]
  gi_wp2_with fail
  refine ⟨trivial, rfl, (callsIn_wide.2 hSk0.out).mono ?_⟩
  rintro e w1 ⟨rfl, hb1⟩
  have hz1 := hb1.size
  have HJ0 : Hid (J W.heap.size [] w1) := H0.out _ w1 hb1 (Nat.le_refl _) hz1
  have HB1 : Hid (∀ b, b < W.heap.size → b ≠ l → b ∉ S → w1.heap[b]? = W.heap[b]?) := fun b hb _ _ => hb1.block b hb
  have Hg : Hid (∀ W' : World, W'.heap[g]? = W.heap[g]? → W'.cell? ⟨g, 0, none⟩ = some (.string s)) := fun W' h => by
    unfold World.cell? at cg ⊢; rw [h]; exact cg
  have HLt := Lib.hid (fun b (hb : b ∈ lexG) => show b < W.heap.size ∧ b ≠ l ∧ b ∉ S from by
    have h1 := HG.out b hb
    exact ⟨by omega, by omega, hGS b hb⟩)
  obtain ⟨a0, Ha0⟩ : ∃ a0 : Nat, Hid (a0 = 0 + skipG false (s.toList.drop 0)) := ⟨_, rfl⟩
  have ha0 : a0 ≤ s.size := by
    have h1 := skipG_le s.toList false
    rw [ba_len] at h1
    rw [Ha0.out]; simpa using h1
  have HL0 : Hid (L = [] ++ seqOf (lexA wordK a0 (s.toList.drop a0))) := by
    show _ = _
    rw [HL.out, Ha0.out, List.nil_append]
    unfold lexS
    rw [lexA_skip]; simp
  have HS0 : Hid (skipG false (s.toList.drop a0) = 0) := by
    show _ = _
    rw [Ha0.out]; simpa using skip_idem s.toList false
  rw [← Ha0.out]
  clear hSk0 H0 cg hb1 HG Ha0
  gi_wp2_with fail
  gi_loopw [3, 4] (fun i _ wr => ∃ (a : Nat) (pre : List LX), a ≤ s.size ∧ i = .int .i64 a ∧ Hid (L = pre ++ seqOf (lexA wordK a (s.toList.drop a))) ∧ Hid (skipG false (s.toList.drop a) = 0) ∧ Hid (J W.heap.size pre wr) ∧ Hid (∀ b, b < W.heap.size → b ≠ l → b ∉ S → wr.heap[b]? = W.heap[b]?) ∧ W.heap.size ≤ wr.heap.size) (fun i _ _ => s.size - (intOf i).toNat)
  case atStart => exact ⟨a0, [], ha0, rfl, HL0, HS0, HJ0, HB1, hz1⟩
  case round =>
    obtain ⟨a, pre, ha, rfl, HLa, HSa, HJa, HBa, hNa⟩ := hrel
    have i0 : (0 : Int) ≤ (a : Int) := by omega
    have cg := Hg.out wr (HBa.out g hglW hneq hgS)
    by_cases hlt : a < s.size
    · have i1 : (a : Int) < (s.size : Int) := by omega
      have i2 : (a : Int) ≤ (s.size : Int) := by omega
      have hne : s.toList.drop a ≠ [] := by
        intro h
        have := congrArg List.length h
        simp only [List.length_drop, List.length_nil, ba_len] at this; omega
      have HWr : LexW wr := HW.out.keep (fun b hb => HBa.out b (HLt.out b hb).1 (HLt.out b hb).2.1 (HLt.out b hb).2.2)
      have hn := next_any (s.extract a s.size) (by simp; omega) (by simp; omega) wr HWr
      rw [ba_drop] at hn
      unfold tokV at hn
      have hnle := tokL_le (s.toList.drop a)
      have hk1 := fun h => (tokL_len (wk := wordK) (s.toList.drop a) h).1
      have hsb := fun h => seqOf_bad (a := a) hne HSa.out h
      have hst := fun h => seqOf_tok (a := a) hne HSa.out h
      obtain ⟨kk, hkk⟩ : ∃ kk, kk = (tokL wordK (s.toList.drop a)).1 := ⟨_, rfl⟩
      obtain ⟨nn, hnn⟩ : ∃ nn, nn = (tokL wordK (s.toList.drop a)).2 := ⟨_, rfl⟩
      rw [← hkk, ← hnn] at hn
      rw [← hnn, List.length_drop, ba_len] at hnle
      rw [← hkk, ← hnn] at hk1 hst
      rw [← hkk] at hsb
      obtain ⟨tx, Htx⟩ : ∃ tx, Hid (tx = bytes ((s.toList.drop a).take nn)) := ⟨_, rfl⟩
      rw [← Htx.out] at hn
      have hts : tx.size = nn := by
        rw [Htx.out, ← ba_len]; unfold bytes; rw [toList_mk, List.length_take, List.length_drop, ba_len]; omega
      have HN := Lib.hid hn
      have HSB := Lib.hid hsb
      have HST := Lib.hid hst
      have HK1 := Lib.hid hk1
      clear hn hsb hst hk1 hkk hnn hne HWr
      gi_wp2_with fail
      refine ⟨trivial, rfl, (callsIn_wide.2 HN.out).mono ?_⟩
      rintro e w2 ⟨rfl, hb2⟩
      have hz2 := hb2.size
      have hrc : (w2.alloc (.cells #[.int .i64 kk, .string tx, .int .i64 a] 85)).heap[w2.heap.size]? = some (.cells #[.int .i64 kk, .string tx, .int .i64 a] 85 (0, 0)) := heapNew rfl
      obtain ⟨z0, z1, z2, f0, f1, f2⟩ := three_facts hrc
      have hbc : Below wr.heap.size wr (w2.alloc (.cells #[.int .i64 kk, .string tx, .int .i64 a] 85)) := belowA hb2 _
      have hzc : w2.heap.size < (w2.alloc (.cells #[.int .i64 kk, .string tx, .int .i64 a] 85)).heap.size := by simp
      by_cases h0 : kk = 0
      · have q0 : ((kk : Int) == 0) = true := by simp [h0]
        have HX : Hid (L = pre ++ [⟨⟨0, [], a⟩, true⟩]) := by show _ = _; rw [HLa.out, HSB.out h0]
        have HYs := Lib.hid (fun m => HY.out m W.heap.size pre ⟨⟨0, [], a⟩, true⟩ wr _ HJa.out hbc (by rw [HX.out]; exact List.prefix_rfl))
        clear HSB HST HK1 h0
        obtain ⟨fn, tmps, assign, body, hy, hR⟩ := HYs.out 0
        have HRR := Lib.hid hR
        rw [encL_bad] at hy
        clear hR HYs
        gi_wp2_with fail
        refine ⟨rfl, HRR.out.mono ?_⟩
        rintro e w4 (⟨rfl, hj, hz4, hbl, hfr⟩ | ⟨rfl, hj⟩)
        · have HJ4 := Lib.hid hj
          have HE : Hid (pre ++ [⟨⟨0, [], a⟩, true⟩] = L) := HX.out.symm
          clear hj hbl hfr hy HX HLa
          gi_wp2_with fail
          refine bodyPost_ret (results_none rfl _ _ _) rfl ?_
          exact ⟨⟨_, rfl⟩, .inl ⟨W.heap.size, _, HE, HJ4.out⟩⟩
        · have HJ4 := Lib.hid hj
          have HE : Hid (pre ++ [⟨⟨0, [], a⟩, true⟩] <+: L) := by show _ <+: _; rw [HX.out]; exact List.prefix_rfl
          clear hj hy HX HLa
          gi_wp2_with fail
          refine bodyPost_ret (results_none rfl _ _ _) rfl ?_
          exact ⟨⟨_, rfl⟩, .inr ⟨W.heap.size, _, HE, HJ4.out⟩⟩
      · have q0 : ((kk : Int) == 0) = false := by simpa using h0
        have HX : Hid (L = (pre ++ [⟨⟨kk, (s.toList.drop a).take nn, a⟩, false⟩]) ++ seqOf (lexA wordK (a + nn) ((s.toList.drop a).drop nn))) := by
          show _ = _; rw [HLa.out, HST.out h0]; simp
        have hn1 := HK1.out h0
        have HYs := Lib.hid (fun m => HY.out m W.heap.size pre ⟨⟨kk, (s.toList.drop a).take nn, a⟩, false⟩ wr _ HJa.out hbc (by show _ <+: _; rw [HX.out]; exact List.prefix_append _ _))
        have hwz : ((a : Int) + (tx.size : Int)) = ((a + nn : Nat) : Int) := by omega
        have HSk1 := Lib.hid (HSk.out (a + nn) (by omega))
        obtain ⟨a2, Ha2⟩ : ∃ a2 : Nat, Hid (a2 = a + nn + skipG false (s.toList.drop (a + nn))) := ⟨_, rfl⟩
        rw [← Ha2.out] at HSk1
        clear HSB HST HK1 h0
        obtain ⟨fn, tmps, assign, body, hy, hR⟩ := HYs.out 0
        have HRR := Lib.hid hR
        rw [encL_tok] at hy
        simp only [← Htx.out] at hy
        clear hR HYs
        gi_wp2_with fail
        refine ⟨rfl, HRR.out.mono ?_⟩
        rintro e w4 (⟨rfl, hj, hz4, hbl, hfr⟩ | ⟨rfl, hj⟩)
        · have HJ4 := Lib.hid hj
          have HB4 : Hid (∀ b, b < W.heap.size → b ≠ l → b ∉ S → w4.heap[b]? = W.heap[b]?) := fun b hb hbl' hbS => (hbl b hb hbS hbl').trans ((hbc.block b (by omega)).trans (HBa.out b hb hbl' hbS))
          have hr4 := (hfr w2.heap.size hz2 hzc).trans hrc
          obtain ⟨x0, x1, x2, -, -, -⟩ := three_facts hr4
          have cg5 := Hg.out w4 (HB4.out g hglW hneq hgS)
          have hN4 : W.heap.size ≤ w4.heap.size := by omega
          have HL4 : Hid (L = (pre ++ [⟨⟨kk, (s.toList.drop a).take nn, a⟩, false⟩]) ++ seqOf (lexA wordK a2 (s.toList.drop a2))) := by
            show _ = _
            rw [HX.out, List.drop_drop, lexA_skip, List.drop_drop, ← Ha2.out]
          have HS4 : Hid (skipG false (s.toList.drop a2) = 0) := by
            show _ = _
            rw [Ha2.out, ← List.drop_drop]; exact skip_idem _ _
          have ha2 : a2 ≤ s.size := by
            have h1 := skipG_le (s.toList.drop (a + nn)) false
            rw [List.length_drop, ba_len] at h1
            have := Ha2.out; omega
          have ha3 : a < a2 := by have := Ha2.out; omega
          clear hj hbl hfr hy HX HLa HRR hr4 hrc z0 z1 z2 f0 f1 f2 cg
          gi_wp2_with fail
          refine ⟨trivial, rfl, (callsIn_wide.2 (HSk1.out w4)).mono ?_⟩
          rintro e w5 ⟨rfl, hb5⟩
          have hz5 := hb5.size
          have HJ5 := Lib.hid (HJ.out _ _ w4 w5 HJ4.out hb5)
          have HB5 : Hid (∀ b, b < W.heap.size → b ≠ l → b ∉ S → w5.heap[b]? = W.heap[b]?) := fun b hb hbl' hbS => (hb5.block b (by omega)).trans (HB4.out b hb hbl' hbS)
          clear HJ4 HB4 x0 x1 x2 cg5
          gi_wp2_with fail
          go_roundw
          case rel => exact ⟨a2, _, ha2, rfl, HL4, HS4, HJ5, HB5, by omega⟩
          case measure => simp [intOf]; omega
        · have HJ4 := Lib.hid hj
          have HE : Hid (pre ++ [⟨⟨kk, (s.toList.drop a).take nn, a⟩, false⟩] <+: L) := by show _ <+: _; rw [HX.out]; exact List.prefix_append _ _
          clear hj hy HX HLa
          gi_wp2_with fail
          refine bodyPost_ret (results_none rfl _ _ _) rfl ?_
          exact ⟨⟨_, rfl⟩, .inr ⟨W.heap.size, _, HE, HJ4.out⟩⟩
    · have i1 : ¬ (a : Int) < (s.size : Int) := by omega
      have HE : Hid (pre = L) := by
        show _ = _
        rw [HLa.out, List.drop_eq_nil_of_le (by rw [Hlen.out]; omega)]
        simp [lexA, lexF, seqOf]
      clear HLa
      gi_wp2_with fail
      go_end0
      exact ⟨⟨_, rfl⟩, .inl ⟨W.heap.size, pre, HE.out, HJa.out⟩⟩
end Go.Proofs.YtiffmiabhapfnaaGreatDoor

/- lex.All, lex.List. -/
namespace Go.Proofs.YtiffmiabhapfnaaGreatDoor
open Go.RowKit Go.Shelf
attribute [local go_sem] Oper.semAt_some

theorem wpListIn_append_run {F : Fence} {n : Nat} {P : Program} {w w' : World} {ops : Array Oper} {rest : List Oper} {o : Oper} {a : Act} {Q : Exit → Act → World → Prop} {v' : Value} (hg : o.guard = none) (s x : Operand) (t : TypeId)
    (hop : o.op = .call { callee := .builtin .append, args := #[s, x], argTypes := #[t, t] }) (v xv : Value) (hs : a.eval s = v) (hx : a.eval x = xv)
    (hrun : (Builtin.append_ #[t, t] o.type #[v, xv]).run P w = .ok v' w') (h : wpListIn F n P ops Q rest (a.put o.dst v') w') : wpListIn F n P ops Q (o :: rest) a w := by
  refine wpListIn_plain hg fun K hK' => ?_
  unfold Oper.wpIn
  refine ⟨?_, ?_⟩
  · simp [Oper.about, hop, resolve, Target.leads, Sem.run_pure]
  · rw [Oper.semAt_plain F _ _ (by rw [hop]; intro c hc'; cases hc')]
    simp [execOp, hop, resolve, invoke, builtin, hs, hx, hrun, Result.andThen]
    exact hK' _ _ h

/-! ### a slice of tokens -/
def tokCs (q : GTok) : List Value := [.int .i64 q.k, .string (bytes q.t), .int .i64 q.a]
def Enc.tok : Enc GTok where
  sz := 3
  ok _ _ cs q := cs = tokCs q ∧ fits q.k ∧ fits q.a ∧ q.t.length ≤ reachN
  mono _ _ h := h
  len h := by rw [h.1]; rfl
theorem SliceIs.tok_at {w : World} {B : Nat} {A : Option Addr} {n c : Nat} {l : List GTok} (h : SliceIs Enc.tok w B A n c l) {i : Nat} (hi : i < n) :
    ∃ b o x, A = some ⟨b, o, none⟩ ∧ b < B ∧ Hid (l[i]? = some x) ∧ w.cell? ⟨b, o + i * 3, none⟩ = some (.int .i64 x.k) ∧ w.cell? ⟨b, o + i * 3 + 1, none⟩ = some (.string (bytes x.t)) ∧
      w.cell? ⟨b, o + i * 3 + 2, none⟩ = some (.int .i64 x.a) ∧ fits x.k ∧ fits x.a ∧ x.t.length ≤ reachN := by
  obtain ⟨b, o, x, cs, hA, hb, hx, ⟨rfl, h1, h2, h3⟩, hc⟩ := h.at_ hi
  exact ⟨b, o, x, hA, hb, hx, by simpa [Enc.tok] using hc 0 _ rfl, by simpa [Enc.tok] using hc 1 _ rfl, by simpa [Enc.tok] using hc 2 _ rfl, h1, h2, h3⟩
theorem token_info : (Tryz.prog.info? 85).map (fun i => (i.zero, i.size, i.bytes)) = some (some (.agg #[.int .i64 0, .string ⟨#[]⟩, .int .i64 0]), 3, 32) := by kernel_rfl
theorem token_push {W : World} {base : Nat} {A : Option Addr} {c k : Nat} {xs : List GTok} (hown : W.ownsRow base 85 3 (.slice A k c) k (xs.flatMap tokCs)) (q : GTok) (hn : k + 1 ≤ 1000000) (hb : base ≤ W.heap.size) :
    ∃ A' c' w', (∀ ty, (Builtin.append_ #[78, 78] ty #[.slice A k c, .slice (some ⟨W.heap.size, 0, none⟩) 1 1]).run Tryz.prog (W.alloc (.cells #[.int .i64 q.k, .string (bytes q.t), .int .i64 q.a] 85)) = .ok (.slice A' (k + 1) c') w') ∧
      w'.ownsRow base 85 3 (.slice A' (k + 1) c') (k + 1) ((xs ++ [q]).flatMap tokCs) ∧ Out (Value.slice A k c).ownBlock.toList W w' ∧ Below base W w' := by
  have ho : (W.alloc (.cells #[.int .i64 q.k, .string (bytes q.t), .int .i64 q.a] 85)).ownsRow base 85 3 (.slice A k c) k (xs.flatMap tokCs) := own_below hown (belowA (Below.refl _ _) _)
  obtain ⟨v', w', h1, h2, h3, h4⟩ := run_push_at (P := Tryz.prog) (ty := 78) (W.alloc (.cells #[.int .i64 q.k, .string (bytes q.t), .int .i64 q.a] 85)) (base := base) Tryz.underlying78 token_info rfl (by decide) ho W.heap.size (tokCs q) rfl (heapNew rfl) (by intro u hu; simp [tokCs] at hu; rcases hu with rfl | rfl | rfl <;> rfl)
    (by simp [maxLen]; omega) (by omega) (by simp; omega)
  obtain ⟨A', c', rfl⟩ := own_form h2
  refine ⟨A', c', w', fun _ => h1, ?_, ?_, ?_⟩
  · rw [List.flatMap_append]; simpa using h2
  · have h5 := (Out.of_below (belowA (Below.refl W.heap.size W) (.cells #[.int .i64 q.k, .string (bytes q.t), .int .i64 q.a] 85)) (Value.slice A k c).ownBlock.toList)
    exact h5.trans (grown_out h3) (fun b hb _ => hb)
  · exact ((Below.refl base W).alloc hb _).trans h4
theorem toks_is {w : World} {base : Nat} {A : Option Addr} {n c : Nat} {l : List GTok} (h : w.ownsRow base 85 3 (.slice A n c) n (l.flatMap tokCs)) (hl : l.length = n) (hn : n ≤ 1000000) (hok : ∀ q ∈ l, fits q.k ∧ fits q.a ∧ q.t.length ≤ reachN) : SliceIs Enc.tok w w.heap.size A n c l :=
  SliceIs.of_flat (E := Enc.tok) tokCs (fun _ => rfl) h hl (by simp [reachN]; omega) (fun q hq => ⟨rfl, hok q hq⟩)

/-! ### the sequence -/
theorem seq_bad {r : List GTok × Option Nat} {pre : List LX} {x : LX} (h : (pre ++ [x]) <+: seqOf r) (hx : x.bad = true) : ∃ p, r.2 = some p ∧ x = ⟨⟨0, [], p⟩, true⟩ := by
  obtain ⟨t, ht⟩ := h
  have hm : x ∈ seqOf r := by rw [← ht]; simp
  unfold seqOf at hm
  rcases List.mem_append.1 hm with hm | hm
  · obtain ⟨q, -, rfl⟩ := List.mem_map.1 hm; cases hx
  · cases h2 : r.2 with
    | none => rw [h2] at hm; cases hm
    | some p =>
      rw [h2] at hm
      simp only [List.mem_singleton] at hm
      exact ⟨p, rfl, hm⟩
theorem seq_all {r : List GTok × Option Nat} {xs : List LX} (h : xs = seqOf r) (hx : ∀ x ∈ xs, x.bad = false) : r.2 = none ∧ xs.map LX.q = r.1 := by
  subst h
  have h2 : r.2 = none := by
    cases h2 : r.2 with
    | none => rfl
    | some p =>
      exfalso
      have := hx ⟨⟨0, [], p⟩, true⟩ (by unfold seqOf; rw [h2]; simp)
      cases this
  refine ⟨h2, ?_⟩
  unfold seqOf; rw [h2]; simp [Function.comp_def]
theorem seq_len (r : List GTok × Option Nat) : (seqOf r).length ≤ r.1.length + 1 := by
  unfold seqOf
  cases r.2 <;> simp
theorem lex_kind : ∀ (n a : Nat) (l : List UInt8), l.length ≤ n → ∀ q ∈ (lexA wordK a l).1, 1 ≤ q.k ∧ q.k ≤ 5
  | 0, a, l, hn, q, hq => by
    obtain rfl : l = [] := List.eq_nil_of_length_eq_zero (by omega)
    simp [lexA, lexF] at hq
  | n + 1, a, l, hn, q, hq => by
    by_cases h : l.drop (skipG false l) = []
    · rw [lexA_nil _ _ h] at hq; simp at hq
    by_cases h0 : (tokL wordK (l.drop (skipG false l))).1 = 0
    · rw [lexA_bad _ _ h h0] at hq; simp at hq
    have h3 := tokL_len _ h0
    have h4 := tok_range (l.drop (skipG false l))
    rw [lexA_tok _ _ h h0] at hq
    simp only [List.length_drop] at h3
    rcases List.mem_cons.1 hq with rfl | hq
    · simp only; omega
    · exact lex_kind n _ _ (by simp only [List.length_drop]; omega) q hq
theorem lex_fits {l : List UInt8} (hl : l.length ≤ 1000000) : ∀ q ∈ (lexS l).1, fits q.k ∧ fits q.a ∧ q.t.length ≤ reachN := by
  intro q hq
  obtain ⟨h1, h2⟩ := lex_kind _ 0 l (Nat.le_refl _) q hq
  obtain ⟨h3, h4, -⟩ := lex_places _ 0 l (Nat.le_refl _) q hq
  refine ⟨(fits_iff _).2 ⟨by omega, by omega⟩, (fits_iff _).2 ⟨by omega, by omega⟩, by simp [reachN]; omega⟩

/-! ### All -/
def AllPostL (s : ByteArray) (w : World) (e : Ending) (w' : World) : Prop := e = .returned (.func (.func 76) #[] #[.pointer (some ⟨w.heap.size, 0, none⟩)]) ∧ w' = w.alloc (.cells #[.string s] 9)
set_option maxRecDepth 100000 in
theorem lexAll_any (s : ByteArray) (w : World) : Calls Tryz.prog 48 #[.string s] w (AllPostL s w) := by
  go_enter Tryz.func48, Tryz.ntmps48
  go_wp2
  go_ret
  exact ⟨rfl, rfl⟩

/-! ### List -/
def ListPost (s : ByteArray) (w : World) (e : Ending) (w' : World) : Prop := Below w.heap.size w w' ∧
  ((4000 < s.size ∧ e = .returned (.tuple #[.slice none 0 0, .int .i64 4000, .iface 111 (.int .i64 3)])) ∨
   (s.size ≤ 4000 ∧ ((∃ p : Nat, (lexS s.toList).2 = some p ∧ e = .returned (.tuple #[.slice none 0 0, .int .i64 p, .iface 111 (.int .i64 2)])) ∨
    ((lexS s.toList).2 = none ∧ ∃ A c, e = .returned (.tuple #[.slice A (lexS s.toList).1.length c, .int .i64 0, .nilIface]) ∧ SliceIs Enc.tok w' w'.heap.size A (lexS s.toList).1.length c (lexS s.toList).1))))
set_option maxRecDepth 100000 in
set_option maxHeartbeats 4000000 in
theorem list_any (s : ByteArray) (hs : s.size ≤ 140737488351232) (w : World) (hW : LexW w) : Calls Tryz.prog 27 #[.string s] w (ListPost s w) := by
  have HW := Lib.hid hW
  obtain ⟨P, HP⟩ : ∃ P : Ending → World → Prop, Hid (P = ListPost s w) := ⟨_, rfl⟩
  rw [← HP.out]
  clear hW
  refine (callsIn_wide (n := 8)).1 ?_
  refine callsIn_of_wp_marks Tryz.func27 rfl trivial ?_ rfl
  simp only [Tryz.ntmps27, List.size_toArray, List.length_cons, List.length_nil, Nat.reduceAdd, Nat.reduceSub, Array.replicate_succ, Array.replicate_zero, List.push_toArray, List.append_toArray, List.nil_append, List.cons_append]
  refine wpIn_wide.2 ?_
  have Hlen := Lib.hid (ba_len s)
  by_cases h4 : 4000 < s.size
  · have z0 : (4000 : Int) < (s.size : Int) := by omega
    have HE : Hid (∀ w', Below w.heap.size w w' → P (.returned (.tuple #[.slice none 0 0, .int .i64 4000, .iface 111 (.int .i64 3)])) w') := fun w' hb => by rw [HP.out]; exact ⟨hb, .inl ⟨h4, rfl⟩⟩
    clear h4
    go_wp2_with fail
    exact ⟨.tuple #[.slice none 0 0, .int .i64 4000, .iface 111 (.int .i64 3)], by simp [results, Tryz.results27, go_sem], HE.out _ (belowA (belowA (belowA (Below.refl _ _) _) _) _)⟩
  have z0 : ¬ (4000 : Int) < (s.size : Int) := by omega
  have HE1 : Hid (∀ w' (p : Nat), Below w.heap.size w w' → (lexS s.toList).2 = some p → P (.returned (.tuple #[.slice none 0 0, .int .i64 p, .iface 111 (.int .i64 2)])) w') := fun w' p hb hp => by rw [HP.out]; exact ⟨hb, .inr ⟨by omega, .inl ⟨p, hp, rfl⟩⟩⟩
  have HE2 : Hid (∀ w' A c, Below w.heap.size w w' → (lexS s.toList).2 = none → SliceIs Enc.tok w' w'.heap.size A (lexS s.toList).1.length c (lexS s.toList).1 → P (.returned (.tuple #[.slice A (lexS s.toList).1.length c, .int .i64 0, .nilIface])) w') := fun w' A c hb hp hA => by rw [HP.out]; exact ⟨hb, .inr ⟨by omega, .inr ⟨hp, A, c, rfl, hA⟩⟩⟩
  clear HP
  go_wp2_with fail
  refine (lexAll_any s _).mono ?_
  rintro e w1 ⟨rfl, hw1⟩
  have hr0 : w1.heap[w.heap.size]? = some (.cells #[.slice none 0 0] 78 (0, 0)) := by rw [hw1]; exact heapOld (heapOld (heapOld (heapOld (heapNew rfl))))
  have hr1 : w1.heap[w.heap.size + 1]? = some (.cells #[.int .i64 0] 3 (0, 0)) := by rw [hw1]; exact heapOld (heapOld (heapOld (heapNew (by simp))))
  have hr2 : w1.heap[w.heap.size + 1 + 1]? = some (.cells #[.nilIface] 80 (0, 0)) := by rw [hw1]; exact heapOld (heapOld (heapNew (by simp)))
  have hr3 : w1.heap[w.heap.size + 1 + 1 + 1]? = some (.cells #[.slice none 0 0] 78 (0, 0)) := by rw [hw1]; exact heapOld (heapNew (by simp))
  have hr4 : w1.heap[w.heap.size + 1 + 1 + 1 + 1]? = some (.cells #[.string s] 9 (0, 0)) := by rw [hw1]; exact heapNew (by simp)
  have hbw : Below w.heap.size w w1 := by rw [hw1]; exact belowA (belowA (belowA (belowA (belowA (Below.refl _ _) _) _) _) _) _
  clear hw1
  have hz1 := (Array.getElem?_eq_some_iff.1 hr4).1
  have hW1 := HW.out.on hbw
  have HLT := HW.out.lt
  have HQ := Lib.hid (lexAll_seq hW1 s hs ((cell_of_row _ _ 0 _ _ _ hr4).trans rfl) [w.heap.size, w.heap.size + 1, w.heap.size + 1 + 1, w.heap.size + 1 + 1 + 1] (by simp; omega) (fun b hb => by have := HLT b hb; simp; omega))
  clear hW1 HLT HW hr4
  simp only [World.size_alloc]
  have Hfit : Hid (s.size ≤ 4000 → ∀ q ∈ (lexS s.toList).1, fits q.k ∧ fits q.a ∧ q.t.length ≤ reachN) := fun h => lex_fits (by rw [ba_len]; omega)
  have HsL : Hid ((lexS s.toList).1.length ≤ s.size) := by
    have h1 := (lex_len (wk := wordK) _ 0 s.toList (Nat.le_refl _)).2
    rw [ba_len] at h1; exact h1
  have hs4 : s.size ≤ 4000 := by omega
  go_wp2_with fail
  refine (wpIn_wide (n := 8)).1 (range_law2 (hg := rfl) (eg := enters_of Tryz.func76 (by kernel_rfl) rfl) (hseq := HQ.out) (hb0 := Below.refl _ _) ?hS (hps := fun _ => rfl)
    (I := fun N pre W => Hid (∀ x ∈ pre, x.bad = false) ∧ W.heap[w.heap.size]? = some (.cells #[.slice none 0 0] 78 (0, 0)) ∧ W.heap[w.heap.size + 1]? = some (.cells #[.int .i64 0] 3 (0, 0)) ∧ W.heap[w.heap.size + 1 + 1]? = some (.cells #[.nilIface] 80 (0, 0)) ∧
      (∃ A c, W.heap[w.heap.size + 1 + 1 + 1]? = some (.cells #[.slice A pre.length c] 78 (0, 0)) ∧ Hid (W.ownsRow N 85 3 (.slice A pre.length c) pre.length ((pre.map LX.q).flatMap tokCs))) ∧ Below w.heap.size w W ∧ pre.length ≤ 4001 ∧ w1.heap.size ≤ N)
    (Ix := fun c N pre W => c = .ret ∧ ∃ p : Nat, Hid ((lexS s.toList).2 = some p) ∧ W.heap[w.heap.size]? = some (.cells #[.slice none 0 0] 78 (0, 0)) ∧ W.heap[w.heap.size + 1]? = some (.cells #[.int .i64 p] 3 (0, 0)) ∧ W.heap[w.heap.size + 1 + 1]? = some (.cells #[.iface 111 (.int .i64 2)] 80 (0, 0)) ∧ Below w.heap.size w W)
    ?hI ?hIx ?h0 ?round ?done ?stop)
  case hS => intro b hb; simp at hb; omega
  case hI =>
    rintro N pre W W' ⟨h1, h2, h3, h4, ⟨A, c, h5, h6⟩, h7, h8⟩ hs'
    exact ⟨h1, hs'.row h2, hs'.row h3, hs'.row h4, ⟨A, c, hs'.row h5, hs'.own h6.out⟩, h7.trans (hs'.below (by omega) h7.size), h8⟩
  case hIx =>
    rintro c N pre W W' ⟨h1, p, h2, h3, h4, h5, h6⟩ hs'
    exact ⟨h1, p, h2, hs'.row h3, hs'.row h4, hs'.row h5, h6.trans (hs'.below (by omega) h6.size)⟩
  case h0 =>
    intro N W hs' hN0 _
    exact ⟨(fun x hx => by cases hx), hs'.row hr0, hs'.row hr1, hs'.row hr2, ⟨none, 0, hs'.row hr3, World.ownsRow_nil _ _ _ _⟩, hbw.trans (hs'.below (by omega) hbw.size), by simp, by omega⟩
  case round =>
    rintro k N pre ⟨q, bad⟩ W0 W1 K ⟨h1, h2, h3, h4, ⟨A, c, h5, h6⟩, h7, h8⟩ hs' hN hN2 hW01 hx hK
    have HK := Lib.hid hK
    have HX := Lib.hid hx
    have H6 := Lib.hid h6.out
    clear hK hx h6
    have hb1 : Below w.heap.size w W1 := h7.trans (hs'.below (by omega) h7.size)
    have t0 := hs'.row h2
    have t1 := hs'.row h3
    have t2 := hs'.row h4
    have t3 := hs'.row h5
    have hpl2 : (pre ++ [(⟨q, false⟩ : LX)]).length = pre.length + 1 := by simp
    have Hpl := Lib.hid hpl2
    have hps : pre.length ≤ 4000 := by
      have h9 := HX.out.length_le
      have h10 := seq_len (lexS s.toList)
      have := HsL.out
      simp only [List.length_append, List.length_cons, List.length_nil] at h9; omega
    clear hpl2 h2 h3 h4 h5 HQ hr0 hr1 hr2 hr3
    cases bad with
    | true =>
      obtain ⟨p, hp, hxe⟩ := seq_bad HX.out rfl
      obtain rfl : q = ⟨0, [], p⟩ := by injection hxe
      have HPp := Lib.hid hp
      rw [encL_bad]
      clear hp hxe
      gi_wp2
      refine HK.out _ _ (belowA (Below.refl _ _) _) (fun W2 hs2 hz2 => ?_)
      clear HK
      have v0 := hs2.row (heapOld (o := .cells #[.int .i64 0, .string ⟨#[]⟩, .int .i64 p] 85) t0)
      have v1 := hs2.row (heapOld (o := .cells #[.int .i64 0, .string ⟨#[]⟩, .int .i64 p] 85) t1)
      have v2 := hs2.row (heapOld (o := .cells #[.int .i64 0, .string ⟨#[]⟩, .int .i64 p] 85) t2)
      have vb := hs2.row (heapNew (w := W1) (o := .cells #[.int .i64 0, .string ⟨#[]⟩, .int .i64 p] 85) (g := W1.heap.size) rfl)
      have hb2 : Below w.heap.size w W2 := (belowA hb1 (.cells #[.int .i64 0, .string ⟨#[]⟩, .int .i64 p] 85)).trans (hs2.below (by omega) (belowA hb1 _).size)
      have x2 : W2.cell? ⟨W1.heap.size, 2, none⟩ = some (.int .i64 p) := (cell_of_row _ _ 2 _ _ _ vb).trans rfl
      have c0 : W2.cell? ⟨w.heap.size, 0, none⟩ = some (.slice none 0 0) := (cell_of_row _ _ 0 _ _ _ v0).trans rfl
      have c1 : W2.cell? ⟨w.heap.size + 1, 0, none⟩ = some (.int .i64 0) := (cell_of_row _ _ 0 _ _ _ v1).trans rfl
      have c2 : W2.cell? ⟨w.heap.size + 1 + 1, 0, none⟩ = some .nilIface := (cell_of_row _ _ 0 _ _ _ v2).trans rfl
      have f0 : W2.frozen? ⟨w.heap.size, 0, none⟩ = false := frozen_of_row _ _ _ _ _ v0
      have f1 : W2.frozen? ⟨w.heap.size + 1, 0, none⟩ = false := frozen_of_row _ _ _ _ _ v1
      have f2 : W2.frozen? ⟨w.heap.size + 1 + 1, 0, none⟩ = false := frozen_of_row _ _ _ _ _ v2
      clear t0 t1 t2 t3
      have hne0 : ¬ W1.heap.size = w.heap.size := by omega
      have hne1 : ¬ W1.heap.size = w.heap.size + 1 := by omega
      have hne2 : ¬ W1.heap.size = w.heap.size + 1 + 1 := by omega
      have HZ2 := Lib.hid hz2
      have HV0 := Lib.hid v0
      have HV1 := Lib.hid v1
      have HV2 := Lib.hid v2
      have hn0 : w.heap.size < W0.heap.size := by omega
      have o1 := set_out W2 w.heap.size 0 (.slice none 0 0)
      have o2 := set_out (W2.setCell ⟨w.heap.size, 0, none⟩ (.slice none 0 0)) (w.heap.size + 1) 0 (.int .i64 p)
      have o3 := set_out ((W2.setCell ⟨w.heap.size, 0, none⟩ (.slice none 0 0)).setCell ⟨w.heap.size + 1, 0, none⟩ (.int .i64 p)) (w.heap.size + 1 + 1) 0 (.iface 111 (.int .i64 2))
      have oo := ((o1.mono (T := [w.heap.size, w.heap.size + 1, w.heap.size + 1 + 1]) (fun b hb _ => by simp at hb; simp [hb])).trans o2 (fun b hb _ => by simp at hb; simp [hb])).trans o3 (fun b hb _ => by simp at hb; simp [hb])
      have k0 := (World.heap_setCells_other' (g := w.heap.size + 1 + 1) (i := 0) (v := .iface 111 (.int .i64 2)) (b := w.heap.size) (by omega)).trans ((World.heap_setCells_other' (g := w.heap.size + 1) (i := 0) (v := .int .i64 p) (b := w.heap.size) (by omega)).trans (set_zero (v := .slice none 0 0) v0))
      have k1 := (World.heap_setCells_other' (g := w.heap.size + 1 + 1) (i := 0) (v := .iface 111 (.int .i64 2)) (b := w.heap.size + 1) (by omega)).trans (set_zero (v := .int .i64 p) ((World.heap_setCells_other' (g := w.heap.size) (i := 0) (v := .slice none 0 0) (b := w.heap.size + 1) (by omega)).trans v1))
      have k2 := set_zero (v := .iface 111 (.int .i64 2)) ((World.heap_setCells_other' (g := w.heap.size + 1) (i := 0) (v := .int .i64 p) (b := w.heap.size + 1 + 1) (by omega)).trans ((World.heap_setCells_other' (g := w.heap.size) (i := 0) (v := .slice none 0 0) (b := w.heap.size + 1 + 1) (by omega)).trans v2))
      have hzW : W1.heap.size < W2.heap.size := by rw [hz2]; simp
      have HT : Hid (Turn2 [w.heap.size, w.heap.size + 1, w.heap.size + 1 + 1, w.heap.size + 1 + 1 + 1] N W0.heap.size W2 (((W2.setCell ⟨w.heap.size, 0, none⟩ (.slice none 0 0)).setCell ⟨w.heap.size + 1, 0, none⟩ (.int .i64 p)).setCell ⟨w.heap.size + 1 + 1, 0, none⟩ (.iface 111 (.int .i64 2))).drew) :=
        Turn2.of_out (oo.trans (Out.of_below (Below.drew (Below.refl _ _)) []) (by simp)) (by omega) (fun b hb _ => by
          simp at hb
          exact ⟨.inl (by simp; omega), by omega⟩)
      have HB3 : Hid (Below w.heap.size w (((W2.setCell ⟨w.heap.size, 0, none⟩ (.slice none 0 0)).setCell ⟨w.heap.size + 1, 0, none⟩ (.int .i64 p)).setCell ⟨w.heap.size + 1 + 1, 0, none⟩ (.iface 111 (.int .i64 2))).drew) := hb2.trans ((oo.trans (Out.of_below (Below.drew (Below.refl _ _)) []) (by simp)).below (by simp; omega) hb2.size)
      have HK0 : Hid ((((W2.setCell ⟨w.heap.size, 0, none⟩ (.slice none 0 0)).setCell ⟨w.heap.size + 1, 0, none⟩ (.int .i64 p)).setCell ⟨w.heap.size + 1 + 1, 0, none⟩ (.iface 111 (.int .i64 2))).drew.heap[w.heap.size]? = some (.cells #[.slice none 0 0] 78 (0, 0))) := k0
      have HK1 : Hid ((((W2.setCell ⟨w.heap.size, 0, none⟩ (.slice none 0 0)).setCell ⟨w.heap.size + 1, 0, none⟩ (.int .i64 p)).setCell ⟨w.heap.size + 1 + 1, 0, none⟩ (.iface 111 (.int .i64 2))).drew.heap[w.heap.size + 1]? = some (.cells #[.int .i64 p] 3 (0, 0))) := k1
      have HK2 : Hid ((((W2.setCell ⟨w.heap.size, 0, none⟩ (.slice none 0 0)).setCell ⟨w.heap.size + 1, 0, none⟩ (.int .i64 p)).setCell ⟨w.heap.size + 1 + 1, 0, none⟩ (.iface 111 (.int .i64 2))).drew.heap[w.heap.size + 1 + 1]? = some (.cells #[.iface 111 (.int .i64 2)] 80 (0, 0))) := k2
      clear hz2 v0 v1 v2 vb o1 o2 o3 oo k0 k1 k2
      gi_wp2_with fail
      gi_region
      all_goals
        gi_wp2_with fail
        exact ⟨HT.out, rfl, p, HPp, HK0.out, HK1.out, HK2.out, HB3.out⟩
    | false =>
      rw [encL_tok]
      gi_wp2
      refine HK.out _ _ (belowA (Below.refl _ _) _) (fun W2 hs2 hz2 => ?_)
      clear HK
      have v0 := hs2.row (heapOld (o := .cells #[.int .i64 q.k, .string (bytes q.t), .int .i64 q.a] 85) t0)
      have v1 := hs2.row (heapOld (o := .cells #[.int .i64 q.k, .string (bytes q.t), .int .i64 q.a] 85) t1)
      have v2 := hs2.row (heapOld (o := .cells #[.int .i64 q.k, .string (bytes q.t), .int .i64 q.a] 85) t2)
      have v3 := hs2.row (heapOld (o := .cells #[.int .i64 q.k, .string (bytes q.t), .int .i64 q.a] 85) t3)
      have vb := hs2.row (heapNew (w := W1) (o := .cells #[.int .i64 q.k, .string (bytes q.t), .int .i64 q.a] 85) (g := W1.heap.size) rfl)
      have hb2 : Below w.heap.size w W2 := (belowA hb1 (.cells #[.int .i64 q.k, .string (bytes q.t), .int .i64 q.a] 85)).trans (hs2.below (by omega) (belowA hb1 _).size)
      obtain ⟨x0, x1, x2, -, -, -⟩ := three_facts vb
      have c3 : W2.cell? ⟨w.heap.size + 1 + 1 + 1, 0, none⟩ = some (.slice A pre.length c) := (cell_of_row _ _ 0 _ _ _ v3).trans rfl
      have hzW : W1.heap.size < W2.heap.size := by rw [hz2]; simp
      have H62 := Lib.hid (hs2.own (own_below (hs'.own H6.out) (belowA (Below.refl _ _) (.cells #[.int .i64 q.k, .string (bytes q.t), .int .i64 q.a] 85))))
      have HBl : Hid (∀ b, (Value.slice A pre.length c).ownBlock = some b → N ≤ b ∧ b < W0.heap.size) := fun b hb => own_blk H6.out hb
      obtain ⟨A9, c9, w9, q1, q2, q3, q4⟩ := token_push H62.out q (by omega) (by omega)
      have r0 := (q4.block _ (by omega)).trans v0
      have r1 := (q4.block _ (by omega)).trans v1
      have r2 := (q4.block _ (by omega)).trans v2
      have r3 := (q4.block _ (by omega)).trans v3
      have y3 : w9.cell? ⟨w.heap.size + 1 + 1 + 1, 0, none⟩ = some (.slice A pre.length c) := (cell_of_row _ _ 0 _ _ _ r3).trans rfl
      have f3 : w9.frozen? ⟨w.heap.size + 1 + 1 + 1, 0, none⟩ = false := frozen_of_row _ _ _ _ _ r3
      have HRun := Lib.hid q1
      have Q2 := Lib.hid q2
      have HR0 := Lib.hid r0
      have HR1 := Lib.hid r1
      have HR2 := Lib.hid r2
      have HR3 := Lib.hid r3
      have hb9 : Below w.heap.size w w9 := hb2.trans (q4.mono (by omega))
      have HT : Hid (Turn2 [w.heap.size, w.heap.size + 1, w.heap.size + 1 + 1, w.heap.size + 1 + 1 + 1] N W0.heap.size W2 (w9.setCell ⟨w.heap.size + 1 + 1 + 1, 0, none⟩ (.slice A9 (pre.length + 1) c9))) :=
        Turn2.of_out (T := (w.heap.size + 1 + 1 + 1) :: (Value.slice A pre.length c).ownBlock.toList) ((q3.mono (fun b hb _ => List.mem_cons_of_mem _ hb)).trans (set_out w9 _ 0 _) (fun b hb _ => by simp at hb; simp [hb])) (by omega) (fun b hb _ => by
          rcases List.mem_cons.1 hb with hb | hb
          · exact ⟨.inl (by simp [hb]), by omega⟩
          · have := HBl.out b (by simpa using hb)
            exact ⟨.inr this.1, this.2⟩)
      clear t0 t1 t2 t3 v0 v1 v2 v3 q1 q2 q3 r0 r1 r2 r3 H62 H6
      have HZ2 := Lib.hid hz2
      clear hz2
      gi_wp2_with (gi_at_builtin; refine wpListIn_append_run (o := ⟨some 24, _, _, _, _, _⟩) rfl _ _ _ rfl _ _ rfl rfl (HRun.out _) ?_)
      refine ⟨HT.out, ?_, (World.heap_setCells_other' (by omega)).trans HR0.out, (World.heap_setCells_other' (by omega)).trans HR1.out, (World.heap_setCells_other' (by omega)).trans HR2.out, ⟨A9, c9, ?_, ?_⟩, hb9.setCell (by show w.heap.size ≤ w.heap.size + 1 + 1 + 1; omega) _, by rw [Hpl.out]; omega, by omega⟩
      · intro x hx
        rcases List.mem_append.1 hx with hx | hx
        · exact h1.out x hx
        · simp at hx; rw [hx]
      · rw [Hpl.out]; exact set_zero HR3.out
      · show World.ownsRow _ _ _ _ _ _ _
        rw [Hpl.out, List.map_append]
        exact own_out' Q2.out (set_out w9 _ 0 _) (fun b hb hb' => by have := (own_blk Q2.out hb).1; simp at hb'; omega)
  case done =>
    rintro N xs W hxs ⟨h1, h2, h3, h4, ⟨A, c, h5, h6⟩, h7, h8⟩ hD
    obtain ⟨hn, hm⟩ := seq_all hxs.out h1.out
    have hl : xs.length = (lexS s.toList).1.length := by rw [← hm, List.length_map]
    have H6 := h6.out
    rw [hm] at H6
    rw [hl] at h5 H6
    have hNw := h8.2
    have Hn := Lib.hid hn
    have c0 : W.cell? ⟨w.heap.size, 0, none⟩ = some (.slice none 0 0) := (cell_of_row _ _ 0 _ _ _ h2).trans rfl
    have c1 : W.cell? ⟨w.heap.size + 1, 0, none⟩ = some (.int .i64 0) := (cell_of_row _ _ 0 _ _ _ h3).trans rfl
    have c2 : W.cell? ⟨w.heap.size + 1 + 1, 0, none⟩ = some .nilIface := (cell_of_row _ _ 0 _ _ _ h4).trans rfl
    have c3 : W.cell? ⟨w.heap.size + 1 + 1 + 1, 0, none⟩ = some (.slice A (lexS s.toList).1.length c) := (cell_of_row _ _ 0 _ _ _ h5).trans rfl
    have f0 : W.frozen? ⟨w.heap.size, 0, none⟩ = false := frozen_of_row _ _ _ _ _ h2
    have f1 : W.frozen? ⟨w.heap.size + 1, 0, none⟩ = false := frozen_of_row _ _ _ _ _ h3
    have f2 : W.frozen? ⟨w.heap.size + 1 + 1, 0, none⟩ = false := frozen_of_row _ _ _ _ _ h4
    have HH2 := Lib.hid h2
    have HH3 := Lib.hid h3
    have HH4 := Lib.hid h4
    have HH6 := Lib.hid H6
    have HDl := Lib.hid (Array.getElem?_eq_some_iff.1 hD).1
    clear h1 h2 h3 h4 h5 h6 H6 hn hm hl hxs HQ hr0 hr1 hr2 hr3 h8
    go_wp2_with fail
    have o1 := set_out W w.heap.size 0 (.slice A (lexS s.toList).1.length c)
    have o2 := set_out (W.setCell ⟨w.heap.size, 0, none⟩ (.slice A (lexS s.toList).1.length c)) (w.heap.size + 1) 0 (.int .i64 0)
    have o3 := set_out ((W.setCell ⟨w.heap.size, 0, none⟩ (.slice A (lexS s.toList).1.length c)).setCell ⟨w.heap.size + 1, 0, none⟩ (.int .i64 0)) (w.heap.size + 1 + 1) 0 .nilIface
    have oo := ((o1.mono (T := [w.heap.size, w.heap.size + 1, w.heap.size + 1 + 1]) (fun b hb _ => by simp at hb; simp [hb])).trans o2 (fun b hb _ => by simp at hb; simp [hb])).trans o3 (fun b hb _ => by simp at hb; simp [hb])
    have k0 := (World.heap_setCells_other' (g := w.heap.size + 1 + 1) (i := 0) (v := .nilIface) (b := w.heap.size) (by omega)).trans ((World.heap_setCells_other' (g := w.heap.size + 1) (i := 0) (v := .int .i64 0) (b := w.heap.size) (by omega)).trans (set_zero (v := .slice A (lexS s.toList).1.length c) HH2.out))
    have k1 := (World.heap_setCells_other' (g := w.heap.size + 1 + 1) (i := 0) (v := .nilIface) (b := w.heap.size + 1) (by omega)).trans (set_zero (v := .int .i64 0) ((World.heap_setCells_other' (g := w.heap.size) (i := 0) (v := .slice A (lexS s.toList).1.length c) (b := w.heap.size + 1) (by omega)).trans HH3.out))
    have k2 := set_zero (v := .nilIface) ((World.heap_setCells_other' (g := w.heap.size + 1) (i := 0) (v := .int .i64 0) (b := w.heap.size + 1 + 1) (by omega)).trans ((World.heap_setCells_other' (g := w.heap.size) (i := 0) (v := .slice A (lexS s.toList).1.length c) (b := w.heap.size + 1 + 1) (by omega)).trans HH4.out))
    have hD2 := (oo.block w1.heap.size HDl.out (by simp; omega)).trans hD
    have H6f := own_out' HH6.out oo (fun b hb hb' => by have := (own_blk HH6.out hb).1; simp at hb'; omega)
    have hbf : Below w.heap.size w (((W.setCell ⟨w.heap.size, 0, none⟩ (.slice A (lexS s.toList).1.length c)).setCell ⟨w.heap.size + 1, 0, none⟩ (.int .i64 0)).setCell ⟨w.heap.size + 1 + 1, 0, none⟩ .nilIface) := h7.trans (oo.below (by simp; omega) h7.size)
    generalize (((W.setCell ⟨w.heap.size, 0, none⟩ (.slice A (lexS s.toList).1.length c)).setCell ⟨w.heap.size + 1, 0, none⟩ (.int .i64 0)).setCell ⟨w.heap.size + 1 + 1, 0, none⟩ .nilIface) = Wf at *
    refine ⟨by simp, .inl ⟨_, _, rfl, run_takeDeferred hD2, ?_⟩⟩
    have hsf : Soft w1.heap.size Wf (Wf.putObj w1.heap.size (.deferred none)) := Soft.putObj _ (Nat.le_refl _) hD2 rfl
    have x0 : (Wf.putObj w1.heap.size (.deferred none)).cell? ⟨w.heap.size, 0, none⟩ = some (.slice A (lexS s.toList).1.length c) := (cell_of_row _ _ 0 _ _ _ (hsf.row k0)).trans rfl
    have x1 : (Wf.putObj w1.heap.size (.deferred none)).cell? ⟨w.heap.size + 1, 0, none⟩ = some (.int .i64 0) := (cell_of_row _ _ 0 _ _ _ (hsf.row k1)).trans rfl
    have x2 : (Wf.putObj w1.heap.size (.deferred none)).cell? ⟨w.heap.size + 1 + 1, 0, none⟩ = some .nilIface := (cell_of_row _ _ 0 _ _ _ (hsf.row k2)).trans rfl
    have hpost := HE2.out (Wf.putObj w1.heap.size (.deferred none)) A c (hbf.trans (hsf.below (by omega) hbf.size)) Hn.out (toks_is (hsf.own H6f) rfl (by have := HsL.out; omega) (Hfit.out hs4))
    clear o1 o2 o3 oo k0 k1 k2 hD2 H6f hsf hbf hD c0 c1 c2 c3 f0 f1 f2 hNw h7
    exact ⟨.tuple #[.slice A (lexS s.toList).1.length c, .int .i64 0, .nilIface], by simp [results, Tryz.results27, go_sem, x0, x1, x2], hpost⟩
  case stop =>
    rintro c N pre W hSp ⟨rfl, p, h2, h3, h4, h5, h6⟩ hD
    refine wpIn_wide.2 ?_
    go_wp2_with fail
    refine ⟨by simp, .inl ⟨_, _, rfl, run_takeDeferred hD, ?_⟩⟩
    have hsf : Soft w1.heap.size W (W.putObj w1.heap.size (.deferred none)) := Soft.putObj _ (Nat.le_refl _) hD rfl
    have x0 : (W.putObj w1.heap.size (.deferred none)).cell? ⟨w.heap.size, 0, none⟩ = some (.slice none 0 0) := (cell_of_row _ _ 0 _ _ _ (hsf.row h3)).trans rfl
    have x1 : (W.putObj w1.heap.size (.deferred none)).cell? ⟨w.heap.size + 1, 0, none⟩ = some (.int .i64 p) := (cell_of_row _ _ 0 _ _ _ (hsf.row h4)).trans rfl
    have x2 : (W.putObj w1.heap.size (.deferred none)).cell? ⟨w.heap.size + 1 + 1, 0, none⟩ = some (.iface 111 (.int .i64 2)) := (cell_of_row _ _ 0 _ _ _ (hsf.row h5)).trans rfl
    have hpost := HE1.out (W.putObj w1.heap.size (.deferred none)) p (h6.trans (hsf.below (by omega) h6.size)) h2.out
    clear hsf hD h3 h4 h5 h6
    exact ⟨.tuple #[.slice none 0 0, .int .i64 p, .iface 111 (.int .i64 2)], by simp [results, Tryz.results27, go_sem, x0, x1, x2], hpost⟩
end Go.Proofs.YtiffmiabhapfnaaGreatDoor

/- two tokens held against each other -/
namespace Go.Proofs.YtiffmiabhapfnaaGreatDoor
open Go.RowKit

def tokEq (x y : GTok) : Bool := decide (x.k = y.k) && (decide (x.t = y.t) && decide (x.a = y.a))
theorem run_eql_token (x y : GTok) (w : World) : (binOp .eql 85 (tokC x) (tokC y)).run Tryz.prog w = .ok (.bool (tokEq x y)) w := by
  unfold tokC
  rw [run_eql_struct, run_equalIn_agg (ht := by kernel_rfl) (hp := by kernel_rfl)]
  have e1 : (bytes x.t).toList = x.t := toList_mk _
  have e2 : (bytes y.t).toList = y.t := toList_mk _
  simp [go_sem, tokEq, e1, e2]
  by_cases h1 : x.k = y.k <;> by_cases h2 : x.t = y.t <;> by_cases h3 : x.a = y.a <;> simp [h1, h2, h3] <;> omega
end Go.Proofs.YtiffmiabhapfnaaGreatDoor

/- The document's inside, in and word. -/
namespace Go.Proofs.YtiffmiabhapfnaaGreatDoor
open Go.RowKit

set_option linter.unusedSimpArgs false in
set_option maxRecDepth 100000 in
set_option maxHeartbeats 1000000 in
theorem inside_any (c : UInt8) (w : World) : Calls Tryz.prog 101 #[.int .u8 c.toNat] w (RetSameB (insB c) w) := by
  have HE : Hid (insB c = ((decide (97 ≤ c.toNat) && decide (c.toNat ≤ 122)) || (decide (65 ≤ c.toNat) && decide (c.toNat ≤ 90)) || (decide (48 ≤ c.toNat) && decide (c.toNat ≤ 57)) || decide (c.toNat = 95))) := rfl
  rw [HE.out]
  clear HE
  generalize c.toNat = r
  by_cases h1 : (97 : Int) ≤ r <;> by_cases h2 : (r : Int) ≤ 122 <;> by_cases h3 : (65 : Int) ≤ r <;> by_cases h4 : (r : Int) ≤ 90 <;> by_cases h5 : (48 : Int) ≤ r <;> by_cases h6 : (r : Int) ≤ 57 <;> by_cases h7 : (r : Int) = 95 <;> (try (exfalso; omega))
  all_goals
    have z7 : ((r : Int) == 95) = decide ((r : Int) = 95) := by rw [Bool.eq_iff_iff]; simp
    simp only [h7, decide_true, decide_false] at z7
    have g1 : (97 ≤ r) = (97 ≤ r) := rfl
    have e : ((decide (97 ≤ r) && decide (r ≤ 122)) || (decide (65 ≤ r) && decide (r ≤ 90)) || (decide (48 ≤ r) && decide (r ≤ 57)) || decide (r = 95)) = (((decide ((97 : Int) ≤ r) && decide ((r : Int) ≤ 122)) || (decide ((65 : Int) ≤ r) && decide ((r : Int) ≤ 90)) || (decide ((48 : Int) ≤ r) && decide ((r : Int) ≤ 57)) || decide ((r : Int) = 95))) := by
      rw [Bool.eq_iff_iff]; simp; omega
    simp only [h1, h2, h3, h4, h5, h6, h7, decide_true, decide_false, Bool.and_true, Bool.true_and, Bool.and_false, Bool.false_and, Bool.or_true, Bool.true_or, Bool.or_false, Bool.false_or] at e
    rw [e]
    clear e g1
    go_enter Tryz.func101, Tryz.ntmps101
    go_wp2
    go_ret
    exact ⟨rfl, rfl⟩

theorem mem_take_succ5 {l : List ByteArray} {k : Nat} {s x : ByteArray} (hx : l[k]? = some x) : s ∈ l.take (k + 1) ↔ s ∈ l.take k ∨ x = s := by
  rw [List.take_add_one, hx]
  simp [eq_comm]
set_option linter.unusedSimpArgs false in
set_option maxRecDepth 100000 in
set_option maxHeartbeats 400000 in
theorem in_any (A : Option Addr) (n c : Nat) (l : List ByteArray) (s : ByteArray) (w : World) (hl : SliceIs Enc.str w w.heap.size A n c l) :
    Calls Tryz.prog 103 #[.slice A n c, .string s] w (RetSameB (decide (s ∈ l)) w) := by
  have hn := hl.bound
  have hlen := Lib.hid hl.1
  go_enter Tryz.func103, Tryz.ntmps103
  go_wp2
  go_loop [5] (fun i => ∃ k : Nat, k ≤ n ∧ i = .int .i64 k ∧ Hid (s ∉ l.take k)) (fun i => n - (intOf i).toNat)
  case atStart => exact ⟨0, by omega, rfl, by simp [Hid]⟩
  case round =>
    obtain ⟨k, hk, rfl, hpre⟩ := hrel
    by_cases hlt : k < n
    · obtain ⟨b, o, x, rfl, _, hx, hc, hs⟩ := hl.str_at hlt
      have i0 : (0 : Int) ≤ (k : Int) := by omega
      have i1 : (k : Int) < (n : Int) := by omega
      have hb := World.block_lt_of_cell? w _ hc
      clear hl
      by_cases h1 : x = s
      · have h1' : (x.toList == s.toList) = true := by simp [h1]
        have HR : Hid (decide (s ∈ l) = true) := by show decide (s ∈ l) = true; rw [← h1]; simpa using List.mem_of_getElem? hx.out
        clear h1
        go_wp2
        go_ret
        exact ⟨by rw [HR.out]; rfl, rfl⟩
      · have h1' : (x.toList == s.toList) = false := by simp [toList_inj, h1]
        have HN : Hid (s ∉ l.take (k + 1)) := by
          show ¬ _
          rw [mem_take_succ5 hx.out]; intro h; rcases h with h | h
          · exact hpre.out h
          · exact h1 h
        clear h1
        go_wp2
        go_round
        case rel => exact ⟨k + 1, by omega, by go_num, HN⟩
        case measure => simp [intOf]; omega
    · have HR : Hid (decide (s ∈ l) = false) := by
        show decide (s ∈ l) = false
        have h := hpre.out
        rw [List.take_of_length_le (by have := hlen.out; omega)] at h
        simpa using h
      have i1 : ¬ (k : Int) < (n : Int) := by omega
      go_wp2
      go_ret
      exact ⟨by rw [HR.out]; rfl, rfl⟩

/-- a fresh list of texts -/
theorem strs_new {w : World} {L : List (List UInt8)} (o : Obj) (ho : o = .cells (L.map fun l => Value.string (bytes l)).toArray 9) (hl : L.length ≤ 1000) (hb : ∀ l ∈ L, l.length ≤ 1000) :
    SliceIs Enc.str (w.alloc o) (w.alloc o).heap.size (some ⟨w.heap.size, 0, none⟩) L.length L.length (L.map bytes) := by
  have h : StrsW w.heap.size L (w.alloc o) := ⟨9, (0, 0), by rw [ho]; exact heapNew rfl⟩
  exact h.is hl hb

set_option linter.unusedSimpArgs false in
set_option maxRecDepth 100000 in
set_option maxHeartbeats 2000000 in
theorem wordR_any (s : ByteArray) (hs : s.size ≤ 140737488351232) (h1 : 1 ≤ s.size) (w : World) : Calls Tryz.prog 102 #[.string s] w (RetInt (wordK s.toList) w) := by
  have HI := Lib.hid (in_any _ _ _ _ s _ (strs_new (w := w) (L := keysL) (.cells #[.string ⟨#[114, 101, 108]⟩, .string ⟨#[105, 110, 116]⟩, .string ⟨#[115, 121, 109]⟩, .string ⟨#[110, 111, 116]⟩, .string ⟨#[99, 111, 117, 110, 116]⟩, .string ⟨#[115, 117, 109]⟩, .string ⟨#[109, 105, 110]⟩, .string ⟨#[109, 97, 120]⟩] 9) rfl (by decide) (by decide)))
  have Hn := Lib.hid (fun w => refName_any s hs w)
  have HPa := Lib.hid (fun w => refParse_any s hs w)
  have e0 : headN s.toList = (s[0]'h1).toNat := by
    have := ba_head h1
    cases hl : s.toList with
    | nil => rw [hl] at this; cases this
    | cons c r => rw [hl] at this; simp at this; simp [headN, this]
  have e1 : nameOk ⟨s.toList.toArray⟩ = nameOk s := by rw [bytes_back]
  have e2 : s.toList.length = s.size := ba_len s
  have HQ : Hid (wordK s.toList = if decide (s ∈ keysL.map bytes) then (1 : Int) else if nameOk s then (2 : Int) else if greatB (s[0]'h1).toNat && decide (s.size ≤ 32) then (3 : Int) else if (refNum s.toList).isSome then (4 : Int) else (0 : Int)) := by
    show _ = _
    unfold wordK
    rw [e0, e1, e2, mem_bytes]
    simp
  have h1n : (0 : Int) < (s.size : Int) := by omega
  rw [HQ.out]
  clear e0 e1 e2 HQ
  cases hk : decide (s ∈ keysL.map bytes) with
  | true =>
    rw [hk] at HI
    simp only [if_true]
    go_enter Tryz.func102, Tryz.ntmps102
    go_wp2_with fail
    refine HI.out.mono ?_
    rintro e w1 ⟨rfl, rfl⟩
    go_wp2_with fail
    go_ret
    exact ⟨rfl, belowA (Below.refl _ _) _⟩
  | false =>
  rw [hk] at HI
  clear hk
  simp only [Bool.false_eq_true, if_false]
  cases hN : nameOk s with
  | true =>
    rw [hN] at Hn
    simp only [if_true]
    go_enter Tryz.func102, Tryz.ntmps102
    go_wp2_with fail
    refine HI.out.mono ?_
    rintro e w1 ⟨rfl, rfl⟩
    go_wp2_with fail
    refine (Hn.out _).mono ?_
    rintro e w2 ⟨rfl, hb2⟩
    go_wp2_with fail
    go_ret
    exact ⟨rfl, below_next (belowA (Below.refl _ _) _) hb2⟩
  | false =>
  rw [hN] at Hn
  simp only [Bool.false_eq_true, if_false]
  have HP2 : Hid (∃ kk nn tt, (kk = 1 ↔ (refNum s.toList).isSome = true) ∧ (parseG s).v = .agg #[.int .i64 kk, .int .i64 nn, .string tt] ∧ (parseO s).isSome = (refNum s.toList).isSome) := by
    cases hr : refNum s.toList with
    | none => exact ⟨0, 0, ⟨#[]⟩, by simp, by simp [parseG, parse_none hN hr, gv0], by simp [parse_none hN hr]⟩
    | some n => exact ⟨1, n, ⟨#[]⟩, by simp, by simp [parseG, parse_some hN hr], by simp [parse_some hN hr]⟩
  obtain ⟨kk, nn, tt, hkk, hpv, hpo⟩ := HP2.out
  rw [hpv, hpo] at HPa
  have Hkk := Lib.hid hkk
  generalize (refNum s.toList).isSome = ok at *
  clear hpv hpo HP2 hN hkk
  by_cases hg1 : (65 : Int) ≤ ((s[0]'h1).toNat : Int) <;> by_cases hg2 : ((s[0]'h1).toNat : Int) ≤ 90 <;> by_cases h32 : (s.size : Int) ≤ 32 <;> (try (exfalso; omega))
  all_goals
    have hG : greatB (s[0]'h1).toNat = (decide ((65 : Int) ≤ ((s[0]'h1).toNat : Int)) && decide (((s[0]'h1).toNat : Int) ≤ 90)) := by unfold greatB; rw [Bool.eq_iff_iff]; simp; omega
    have hS : decide (s.size ≤ 32) = decide ((s.size : Int) ≤ 32) := by rw [Bool.eq_iff_iff]; simp; omega
    rw [hG, hS]
    simp only [hg1, hg2, h32, decide_true, decide_false, Bool.and_true, Bool.and_false, Bool.false_and, Bool.and_self, Bool.false_eq_true, if_true, if_false]
    clear hG hS
  · go_enter Tryz.func102, Tryz.ntmps102
    go_wp2_with fail
    refine HI.out.mono ?_
    rintro e w1 ⟨rfl, rfl⟩
    go_wp2_with fail
    refine (Hn.out _).mono ?_
    rintro e w2 ⟨rfl, hb2⟩
    go_wp2_with fail
    go_ret
    exact ⟨rfl, below_next (belowA (Below.refl _ _) _) hb2⟩
  all_goals
    cases ok with
    | false =>
      go_enter Tryz.func102, Tryz.ntmps102
      go_wp2_with fail
      refine HI.out.mono ?_
      rintro e w1 ⟨rfl, rfl⟩
      go_wp2_with fail
      refine (Hn.out _).mono ?_
      rintro e w2 ⟨rfl, hb2⟩
      go_wp2_with fail
      refine (HPa.out _).mono ?_
      rintro e w3 ⟨rfl, hb3⟩
      go_wp2_with fail
      go_ret
      exact ⟨rfl, belowA (below_next (below_next (belowA (Below.refl _ _) _) hb2) hb3) _⟩
    | true =>
      have hk1 : kk = 1 := Hkk.out.2 rfl
      subst hk1
      go_enter Tryz.func102, Tryz.ntmps102
      go_wp2_with fail
      refine HI.out.mono ?_
      rintro e w1 ⟨rfl, rfl⟩
      go_wp2_with fail
      refine (Hn.out _).mono ?_
      rintro e w2 ⟨rfl, hb2⟩
      go_wp2_with fail
      refine (HPa.out _).mono ?_
      rintro e w3 ⟨rfl, hb3⟩
      have hra : (w3.alloc (.cells #[.int .i64 1, .int .i64 nn, .string tt] 24)).heap[w3.heap.size]? = some (.cells #[.int .i64 1, .int .i64 nn, .string tt] 24 (0, 0)) := heapNew rfl
      obtain ⟨x0, x1, x2, -, -, -⟩ := three_facts hra
      clear hra
      go_wp2_with fail
      go_ret
      exact ⟨rfl, belowA (below_next (below_next (belowA (Below.refl _ _) _) hb2) hb3) _⟩
end Go.Proofs.YtiffmiabhapfnaaGreatDoor

/- The document's List and All. -/
namespace Go.Proofs.YtiffmiabhapfnaaGreatDoor
open Go.RowKit

theorem tw_in {p : UInt8 → Bool} : ∀ (l : List UInt8) (k : Nat) (c : UInt8), k ≤ (l.takeWhile p).length → l[k]? = some c → p c = true → k + 1 ≤ (l.takeWhile p).length
  | [], k, c, h, hc, hi => by simp at hc
  | d :: r, 0, c, h, hc, hi => by
    simp at hc; subst hc
    simp [hi]
  | d :: r, k + 1, c, h, hc, hi => by
    rw [List.takeWhile_cons] at h ⊢
    cases hd : p d with
    | false => rw [hd] at h; simp at h
    | true =>
      rw [hd] at h
      simp only [if_true, List.length_cons] at h ⊢
      have := tw_in r k c (by omega) (by simpa using hc) hi
      omega
theorem tw_out {p : UInt8 → Bool} : ∀ (l : List UInt8) (k : Nat) (c : UInt8), k ≤ (l.takeWhile p).length → l[k]? = some c → p c = false → (l.takeWhile p).length = k
  | [], k, c, h, hc, hi => by simp at hc
  | d :: r, 0, c, h, hc, hi => by
    simp at hc; subst hc
    simp [hi]
  | d :: r, k + 1, c, h, hc, hi => by
    rw [List.takeWhile_cons] at h ⊢
    cases hd : p d with
    | false => rw [hd] at h; simp at h
    | true =>
      rw [hd] at h
      simp only [if_true, List.length_cons] at h ⊢
      have := tw_out r k c (by omega) (by simpa using hc) hi
      omega
theorem tw_le {p : UInt8 → Bool} (l : List UInt8) : (l.takeWhile p).length ≤ l.length := List.Sublist.length_le (List.takeWhile_sublist p)

/-! ### the signs, the longer ones first -/
def signs2 : List (List UInt8) := [[58, 45], [33, 61], [60, 61], [62, 61]]
def signs1 : List (List UInt8) := [[40], [41], [44], [46], [61], [60], [62], [43], [45], [42]]
theorem find_len (n : Nat) (l : List UInt8) : ∀ S : List (List UInt8), (∀ p ∈ S, p.length = n) → S.find? (·.isPrefixOf l) = if l.take n ∈ S then some (l.take n) else none
  | [], _ => by simp
  | p :: S, h => by
    have ih := find_len n l S (fun q hq => h q (List.mem_cons_of_mem _ hq))
    have hp := h p (List.mem_cons_self ..)
    rw [List.find?_cons, ih]
    by_cases hq : l.take n = p
    · have h1 : p.isPrefixOf l = true := by
        rw [List.isPrefixOf_iff_prefix, ← hq]; exact List.take_prefix _ _
      simp [h1, hq]
    · have h1 : p.isPrefixOf l = false := by
        rw [Bool.eq_false_iff]
        intro h2
        apply hq
        rw [List.isPrefixOf_iff_prefix] at h2
        rw [← hp]; exact (List.prefix_iff_eq_take.1 h2).symm
      simp only [h1, List.mem_cons, hq, false_or]
theorem tok_sign {l : List UInt8} (h : ¬ (0 < runL l ∧ l.head? ≠ some 95)) : tokL wordK l = if l.take 2 ∈ signs2 then (5, 2) else if l.take 1 ∈ signs1 then (5, 1) else (0, 0) := by
  unfold tokL
  rw [if_neg h, show signsL = signs2 ++ signs1 from rfl, List.find?_append, find_len 2 l signs2 (by decide), find_len 1 l signs1 (by decide)]
  by_cases h2 : l.take 2 ∈ signs2
  · have h3 : (l.take 2).length = 2 := by
      have : ∀ p ∈ signs2, p.length = 2 := by decide
      exact this _ h2
    rw [if_pos h2, if_pos h2]
    simp only [Option.some_or]
    rw [h3]
  · rw [if_neg h2, if_neg h2]
    simp only [Option.none_or]
    by_cases h1 : l.take 1 ∈ signs1
    · have h3 : (l.take 1).length = 1 := by
        have : ∀ p ∈ signs1, p.length = 1 := by decide
        exact this _ h1
      rw [if_pos h1, if_pos h1]
      simp only
      rw [h3]
    · rw [if_neg h1, if_neg h1]

/-! ### tokens of the document's own kind -/
theorem tokenR_info : (Tryz.prog.info? 119).map (fun i => (i.zero, i.size, i.bytes)) = some (some (.agg #[.int .i64 0, .string ⟨#[]⟩, .int .i64 0]), 3, 32) := by kernel_rfl
theorem tokenR_push {W : World} {base : Nat} {A : Option Addr} {c k : Nat} {xs : List GTok} (hown : W.ownsRow base 119 3 (.slice A k c) k (xs.flatMap tokCs)) (q : GTok) (hn : k + 1 ≤ 1000000) (hb : base ≤ W.heap.size) :
    ∃ A' c' w', (∀ ty, (Builtin.append_ #[115, 115] ty #[.slice A k c, .slice (some ⟨W.heap.size, 0, none⟩) 1 1]).run Tryz.prog (W.alloc (.cells #[.int .i64 q.k, .string (bytes q.t), .int .i64 q.a] 119)) = .ok (.slice A' (k + 1) c') w') ∧
      w'.ownsRow base 119 3 (.slice A' (k + 1) c') (k + 1) ((xs ++ [q]).flatMap tokCs) ∧ Below base W w' := by
  have ho : (W.alloc (.cells #[.int .i64 q.k, .string (bytes q.t), .int .i64 q.a] 119)).ownsRow base 119 3 (.slice A k c) k (xs.flatMap tokCs) := own_below hown (belowA (Below.refl _ _) _)
  obtain ⟨v', w', h1, h2, h3, h4⟩ := run_push_at (P := Tryz.prog) (ty := 115) (W.alloc (.cells #[.int .i64 q.k, .string (bytes q.t), .int .i64 q.a] 119)) (base := base) Tryz.underlying115 tokenR_info rfl (by decide) ho W.heap.size (tokCs q) rfl (heapNew rfl) (by intro u hu; simp [tokCs] at hu; rcases hu with rfl | rfl | rfl <;> rfl)
    (by simp [maxLen]; omega) (by omega) (by simp; omega)
  obtain ⟨A', c', rfl⟩ := own_form h2
  refine ⟨A', c', w', fun _ => h1, ?_, ?_⟩
  · rw [List.flatMap_append]; simpa using h2
  · exact ((Below.refl base W).alloc hb _).trans h4
theorem toksR_is {w : World} {base : Nat} {A : Option Addr} {n c : Nat} {l : List GTok} (h : w.ownsRow base 119 3 (.slice A n c) n (l.flatMap tokCs)) (hl : l.length = n) (hn : n ≤ 1000000) (hok : ∀ q ∈ l, fits q.k ∧ fits q.a ∧ q.t.length ≤ reachN) : SliceIs Enc.tok w w.heap.size A n c l :=
  SliceIs.of_flat (E := Enc.tok) tokCs (fun _ => rfl) h hl (by simp [reachN]; omega) (fun q hq => ⟨rfl, hok q hq⟩)

def RefListPost (s : ByteArray) (w : World) (e : Ending) (w' : World) : Prop := Below w.heap.size w w' ∧ ∃ A c, SliceIs Enc.tok w' w'.heap.size A (lexS s.toList).1.length c (lexS s.toList).1 ∧
  w'.ownsRow w.heap.size 119 3 (.slice A (lexS s.toList).1.length c) (lexS s.toList).1.length ((lexS s.toList).1.flatMap tokCs) ∧
  (((lexS s.toList).2 = none ∧ e = .returned (.tuple #[.slice A (lexS s.toList).1.length c, .int .i64 (-1)])) ∨ ∃ p : Nat, (lexS s.toList).2 = some p ∧ e = .returned (.tuple #[.slice A (lexS s.toList).1.length c, .int .i64 p]))
set_option maxRecDepth 100000 in
set_option maxHeartbeats 4000000 in
theorem refList_any (s : ByteArray) (hs : s.size ≤ 5000) (w : World) : Calls Tryz.prog 79 #[.string s] w (RefListPost s w) := by
  obtain ⟨P, HP⟩ : ∃ P : Ending → World → Prop, Hid (P = RefListPost s w) := ⟨_, rfl⟩
  rw [← HP.out]
  have HEnd : Hid (∀ w' A c (T : List GTok), Below w.heap.size w w' → lexS s.toList = (T, none) → w'.ownsRow w.heap.size 119 3 (.slice A T.length c) T.length (T.flatMap tokCs) → P (.returned (.tuple #[.slice A T.length c, .int .i64 (-1)])) w') := by
    intro w' A c T hb hT ho
    have hf := lex_fits (l := s.toList) (by rw [ba_len]; omega)
    have hl := (lex_len (wk := wordK) _ 0 s.toList (Nat.le_refl _)).2
    rw [ba_len] at hl
    replace hl : (lexS s.toList).1.length ≤ s.size := hl
    rw [HP.out]; unfold RefListPost; rw [hT] at hf hl ⊢
    exact ⟨hb, A, c, toksR_is ho rfl (by have hl' : T.length ≤ s.size := hl; omega) hf, ho, .inl ⟨rfl, rfl⟩⟩
  have HBad : Hid (∀ w' A c (T : List GTok) (p : Nat), Below w.heap.size w w' → lexS s.toList = (T, some p) → w'.ownsRow w.heap.size 119 3 (.slice A T.length c) T.length (T.flatMap tokCs) → P (.returned (.tuple #[.slice A T.length c, .int .i64 p])) w') := by
    intro w' A c T p hb hT ho
    have hf := lex_fits (l := s.toList) (by rw [ba_len]; omega)
    have hl := (lex_len (wk := wordK) _ 0 s.toList (Nat.le_refl _)).2
    rw [ba_len] at hl
    replace hl : (lexS s.toList).1.length ≤ s.size := hl
    rw [HP.out]; unfold RefListPost; rw [hT] at hf hl ⊢
    exact ⟨hb, A, c, toksR_is ho rfl (by have hl' : T.length ≤ s.size := hl; omega) hf, ho, .inr ⟨p, rfl, rfl⟩⟩
  have HSz : Hid ((lexS s.toList).1.length ≤ s.size) := by
    have hl := (lex_len (wk := wordK) _ 0 s.toList (Nat.le_refl _)).2
    rw [ba_len] at hl; exact hl
  have Hlen := Lib.hid (ba_len s)
  have HInside := Lib.hid inside_any
  clear HP
  go_enter Tryz.func79, Tryz.ntmps79
  go_wp2_with fail
  go_loopw [4, 5, 6, 7, 8] (fun out at' _ _ _ wr => ∃ (a : Nat) (pre : List GTok) (A' : Option Addr) (c' : Nat), a ≤ s.size ∧ out = .slice A' pre.length c' ∧ at' = .int .i64 a ∧ Hid (lexS s.toList = (pre ++ (lexA wordK a (s.toList.drop a)).1, (lexA wordK a (s.toList.drop a)).2)) ∧
      Hid (wr.ownsRow w.heap.size 119 3 (.slice A' pre.length c') pre.length (pre.flatMap tokCs)) ∧ Below w.heap.size w wr) (fun _ at' _ _ _ _ => s.size - (intOf at').toNat)
  case atStart => exact ⟨0, [], none, 0, by omega, rfl, rfl, rfl, World.ownsRow_nil _ _ _ _, Below.refl _ _⟩
  case round =>
    obtain ⟨a, pre, A', c', ha, rfl, rfl, HK, HO, hbr⟩ := hrel
    have i0 : (0 : Int) ≤ (a : Int) := by omega
    have hpl : pre.length ≤ 5000 := by
      have h1 := congrArg (fun r => r.1.length) HK.out
      have := HSz.out
      simp only [List.length_append] at h1; omega
    by_cases hlt : a < s.size
    · have i1 : (a : Int) < (s.size : Int) := by omega
      have i2 : (a : Int) ≤ (s.size : Int) := by omega
      have HD : Hid (s.toList.drop a = (s[a]'hlt) :: s.toList.drop (a + 1)) := by
        show _ = _
        have h1 := ba_get hlt
        obtain ⟨h2, h3⟩ := List.getElem?_eq_some_iff.1 h1
        rw [List.drop_eq_getElem_cons h2, h3]
      have HN := Lib.hid (fun (k : UInt8) (n : Nat) (h : n = k.toNat) => show ((((s[a]'hlt).toNat : Int) == (n : Int)) = decide ((s[a]'hlt) = k)) from by
        rw [Bool.eq_iff_iff]; simp only [beq_iff_eq, decide_eq_true_eq]
        constructor
        · intro h2; exact UInt8.toNat_inj.1 (by omega)
        · intro h2; rw [h2, h])
      have z9 : (((s[a]'hlt).toNat : Int) == 9) = decide ((s[a]'hlt) = 9) := HN.out 9 9 rfl
      have z10 : (((s[a]'hlt).toNat : Int) == 10) = decide ((s[a]'hlt) = 10) := HN.out 10 10 rfl
      have z13 : (((s[a]'hlt).toNat : Int) == 13) = decide ((s[a]'hlt) = 13) := HN.out 13 13 rfl
      have z32 : (((s[a]'hlt).toNat : Int) == 32) = decide ((s[a]'hlt) = 32) := HN.out 32 32 rfl
      have z37 : (((s[a]'hlt).toNat : Int) == 37) = decide ((s[a]'hlt) = 37) := HN.out 37 37 rfl
      have z95 : (((s[a]'hlt).toNat : Int) != 95) = !decide ((s[a]'hlt) = 95) := by
        have h1 := HN.out 95 95 rfl
        show (!(((s[a]'hlt).toNat : Int) == 95)) = _
        rw [show ((95 : Int)) = ((95 : Nat) : Int) from rfl, h1]
      have HBl : Hid (blankB (s[a]'hlt) = (decide ((s[a]'hlt) = 9) || decide ((s[a]'hlt) = 10) || decide ((s[a]'hlt) = 32) || decide ((s[a]'hlt) = 13))) := rfl
      clear HN
      cases hbl : blankB (s[a]'hlt) with
      | true =>
        have HK2 : Hid (lexS s.toList = (pre ++ (lexA wordK (a + 1) (s.toList.drop (a + 1))).1, (lexA wordK (a + 1) (s.toList.drop (a + 1))).2)) := by
          show _ = _
          rw [HK.out]
          have h1 : lexA wordK a (s.toList.drop a) = lexA wordK (a + 1) (s.toList.drop (a + 1)) := by
            have h2 := lexA_adv (wk := wordK) (l := s.toList.drop a) (k := 1) (by rw [HD.out, skip_one hbl]; rfl) a
            rw [h2, List.drop_drop]
          rw [h1]
        have h5 := HBl.out
        rw [hbl] at h5
        clear HK HBl hbl
        cases d9 : decide ((s[a]'hlt) = 9) <;> cases d10 : decide ((s[a]'hlt) = 10) <;> cases d13 : decide ((s[a]'hlt) = 13) <;> cases d32 : decide ((s[a]'hlt) = 32) <;> (try (rw [d9, d10, d13, d32] at h5; cases h5; done))
        all_goals
          rw [d9] at z9; rw [d10] at z10; rw [d13] at z13; rw [d32] at z32
          clear h5 d9 d10 d13 d32 z37 z95
          go_wp2_with fail
          go_roundw
          case rel => exact ⟨a + 1, pre, A', c', by omega, rfl, by go_num, HK2, HO, hbr⟩
          case measure => simp [intOf]; omega
      | false =>
      have h5 := HBl.out
      rw [hbl] at h5
      have d9 : decide ((s[a]'hlt) = 9) = false := by cases h : decide ((s[a]'hlt) = 9) with | true => (rw [h] at h5; simp at h5) | false => rfl
      have d10 : decide ((s[a]'hlt) = 10) = false := by cases h : decide ((s[a]'hlt) = 10) with | true => (rw [h] at h5; simp at h5) | false => rfl
      have d13 : decide ((s[a]'hlt) = 13) = false := by cases h : decide ((s[a]'hlt) = 13) with | true => (rw [h] at h5; simp at h5) | false => rfl
      have d32 : decide ((s[a]'hlt) = 32) = false := by cases h : decide ((s[a]'hlt) = 32) with | true => (rw [h] at h5; simp at h5) | false => rfl
      rw [d9] at z9; rw [d10] at z10; rw [d13] at z13; rw [d32] at z32
      clear h5 HBl d9 d10 d13 d32
      by_cases hp : (s[a]'hlt) = 37
      · have d37 : decide ((s[a]'hlt) = 37) = true := by simpa using hp
        rw [d37] at z37
        obtain ⟨m, Hm⟩ : ∃ m, Hid (m = ((s.toList.drop a).takeWhile (· != 10)).length) := ⟨_, rfl⟩
        have Hme : Hid (m ≤ s.size - a) := by
          show _ ≤ _
          rw [Hm.out]
          have h1 := tw_le (p := (· != 10)) (s.toList.drop a)
          rw [List.length_drop, Hlen.out] at h1; exact h1
        have Hm1 : Hid (1 ≤ m) := by
          show _ ≤ _
          rw [Hm.out, HD.out, hp]; simp
        have HK2 : Hid (lexS s.toList = (pre ++ (lexA wordK (a + m) (s.toList.drop (a + m))).1, (lexA wordK (a + m) (s.toList.drop (a + m))).2)) := by
          show _ = _
          rw [HK.out]
          have h1 : lexA wordK a (s.toList.drop a) = lexA wordK (a + m) (s.toList.drop (a + m)) := by
            have h2 := lexA_adv (wk := wordK) (l := s.toList.drop a) (k := m) (by rw [Hm.out]; conv => lhs; rw [HD.out, hp, skip_per]
                                                                                  rw [← hp, ← HD.out]) a
            rw [h2, List.drop_drop]
          rw [h1]
        clear HK hbl hp d37 z95
        go_wp2_with fail
        go_loop [5] (fun i => ∃ k2 : Nat, a ≤ k2 ∧ k2 ≤ s.size ∧ i = .int .i64 k2 ∧ Hid (k2 - a ≤ ((s.toList.drop a).takeWhile (· != 10)).length)) (fun i => s.size - (intOf i).toNat)
        case atStart => exact ⟨a, by omega, by omega, rfl, by show _ ≤ _; omega⟩
        case round =>
          obtain ⟨k2, h1, h2, rfl, H3⟩ := hrel
          have j0 : (0 : Int) ≤ (k2 : Int) := by omega
          by_cases hlt2 : k2 < s.size
          · have j1 : (k2 : Int) < (s.size : Int) := by omega
            have HC2 : Hid ((s.toList.drop a)[k2 - a]? = some (s[k2]'hlt2)) := by
              show _ = _
              rw [List.getElem?_drop, show a + (k2 - a) = k2 by omega]; exact ba_get hlt2
            by_cases h10 : (s[k2]'hlt2) = 10
            · have HE : Hid (k2 = a + m) := by
                have h4 := tw_out (p := (· != 10)) _ _ _ H3.out HC2.out (by simp [h10])
                show _ = _
                rw [Hm.out, h4]; omega
              have y10 : (((s[k2]'hlt2).toNat : Int) != 10) = false := by rw [h10]; rfl
              have HK3 := HK2.out
              rw [← HE.out] at HK3
              have HK4 := Lib.hid HK3
              have hmm : a < k2 := by have := HE.out; have := Hm1.out; omega
              clear h10 HK3
              go_wp2_with fail
              go_roundw
              case rel => exact ⟨k2, pre, A', c', by omega, rfl, rfl, HK4, HO, hbr⟩
              case measure => simp [intOf]; omega
            · have H4 : Hid (k2 + 1 - a ≤ ((s.toList.drop a).takeWhile (· != 10)).length) := by
                have h4 := tw_in (p := (· != 10)) _ _ _ H3.out HC2.out (by simp [h10])
                show _ ≤ _
                omega
              have y10 : (((s[k2]'hlt2).toNat : Int) != 10) = true := by
                simp only [bne_iff_ne, ne_eq]
                intro h; apply h10; exact UInt8.toNat_inj.1 (by show _ = 10; omega)
              clear h10
              go_wp2_with fail
              go_round
              case rel => exact ⟨k2 + 1, by omega, by omega, by go_num, H4⟩
              case measure => simp [intOf]; omega
          · have j1 : ¬ (k2 : Int) < (s.size : Int) := by omega
            have HE : Hid (k2 = a + m) := by
              have h4 := H3.out
              rw [← Hm.out] at h4
              have := Hme.out
              show _ = _
              omega
            have HK3 := HK2.out
            rw [← HE.out] at HK3
            have HK4 := Lib.hid HK3
            have hmm : a < k2 := by have := HE.out; have := Hm1.out; omega
            clear HK3
            go_wp2_with fail
            go_roundw
            case rel => exact ⟨k2, pre, A', c', by omega, rfl, rfl, HK4, HO, hbr⟩
            case measure => simp [intOf]; omega
      · have d37 : decide ((s[a]'hlt) = 37) = false := by simpa using hp
        rw [d37] at z37
        have hs0 : skipG false (s.toList.drop a) = 0 := by rw [HD.out, skip_zero hbl hp]
        have hne : s.toList.drop a ≠ [] := by rw [HD.out]; simp
        have hat := lexA_at (wk := wordK) hne hs0 a
        rw [hat] at HK
        have Hhead : Hid ((s.toList.drop a).head? = some (s[a]'hlt)) := by show _ = _; rw [HD.out]; rfl
        have Hrun : Hid (insB (s[a]'hlt) = true ↔ 0 < runL (s.toList.drop a)) := by
          show _ ↔ _
          rw [HD.out]
          unfold runL
          rw [List.takeWhile_cons]
          cases insB (s[a]'hlt) <;> simp
        have HIa := Lib.hid (HInside.out (s[a]'hlt) wr)
        have HLd : Hid ((s.toList.drop a).length = s.size - a) := by show _ = _; rw [List.length_drop, Hlen.out]
        clear hat hs0 hne hbl d37 hp
        by_cases hw : insB (s[a]'hlt) = true ∧ ¬ (s[a]'hlt) = 95
        · obtain ⟨hw1, hw2⟩ := hw
          have d95 : decide ((s[a]'hlt) = 95) = false := by simpa using hw2
          rw [d95] at z95
          obtain ⟨n, Hn⟩ : ∃ n, Hid (n = runL (s.toList.drop a)) := ⟨_, rfl⟩
          have hn1 : 1 ≤ n := by rw [Hn.out]; exact Hrun.out.1 hw1
          have hnle : n ≤ s.size - a := by rw [Hn.out, ← HLd.out]; exact runL_le _
          have HT : Hid (tokL wordK (s.toList.drop a) = (wordK ((s.toList.drop a).take n), n)) := by
            show _ = _
            unfold tokL
            rw [if_pos ⟨Hrun.out.1 hw1, by rw [Hhead.out]; simpa using hw2⟩, Hn.out]
          rw [HT.out] at HK
          simp only at HK
          rw [hw1] at HIa
          clear hw1 hw2 d95
          go_wp2_with fail
          refine HIa.out.mono ?_
          rintro e w2 ⟨rfl, rfl⟩
          go_wp2_with fail
          go_loop [7] (fun i => ∃ k2 : Nat, a ≤ k2 ∧ k2 ≤ s.size ∧ i = .int .i64 k2 ∧ Hid (k2 - a ≤ runL (s.toList.drop a))) (fun i => s.size - (intOf i).toNat)
          case atStart => exact ⟨a, by omega, by omega, rfl, by show _ ≤ _; omega⟩
          case round =>
            obtain ⟨k2, h1, h2, rfl, H3⟩ := hrel
            have j0 : (0 : Int) ≤ (k2 : Int) := by omega
            have hgo : (∃ hlt2 : k2 < s.size, insB (s[k2]'hlt2) = true) ∨ k2 = a + n := by
              by_cases hlt2 : k2 < s.size
              · cases hi : insB (s[k2]'hlt2) with
                | true => exact .inl ⟨hlt2, hi⟩
                | false =>
                  have HC2 : (s.toList.drop a)[k2 - a]? = some (s[k2]'hlt2) := by
                    rw [List.getElem?_drop, show a + (k2 - a) = k2 by omega]; exact ba_get hlt2
                  have h4 := run_out _ _ _ H3.out HC2 hi
                  right; rw [Hn.out, h4]; omega
              · right
                have h4 := H3.out
                rw [← Hn.out] at h4; omega
            rcases hgo with ⟨hlt2, hi⟩ | hE
            · have j1 : (k2 : Int) < (s.size : Int) := by omega
              have H4 : Hid (k2 + 1 - a ≤ runL (s.toList.drop a)) := by
                have HC2 : (s.toList.drop a)[k2 - a]? = some (s[k2]'hlt2) := by
                  rw [List.getElem?_drop, show a + (k2 - a) = k2 by omega]; exact ba_get hlt2
                have h4 := ins_run _ _ _ H3.out HC2 hi
                show _ ≤ _
                omega
              have HI2 := Lib.hid (HInside.out (s[k2]'hlt2) w2)
              rw [hi] at HI2
              clear hi
              go_wp2_with fail
              refine HI2.out.mono ?_
              rintro e w3 ⟨rfl, rfl⟩
              go_wp2_with fail
              go_round
              case rel => exact ⟨k2 + 1, by omega, by omega, by go_num, H4⟩
              case measure => simp [intOf]; omega
            · have j2 : (a : Int) ≤ (k2 : Int) := by omega
              have j3 : (k2 : Int) ≤ (s.size : Int) := by omega
              have HX : Hid ((s.extract a k2).toList = (s.toList.drop a).take n) := by
                show _ = _
                rw [ba_ext, List.drop_take, show k2 - a = n by omega]
              have HB : Hid (s.extract a k2 = bytes ((s.toList.drop a).take n)) := ba_eq HX.out
              have HWd := Lib.hid (wordR_any (s.extract a k2) (by simp; omega) (by simp; omega) w2)
              rw [HX.out] at HWd
              have hcond : (k2 < s.size → ∃ hlt2 : k2 < s.size, insB (s[k2]'hlt2) = false) := by
                intro hlt2
                refine ⟨hlt2, ?_⟩
                cases hi : insB (s[k2]'hlt2) with
                | false => rfl
                | true =>
                  exfalso
                  have HC2 : (s.toList.drop a)[k2 - a]? = some (s[k2]'hlt2) := by
                    rw [List.getElem?_drop, show a + (k2 - a) = k2 by omega]; exact ba_get hlt2
                  have h4 := ins_run _ _ _ H3.out HC2 hi
                  rw [← Hn.out] at h4; omega
              have hak : a < k2 := by omega
              have HKk : Hid (a + n = k2) := by show _ = _; omega
              rw [List.drop_drop, show a + n = k2 by omega] at HK
              obtain ⟨q, Hq⟩ : ∃ q, Hid (q = wordK ((s.toList.drop a).take n)) := ⟨_, rfl⟩
              rw [← Hq.out] at HWd HK
              clear hE H3
              have HTok : Hid (∀ w4, Below w2.heap.size w2 w4 → ∃ A9 c9 w9, (∀ ty, (Builtin.append_ #[115, 115] ty #[.slice A' pre.length c', .slice (some ⟨w4.heap.size, 0, none⟩) 1 1]).run Tryz.prog (w4.alloc (.cells #[.int .i64 q, .string (s.extract a k2), .int .i64 a] 119)) = .ok (.slice A9 (pre.length + 1) c9) w9) ∧
                  w9.ownsRow w.heap.size 119 3 (.slice A9 (pre.length + 1) c9) (pre.length + 1) ((pre ++ [(⟨q, (s.toList.drop a).take n, a⟩ : GTok)]).flatMap tokCs) ∧ Below w.heap.size w w9) := by
                intro w4 hb4
                have h9 := below_next hbr hb4
                obtain ⟨A9, c9, w9, q1, q2, q3⟩ := tokenR_push (own_below HO.out hb4) ⟨q, (s.toList.drop a).take n, a⟩ (by omega) h9.size
                simp only [← HB.out] at q1
                exact ⟨A9, c9, w9, q1, q2, h9.trans q3⟩
              have Hpl1 : Hid ((pre ++ [(⟨q, (s.toList.drop a).take n, a⟩ : GTok)]).length = pre.length + 1) := by show _ = _; simp
              by_cases hlt2 : k2 < s.size
              · have j1 : (k2 : Int) < (s.size : Int) := by omega
                obtain ⟨_, hi⟩ := hcond hlt2
                have HI2 := Lib.hid (HInside.out (s[k2]'hlt2) w2)
                rw [hi] at HI2
                clear hi hcond
                go_wp2_with fail
                refine HI2.out.mono ?_
                rintro e w3 ⟨rfl, rfl⟩
                go_wp2_with fail
                refine HWd.out.mono ?_
                rintro e w4 ⟨rfl, hb4⟩
                by_cases hq0 : q = 0
                · have zq : ((q : Int) == 0) = true := by simp [hq0]
                  have HB2 : Hid (lexS s.toList = (pre, some a)) := by show _ = _; rw [HK.out, if_pos hq0]; simp
                  clear HK hq0
                  go_wp2_with fail
                  first | exact HBad.out w4 A' c' pre a (below_next hbr hb4) HB2.out (own_below HO.out hb4) | exact bodyPost_ret (v := .tuple #[.slice A' pre.length c', .int .i64 a]) (by simp [results, Tryz.results79, go_sem]) rfl (HBad.out w4 A' c' pre a (below_next hbr hb4) HB2.out (own_below HO.out hb4))
                · have zq : ((q : Int) == 0) = false := by simpa using hq0
                  have HK2 : Hid (lexS s.toList = ((pre ++ [⟨q, (s.toList.drop a).take n, a⟩]) ++ (lexA wordK k2 (s.toList.drop k2)).1, (lexA wordK k2 (s.toList.drop k2)).2)) := by
                    show _ = _
                    rw [HK.out, if_neg hq0]; simp
                  obtain ⟨A9, c9, w9, q1, q2, q3⟩ := HTok.out w4 hb4
                  have HRun := Lib.hid q1
                  have Q2 : Hid (w9.ownsRow w.heap.size 119 3 (.slice A9 (pre ++ [(⟨q, (s.toList.drop a).take n, a⟩ : GTok)]).length c9) (pre ++ [(⟨q, (s.toList.drop a).take n, a⟩ : GTok)]).length ((pre ++ [(⟨q, (s.toList.drop a).take n, a⟩ : GTok)]).flatMap tokCs)) := by
                    show World.ownsRow _ _ _ _ _ _ _
                    rw [Hpl1.out]; exact q2
                  clear HK hq0 q1 q2 HTok
                  go_wp2_with (at_builtin; refine wpList_append_run (o := ⟨some 83, _, _, _, _, _⟩) rfl _ _ _ rfl _ _ rfl rfl (HRun.out _) ?_)
                  go_roundw
                  case rel => exact ⟨k2, _, A9, c9, by omega, by rw [Hpl1.out], rfl, HK2, Q2, q3⟩
                  case measure => simp [intOf]; omega
              · have j1 : ¬ (k2 : Int) < (s.size : Int) := by omega
                clear hcond
                go_wp2_with fail
                refine HWd.out.mono ?_
                rintro e w4 ⟨rfl, hb4⟩
                by_cases hq0 : q = 0
                · have zq : ((q : Int) == 0) = true := by simp [hq0]
                  have HB2 : Hid (lexS s.toList = (pre, some a)) := by show _ = _; rw [HK.out, if_pos hq0]; simp
                  clear HK hq0
                  go_wp2_with fail
                  first | exact HBad.out w4 A' c' pre a (below_next hbr hb4) HB2.out (own_below HO.out hb4) | exact bodyPost_ret (v := .tuple #[.slice A' pre.length c', .int .i64 a]) (by simp [results, Tryz.results79, go_sem]) rfl (HBad.out w4 A' c' pre a (below_next hbr hb4) HB2.out (own_below HO.out hb4))
                · have zq : ((q : Int) == 0) = false := by simpa using hq0
                  have HK2 : Hid (lexS s.toList = ((pre ++ [⟨q, (s.toList.drop a).take n, a⟩]) ++ (lexA wordK k2 (s.toList.drop k2)).1, (lexA wordK k2 (s.toList.drop k2)).2)) := by
                    show _ = _
                    rw [HK.out, if_neg hq0]; simp
                  obtain ⟨A9, c9, w9, q1, q2, q3⟩ := HTok.out w4 hb4
                  have HRun := Lib.hid q1
                  have Q2 : Hid (w9.ownsRow w.heap.size 119 3 (.slice A9 (pre ++ [(⟨q, (s.toList.drop a).take n, a⟩ : GTok)]).length c9) (pre ++ [(⟨q, (s.toList.drop a).take n, a⟩ : GTok)]).length ((pre ++ [(⟨q, (s.toList.drop a).take n, a⟩ : GTok)]).flatMap tokCs)) := by
                    show World.ownsRow _ _ _ _ _ _ _
                    rw [Hpl1.out]; exact q2
                  clear HK hq0 q1 q2 HTok
                  go_wp2_with (at_builtin; refine wpList_append_run (o := ⟨some 83, _, _, _, _, _⟩) rfl _ _ _ rfl _ _ rfl rfl (HRun.out _) ?_)
                  go_roundw
                  case rel => exact ⟨k2, _, A9, c9, by omega, by rw [Hpl1.out], rfl, HK2, Q2, q3⟩
                  case measure => simp [intOf]; omega
        · have HT : Hid (tokL wordK (s.toList.drop a) = if (s.toList.drop a).take 2 ∈ signs2 then (5, 2) else if (s.toList.drop a).take 1 ∈ signs1 then (5, 1) else (0, 0)) := by
            refine tok_sign ?_
            rintro ⟨h1, h2⟩
            apply hw
            refine ⟨Hrun.out.2 h1, fun h => h2 (by rw [Hhead.out, h])⟩
          have hin : insB (s[a]'hlt) = false ∨ (insB (s[a]'hlt) = true ∧ decide ((s[a]'hlt) = 95) = true) := by
            cases h : insB (s[a]'hlt) with
            | false => exact .inl rfl
            | true => exact .inr ⟨rfl, by
                by_cases h2 : (s[a]'hlt) = 95
                · simpa using h2
                · exact absurd ⟨h, h2⟩ hw⟩
          clear hw
          have HTok : Hid (∀ (n : Nat) w4, Below wr.heap.size wr w4 → ∃ A9 c9 w9, (∀ ty, (Builtin.append_ #[115, 115] ty #[.slice A' pre.length c', .slice (some ⟨w4.heap.size, 0, none⟩) 1 1]).run Tryz.prog (w4.alloc (.cells #[.int .i64 5, .string (s.extract a (a + n)), .int .i64 a] 119)) = .ok (.slice A9 (pre.length + 1) c9) w9) ∧
              w9.ownsRow w.heap.size 119 3 (.slice A9 (pre.length + 1) c9) (pre.length + 1) ((pre ++ [(⟨5, (s.toList.drop a).take n, a⟩ : GTok)]).flatMap tokCs) ∧ Below w.heap.size w w9) := by
            intro n w4 hb4
            have h9 := below_next hbr hb4
            have hB : s.extract a (a + n) = bytes ((s.toList.drop a).take n) := ba_eq (by rw [ba_ext, List.drop_take, show a + n - a = n by omega])
            obtain ⟨A9, c9, w9, q1, q2, q3⟩ := tokenR_push (own_below HO.out hb4) ⟨5, (s.toList.drop a).take n, a⟩ (by omega) h9.size
            simp only [← hB] at q1
            exact ⟨A9, c9, w9, q1, q2, h9.trans q3⟩
          have Hpl1 : Hid (∀ n : Nat, (pre ++ [(⟨5, (s.toList.drop a).take n, a⟩ : GTok)]).length = pre.length + 1) := fun n => by simp
          have HI2 := Lib.hid (fun (W : World) => in_any _ _ _ _ (s.extract a (a + 2)) _ (strs_new (w := W) (L := signs2) (.cells #[.string ⟨#[58, 45]⟩, .string ⟨#[33, 61]⟩, .string ⟨#[60, 61]⟩, .string ⟨#[62, 61]⟩] 9) rfl (by decide) (by decide)))
          have HI1 := Lib.hid (fun (W : World) => in_any _ _ _ _ (s.extract a (a + 1)) _ (strs_new (w := W) (L := signs1) (.cells #[.string ⟨#[40]⟩, .string ⟨#[41]⟩, .string ⟨#[44]⟩, .string ⟨#[46]⟩, .string ⟨#[61]⟩, .string ⟨#[60]⟩, .string ⟨#[62]⟩, .string ⟨#[43]⟩, .string ⟨#[45]⟩, .string ⟨#[42]⟩] 9) rfl (by decide) (by decide)))
          have HM2 : Hid (decide (s.extract a (a + 2) ∈ signs2.map bytes) = decide ((s.toList.drop a).take 2 ∈ signs2)) := by
            show _ = _
            rw [mem_bytes, ba_ext, List.drop_take, show a + 2 - a = 2 by omega]
          have HM1 : Hid (decide (s.extract a (a + 1) ∈ signs1.map bytes) = decide ((s.toList.drop a).take 1 ∈ signs1)) := by
            show _ = _
            rw [mem_bytes, ba_ext, List.drop_take, show a + 1 - a = 1 by omega]
          rw [HM2.out] at HI2
          rw [HM1.out] at HI1
          have HDD : Hid (∀ n, (s.toList.drop a).drop n = s.toList.drop (a + n)) := fun n => by rw [List.drop_drop]
          clear HM1 HM2
          by_cases h2 : (s.toList.drop a).take 2 ∈ signs2
          · have ha2 : a + 2 ≤ s.size := by
              have h3 : ((s.toList.drop a).take 2).length = 2 := by
                have : ∀ p ∈ signs2, p.length = 2 := by decide
                exact this _ h2
              rw [List.length_take, HLd.out] at h3; omega
            have u0 : (a : Int) + 2 ≤ (s.size : Int) := by omega
            have u1 : (a : Int) ≤ (a : Int) + 2 := by omega
            have HT2 : Hid (tokL wordK (s.toList.drop a) = (5, 2)) := by show _ = _; rw [HT.out, if_pos h2]
            rw [HT2.out] at HK
            have HK2 : Hid (lexS s.toList = ((pre ++ [⟨5, (s.toList.drop a).take 2, a⟩]) ++ (lexA wordK (a + 2) (s.toList.drop (a + 2))).1, (lexA wordK (a + 2) (s.toList.drop (a + 2))).2)) := by
              show _ = _
              rw [HK.out, if_neg (by decide)]
              simp only [HDD.out]; simp
            simp only [h2, decide_true] at HI2
            clear HK h2
            rcases hin with hin | ⟨hin, h95⟩
            all_goals
              rw [hin] at HIa
              try rw [h95] at z95
              go_wp2_with fail
              refine HIa.out.mono ?_
              rintro e w2 ⟨rfl, rfl⟩
              go_wp2_with fail
              refine (HI2.out w2).mono ?_
              rintro e w5 ⟨rfl, hw5⟩
              have hb5 : Below w2.heap.size w2 w5 := by rw [hw5]; exact belowA (Below.refl _ _) _
              obtain ⟨A9, c9, w9, q1, q2, q3⟩ := HTok.out 2 w5 hb5
              have HRun := Lib.hid q1
              have Q2 : Hid (w9.ownsRow w.heap.size 119 3 (.slice A9 (pre ++ [(⟨5, (s.toList.drop a).take 2, a⟩ : GTok)]).length c9) (pre ++ [(⟨5, (s.toList.drop a).take 2, a⟩ : GTok)]).length ((pre ++ [(⟨5, (s.toList.drop a).take 2, a⟩ : GTok)]).flatMap tokCs)) := by
                show World.ownsRow _ _ _ _ _ _ _
                rw [Hpl1.out]; exact q2
              clear q1 q2 hw5
              go_wp2_with (at_builtin; refine wpList_append_run (o := ⟨some 108, _, _, _, _, _⟩) rfl _ _ _ rfl _ _ rfl rfl (HRun.out _) ?_)
              go_roundw
              case rel => exact ⟨a + 2, _, A9, c9, by omega, by rw [Hpl1.out], by go_num, HK2, Q2, q3⟩
              case measure => simp [intOf]; omega
          · simp only [h2, decide_false] at HI2
            have v0 : (a : Int) + 1 ≤ (s.size : Int) := by omega
            have v1 : (a : Int) ≤ (a : Int) + 1 := by omega
            rcases hin with hin | ⟨hin, h95⟩ <;> by_cases ha2 : a + 2 ≤ s.size
            all_goals
              rw [hin] at HIa
              try rw [h95] at z95
            all_goals
              first
              | (have u0 : (a : Int) + 2 ≤ (s.size : Int) := by omega)
              | (have u0 : ¬ (a : Int) + 2 ≤ (s.size : Int) := by omega)
              have u1 : (a : Int) ≤ (a : Int) + 2 := by omega
              go_wp2_with fail
              refine HIa.out.mono ?_
              rintro e w2 ⟨rfl, rfl⟩
              go_wp2_with fail
            focus
              refine (HI2.out w2).mono ?_
              rintro e w5 ⟨rfl, hw5⟩
              have hb5 : Below w2.heap.size w2 w5 := by rw [hw5]; exact belowA (Below.refl _ _) _
              clear hw5
              go_wp2_with fail
              refine (HI1.out w5).mono ?_
            rotate_left
            focus
              have hb5 : Below w2.heap.size w2 w2 := Below.refl _ _
              refine (HI1.out w2).mono ?_
            rotate_left
            focus
              refine (HI2.out w2).mono ?_
              rintro e w5 ⟨rfl, hw5⟩
              have hb5 : Below w2.heap.size w2 w5 := by rw [hw5]; exact belowA (Below.refl _ _) _
              clear hw5
              go_wp2_with fail
              refine (HI1.out w5).mono ?_
            rotate_left
            focus
              have hb5 : Below w2.heap.size w2 w2 := Below.refl _ _
              refine (HI1.out w2).mono ?_
            rotate_left
            all_goals
              rintro e w6 ⟨rfl, hw6⟩
              have hb6 : Below w2.heap.size w2 w6 := by rw [hw6]; exact belowA hb5 _
              clear hw6
              by_cases h1 : (s.toList.drop a).take 1 ∈ signs1
              · have HT2 : Hid (tokL wordK (s.toList.drop a) = (5, 1)) := by show _ = _; rw [HT.out, if_neg h2, if_pos h1]
                have HK1 := HK.out
                rw [HT2.out] at HK1
                have HK2 : Hid (lexS s.toList = ((pre ++ [⟨5, (s.toList.drop a).take 1, a⟩]) ++ (lexA wordK (a + 1) (s.toList.drop (a + 1))).1, (lexA wordK (a + 1) (s.toList.drop (a + 1))).2)) := by
                  show _ = _
                  rw [HK1, if_neg (by decide)]
                  simp only [HDD.out]; simp
                simp only [h1, decide_true]
                obtain ⟨A9, c9, w9, q1, q2, q3⟩ := HTok.out 1 w6 hb6
                have HRun := Lib.hid q1
                have Q2 : Hid (w9.ownsRow w.heap.size 119 3 (.slice A9 (pre ++ [(⟨5, (s.toList.drop a).take 1, a⟩ : GTok)]).length c9) (pre ++ [(⟨5, (s.toList.drop a).take 1, a⟩ : GTok)]).length ((pre ++ [(⟨5, (s.toList.drop a).take 1, a⟩ : GTok)]).flatMap tokCs)) := by
                  show World.ownsRow _ _ _ _ _ _ _
                  rw [Hpl1.out]; exact q2
                clear q1 q2 HK1 HK
                go_wp2_with (at_builtin; refine wpList_append_run (o := ⟨some 130, _, _, _, _, _⟩) rfl _ _ _ rfl _ _ rfl rfl (HRun.out _) ?_)
                go_roundw
                case rel => exact ⟨a + 1, _, A9, c9, by omega, by rw [Hpl1.out], by go_num, HK2, Q2, q3⟩
                case measure => simp [intOf]; omega
              · have HB2 : Hid (lexS s.toList = (pre, some a)) := by
                  have HK1 := HK.out
                  rw [HT.out, if_neg h2, if_neg h1] at HK1
                  show _ = _
                  rw [HK1, if_pos rfl]; simp
                simp only [h1, decide_false]
                clear HK
                go_wp2_with fail
                first | exact HBad.out w6 A' c' pre a (below_next hbr hb6) HB2.out (own_below HO.out hb6) | exact bodyPost_ret (v := .tuple #[.slice A' pre.length c', .int .i64 a]) (by simp [results, Tryz.results79, go_sem]) rfl (HBad.out w6 A' c' pre a (below_next hbr hb6) HB2.out (own_below HO.out hb6))
    · have i1 : ¬ (a : Int) < (s.size : Int) := by omega
      have HE2 : Hid (lexS s.toList = (pre, none)) := by
        show _ = _
        rw [HK.out, List.drop_eq_nil_of_le (by rw [Hlen.out]; omega)]
        simp [lexA, lexF]
      clear HK
      go_wp2_with fail
      exact HEnd.out wr A' c' pre hbr HE2.out HO.out
end Go.Proofs.YtiffmiabhapfnaaGreatDoor

/- corollaryref04.All: the document's tokens of any text. -/
namespace Go.Proofs.YtiffmiabhapfnaaGreatDoor
open Go.RowKit

def RefAllPost (s : ByteArray) (w : World) (e : Ending) (w' : World) : Prop := Below w.heap.size w w' ∧
  ((4000 < s.size ∧ e = .returned (.tuple #[.slice none 0 0, .int .i64 4000, .int .i64 3])) ∨
   (s.size ≤ 4000 ∧ ((∃ p : Nat, (lexS s.toList).2 = some p ∧ e = .returned (.tuple #[.slice none 0 0, .int .i64 p, .int .i64 2])) ∨
    ((lexS s.toList).2 = none ∧ ∃ A c, e = .returned (.tuple #[.slice A (lexS s.toList).1.length c, .int .i64 0, .int .i64 0]) ∧ SliceIs Enc.tok w' w'.heap.size A (lexS s.toList).1.length c (lexS s.toList).1))))
set_option maxRecDepth 100000 in
set_option maxHeartbeats 1000000 in
theorem refAll_any (s : ByteArray) (w : World) : Calls Tryz.prog 49 #[.string s] w (RefAllPost s w) := by
  obtain ⟨P, HP⟩ : ∃ P : Ending → World → Prop, Hid (P = RefAllPost s w) := ⟨_, rfl⟩
  rw [← HP.out]
  by_cases h4 : 4000 < s.size
  · have z0 : (4000 : Int) < (s.size : Int) := by omega
    have HE : Hid (∀ w', Below w.heap.size w w' → P (.returned (.tuple #[.slice none 0 0, .int .i64 4000, .int .i64 3])) w') := fun w' hb => by rw [HP.out]; exact ⟨hb, .inl ⟨h4, rfl⟩⟩
    clear h4 HP
    go_enter Tryz.func49, Tryz.ntmps49
    go_wp2_with fail
    exact bodyPost_ret (v := .tuple #[.slice none 0 0, .int .i64 4000, .int .i64 3]) (by simp [results, Tryz.results49, go_sem]) rfl (HE.out _ (Below.refl _ _))
  have HL := Lib.hid (refList_any s (by omega))
  have z0 : ¬ (4000 : Int) < (s.size : Int) := by omega
  have HE1 : Hid (∀ w' (p : Nat), Below w.heap.size w w' → (lexS s.toList).2 = some p → P (.returned (.tuple #[.slice none 0 0, .int .i64 p, .int .i64 2])) w') := fun w' p hb hp => by rw [HP.out]; exact ⟨hb, .inr ⟨by omega, .inl ⟨p, hp, rfl⟩⟩⟩
  have HE2 : Hid (∀ w' A c, Below w.heap.size w w' → (lexS s.toList).2 = none → SliceIs Enc.tok w' w'.heap.size A (lexS s.toList).1.length c (lexS s.toList).1 → P (.returned (.tuple #[.slice A (lexS s.toList).1.length c, .int .i64 0, .int .i64 0])) w') := fun w' A c hb hp hA => by rw [HP.out]; exact ⟨hb, .inr ⟨by omega, .inr ⟨hp, A, c, rfl, hA⟩⟩⟩
  clear HP
  go_enter Tryz.func49, Tryz.ntmps49
  go_wp2_with fail
  refine (HL.out w).mono ?_
  rintro e w1 ⟨hb, A, c, hA, -, ⟨hn, rfl⟩ | ⟨p, hp, rfl⟩⟩
  · have HA := Lib.hid hA
    have Hn := Lib.hid hn
    clear hA hn
    go_wp2_with fail
    exact bodyPost_ret (v := .tuple #[.slice A (lexS s.toList).1.length c, .int .i64 0, .int .i64 0]) (by simp [results, Tryz.results49, go_sem]) rfl (HE2.out _ A c hb Hn.out HA.out)
  · have Hn := Lib.hid hp
    have p0 : (0 : Int) ≤ (p : Int) := by omega
    clear hA hp
    go_wp2_with fail
    exact bodyPost_ret (v := .tuple #[.slice none 0 0, .int .i64 p, .int .i64 2]) (by simp [results, Tryz.results49, go_sem]) rfl (HE1.out _ p hb Hn.out)

end Go.Proofs.YtiffmiabhapfnaaGreatDoor

/- term.Variable, term.named; the document's single, Variable, Named. -/
namespace Go.Proofs.YtiffmiabhapfnaaGreatDoor
open Go.RowKit

/-- a text is one token of a kind -/
def singleB (k : Int) (s : ByteArray) : Bool := decide (s.size ≤ 4000) && (match lexS s.toList with | ([q], none) => decide (q.k = k) && decide (q.t = s.toList) | _ => false)
theorem single_long {k : Int} {s : ByteArray} (h : 4000 < s.size) : singleB k s = false := by
  have : ¬ s.size ≤ 4000 := by omega
  simp [singleB, this]
theorem single_bad {k : Int} {s : ByteArray} {p : Nat} (h : (lexS s.toList).2 = some p) : singleB k s = false := by
  unfold singleB
  rcases hx : lexS s.toList with ⟨a, b⟩
  rw [hx] at h
  obtain rfl : b = some p := h
  simp
theorem single_many {k : Int} {s : ByteArray} (h : (lexS s.toList).1.length ≠ 1) : singleB k s = false := by
  unfold singleB
  rcases hx : lexS s.toList with ⟨a, b⟩
  rw [hx] at h
  match a, h with
  | [], _ => simp
  | [q], h => exact absurd rfl h
  | q :: r :: l, _ => simp
theorem single_one {k : Int} {s : ByteArray} {q : GTok} (h4 : s.size ≤ 4000) (h : (lexS s.toList).1 = [q]) (hn : (lexS s.toList).2 = none) : singleB k s = (decide (q.k = k) && decide (q.t = s.toList)) := by
  unfold singleB
  rcases hx : lexS s.toList with ⟨a, b⟩
  rw [hx] at h hn
  obtain rfl : a = [q] := h
  obtain rfl : b = none := hn
  simp [h4]
theorem single_at {s : ByteArray} {q : GTok} (h : (lexS s.toList).1 = [q]) (ht : q.t = s.toList) : q.a = 0 := by
  have h1 := lex_places (wk := wordK) s.toList.length 0 s.toList (Nat.le_refl _) q (by show q ∈ (lexS s.toList).1; rw [h]; simp)
  have h2 := h1.2.1
  rw [ht] at h2
  omega
theorem run_eql_tok (x : GTok) (k : Int) (s : ByteArray) (w : World) : (binOp .eql 85 (.agg #[.int .i64 x.k, .string (bytes x.t), .int .i64 x.a]) (.agg #[.int .i64 k, .string s, .int .i64 0])).run Tryz.prog w = .ok (.bool (decide (x.k = k) && (decide (x.t = s.toList) && decide (x.a = 0)))) w := by
  have h := run_eql_token x ⟨k, s.toList, 0⟩ w
  unfold tokC tokEq at h
  rw [show bytes s.toList = s from bytes_back s] at h
  exact h
theorem one_of {l : List GTok} (h : l.length = 1) : ∃ q, l = [q] := by
  match l, h with
  | [q], _ => exact ⟨q, rfl⟩

set_option maxRecDepth 100000 in
set_option maxHeartbeats 1000000 in
theorem variable_any (s : ByteArray) (hs : s.size ≤ 140737488351232) (w : World) (hW : LexW w) : Calls Tryz.prog 11 #[.string s] w (RetBool (singleB 3 s) w) := by
  have HL := Lib.hid (list_any s hs w hW)
  obtain ⟨B, HB⟩ : ∃ B, Hid (B = singleB 3 s) := ⟨_, rfl⟩
  rw [← HB.out]
  clear hW
  go_enter Tryz.func11, Tryz.ntmps11
  go_wp2_with fail
  refine HL.out.mono ?_
  rintro e w1 ⟨hb, ⟨h4, rfl⟩ | ⟨h4, ⟨p, hp, rfl⟩ | ⟨hn, A, c, rfl, hA⟩⟩⟩
  · have HE : Hid (B = false) := by show _ = _; rw [HB.out]; exact single_long h4
    have Hb := Lib.hid hb
    clear h4 hb HB
    go_wp2_with fail
    go_ret
    exact ⟨by rw [HE.out]; rfl, Hb.out⟩
  · have HE : Hid (B = false) := by show _ = _; rw [HB.out]; exact single_bad hp
    have Hb := Lib.hid hb
    clear h4 hb HB hp
    go_wp2_with fail
    go_ret
    exact ⟨by rw [HE.out]; rfl, Hb.out⟩
  · by_cases h1 : (lexS s.toList).1.length = 1
    · obtain ⟨q, hq⟩ := one_of h1
      have HE : Hid (B = (decide (q.k = 3) && decide (q.t = s.toList))) := by show _ = _; rw [HB.out]; exact single_one h4 hq hn
      have HZ := Lib.hid (single_at hq)
      rw [hq] at hA
      obtain ⟨b, o, x, rfl, hbB, hx, x0, x1, x2, f0, f1, f2⟩ := hA.tok_at (i := 0) (by simp)
      obtain rfl : x = q := by have := hx.out; simp at this; exact this.symm
      have Hb := Lib.hid hb
      rw [h1]
      simp only [Nat.zero_mul, Nat.add_zero] at x0 x1 x2
      clear h4 hb HB h1 hq hn hA hx f0 f1 f2
      go_wp2_with fail
      all_goals
        go_ret
        refine ⟨?_, Hb.out⟩
        have e1 : (bytes x.t).toList = x.t := toList_mk _
        have hE := HE.out
        have hz := HZ.out
        clear HL HE HZ Hb x0 x1 x2
        simp_all
    · have HE : Hid (B = false) := by show _ = _; rw [HB.out]; exact single_many h1
      have Hb := Lib.hid hb
      have q0 : ((((lexS s.toList).1.length : Nat) : Int) == 1) = false := by simp; omega
      clear h4 hb HB h1 hn hA
      go_wp2_with fail
      go_ret
      exact ⟨by rw [HE.out]; rfl, Hb.out⟩

set_option maxRecDepth 100000 in
set_option maxHeartbeats 1000000 in
theorem named_any (s : ByteArray) (hs : s.size ≤ 140737488351232) (w : World) (hW : LexW w) : Calls Tryz.prog 54 #[.string s] w (RetBool (singleB 2 s) w) := by
  have HL := Lib.hid (list_any s hs w hW)
  obtain ⟨B, HB⟩ : ∃ B, Hid (B = singleB 2 s) := ⟨_, rfl⟩
  rw [← HB.out]
  clear hW
  go_enter Tryz.func54, Tryz.ntmps54
  go_wp2_with fail
  refine HL.out.mono ?_
  rintro e w1 ⟨hb, ⟨h4, rfl⟩ | ⟨h4, ⟨p, hp, rfl⟩ | ⟨hn, A, c, rfl, hA⟩⟩⟩
  · have HE : Hid (B = false) := by show _ = _; rw [HB.out]; exact single_long h4
    have Hb := Lib.hid hb
    clear h4 hb HB
    go_wp2_with fail
    go_ret
    exact ⟨by rw [HE.out]; rfl, Hb.out⟩
  · have HE : Hid (B = false) := by show _ = _; rw [HB.out]; exact single_bad hp
    have Hb := Lib.hid hb
    clear h4 hb HB hp
    go_wp2_with fail
    go_ret
    exact ⟨by rw [HE.out]; rfl, Hb.out⟩
  · by_cases h1 : (lexS s.toList).1.length = 1
    · obtain ⟨q, hq⟩ := one_of h1
      have HE : Hid (B = (decide (q.k = 2) && decide (q.t = s.toList))) := by show _ = _; rw [HB.out]; exact single_one h4 hq hn
      have HZ := Lib.hid (single_at hq)
      rw [hq] at hA
      obtain ⟨b, o, x, rfl, hbB, hx, x0, x1, x2, f0, f1, f2⟩ := hA.tok_at (i := 0) (by simp)
      obtain rfl : x = q := by have := hx.out; simp at this; exact this.symm
      have Hb := Lib.hid hb
      rw [h1]
      simp only [Nat.zero_mul, Nat.add_zero] at x0 x1 x2
      clear h4 hb HB h1 hq hn hA hx f0 f1 f2
      go_wp2_with fail
      all_goals
        go_ret
        refine ⟨?_, Hb.out⟩
        have e1 : (bytes x.t).toList = x.t := toList_mk _
        have hE := HE.out
        have hz := HZ.out
        clear HL HE HZ Hb x0 x1 x2
        simp_all
    · have HE : Hid (B = false) := by show _ = _; rw [HB.out]; exact single_many h1
      have Hb := Lib.hid hb
      have q0 : ((((lexS s.toList).1.length : Nat) : Int) == 1) = false := by simp; omega
      clear h4 hb HB h1 hn hA
      go_wp2_with fail
      go_ret
      exact ⟨by rw [HE.out]; rfl, Hb.out⟩

set_option maxRecDepth 100000 in
set_option maxHeartbeats 1000000 in
theorem refSingle_any (s : ByteArray) (k : Int) (w : World) : Calls Tryz.prog 28 #[.string s, .int .i64 k] w (RetBool (singleB k s) w) := by
  have HL := Lib.hid (refAll_any s w)
  obtain ⟨B, HB⟩ : ∃ B, Hid (B = singleB k s) := ⟨_, rfl⟩
  rw [← HB.out]
  go_enter Tryz.func28, Tryz.ntmps28
  go_wp2_with fail
  refine HL.out.mono ?_
  rintro e w1 ⟨hb, ⟨h4, rfl⟩ | ⟨h4, ⟨p, hp, rfl⟩ | ⟨hn, A, c, rfl, hA⟩⟩⟩
  · have HE : Hid (B = false) := by show _ = _; rw [HB.out]; exact single_long h4
    have Hb := Lib.hid hb
    clear h4 hb HB
    go_wp2_with fail
    go_ret
    exact ⟨by rw [HE.out]; rfl, Hb.out⟩
  · have HE : Hid (B = false) := by show _ = _; rw [HB.out]; exact single_bad hp
    have Hb := Lib.hid hb
    clear h4 hb HB hp
    go_wp2_with fail
    go_ret
    exact ⟨by rw [HE.out]; rfl, Hb.out⟩
  · by_cases h1 : (lexS s.toList).1.length = 1
    · obtain ⟨q, hq⟩ := one_of h1
      have HE : Hid (B = (decide (q.k = k) && decide (q.t = s.toList))) := by show _ = _; rw [HB.out]; exact single_one h4 hq hn
      rw [hq] at hA
      obtain ⟨b, o, x, rfl, hbB, hx, x0, x1, x2, f0, f1, f2⟩ := hA.tok_at (i := 0) (by simp)
      obtain rfl : x = q := by have := hx.out; simp at this; exact this.symm
      have Hb := Lib.hid hb
      rw [h1]
      simp only [Nat.zero_mul, Nat.add_zero] at x0 x1 x2
      have e1 : (bytes x.t).toList = x.t := toList_mk _
      clear h4 hb HB h1 hq hn hA hx f0 f1 f2
      by_cases hk : x.k = k
      · have k0 : (x.k == k) = true := by simp [hk]
        by_cases ht : x.t = s.toList
        · have t0 : (x.t == s.toList) = true := by simp [ht]
          have HE3 : Hid (B = true) := by show _ = _; rw [HE.out]; simp [hk, ht]
          clear hk ht HE
          go_wp2_with fail
          go_ret
          exact ⟨by rw [HE3.out]; rfl, Hb.out⟩
        · have t0 : (x.t == s.toList) = false := by simp [ht]
          have HE3 : Hid (B = false) := by show _ = _; rw [HE.out]; simp [ht]
          clear hk ht HE
          go_wp2_with fail
          go_ret
          exact ⟨by rw [HE3.out]; rfl, Hb.out⟩
      · have k0 : (x.k == k) = false := by simp [hk]
        have HE3 : Hid (B = false) := by show _ = _; rw [HE.out]; simp [hk]
        clear hk HE
        go_wp2_with fail
        go_ret
        exact ⟨by rw [HE3.out]; rfl, Hb.out⟩
    · have HE : Hid (B = false) := by show _ = _; rw [HB.out]; exact single_many h1
      have Hb := Lib.hid hb
      have q0 : ((((lexS s.toList).1.length : Nat) : Int) == 1) = false := by simp; omega
      clear h4 hb HB h1 hn hA
      go_wp2_with fail
      go_ret
      exact ⟨by rw [HE.out]; rfl, Hb.out⟩

set_option maxRecDepth 100000 in
theorem refVariable_any (s : ByteArray) (w : World) : Calls Tryz.prog 12 #[.string s] w (RetBool (singleB 3 s) w) := by
  have HL := Lib.hid (refSingle_any s 3 w)
  go_enter Tryz.func12, Tryz.ntmps12
  go_wp2_with fail
  refine HL.out.mono ?_
  rintro e w1 ⟨rfl, hb⟩
  go_wp2_with fail
  go_ret
  exact ⟨rfl, hb⟩
set_option maxRecDepth 100000 in
theorem refNamed_any (s : ByteArray) (w : World) : Calls Tryz.prog 41 #[.string s] w (RetBool (singleB 2 s) w) := by
  have HL := Lib.hid (refSingle_any s 2 w)
  go_enter Tryz.func41, Tryz.ntmps41
  go_wp2_with fail
  refine HL.out.mono ?_
  rintro e w1 ⟨rfl, hb⟩
  go_wp2_with fail
  go_ret
  exact ⟨rfl, hb⟩
end Go.Proofs.YtiffmiabhapfnaaGreatDoor
