/- value.Of, Symbol at every input; corollarynum.Is. -/
import Derived.Test.YtpjdjiohdhekaaaDoorVHash
namespace Go.Proofs.YtpjdjiohdhekaaaDoor
open Go.RowKit

def gv0 : GV := ⟨0, 0, ⟨#[]⟩⟩
set_option maxRecDepth 100000 in
set_option maxHeartbeats 400000 in
theorem of_no (n : Int) (h : (decide (-2147483647 ≤ n) && decide (n ≤ 2147483647)) = false) (w : World) : Calls Tryd.prog 11 #[.int .i64 n] w (RetV (.tuple #[gv0.v, errV 36 10]) w) := by
  have hb := fun w => bounded_any n w
  rw [h] at hb
  have hb := Lib.hid hb
  clear h
  go_enter Tryd.func11, Tryd.ntmps11
  go_wp2_with fail
  refine (hb.out _).mono ?_
  rintro e w1 ⟨rfl, hq1⟩
  obtain ⟨hc, hf⟩ := bcell hq1
  have hz := hq1.size
  simp only [World.size_alloc, Nat.add_one_le_iff] at hz hc hf
  go_wp2_with fail
  exact bodyPost_ret (v := .tuple #[gv0.v, .iface 36 (.int .i64 10)]) (by simp [results, Tryd.results11, go_sem, hc, gv0]) rfl ⟨rfl, by
    refine (((below_next (belowA (Below.refl _ w) _) hq1).setCell (Nat.le_refl _) _).setCell (Nat.le_refl _) _).setCell (Nat.le_refl _) _⟩

set_option maxRecDepth 100000 in
set_option maxHeartbeats 400000 in
theorem symbol_no (s : ByteArray) (h : nameOk s = false) (w : World) : Calls Tryd.prog 12 #[.string s] w (RetV (.tuple #[gv0.v, errV 36 5]) w) := by
  have hb := fun w => name_any s w
  rw [h] at hb
  have hb := Lib.hid hb
  clear h
  go_enter Tryd.func12, Tryd.ntmps12
  go_wp2_with fail
  refine (hb.out _).mono ?_
  rintro e w1 ⟨rfl, hq1⟩
  obtain ⟨hc, hf⟩ := bcell hq1
  have hz := hq1.size
  simp only [World.size_alloc, Nat.add_one_le_iff] at hz hc hf
  go_wp2_with fail
  exact bodyPost_ret (v := .tuple #[gv0.v, .iface 36 (.int .i64 5)]) (by simp [results, Tryd.results12, go_sem, hc, gv0]) rfl ⟨rfl, by
    refine (((below_next (belowA (Below.refl _ w) _) hq1).setCell (Nat.le_refl _) _).setCell (Nat.le_refl _) _).setCell (Nat.le_refl _) _⟩

def bndB (n : Int) : Bool := decide (-2147483647 ≤ n) && decide (n ≤ 2147483647)
def ofV (n : Int) : GV := if bndB n then ⟨1, n, ⟨#[]⟩⟩ else gv0
def ofE (n : Int) : Int := if bndB n then 0 else 10
def symV (s : ByteArray) : GV := if nameOk s then ⟨2, 0, s⟩ else gv0
def symE (s : ByteArray) : Int := if nameOk s then 0 else 5
theorem of_any (n : Int) (w : World) : Calls Tryd.prog 11 #[.int .i64 n] w (RetV (.tuple #[(ofV n).v, errV 36 (ofE n)]) w) := by
  cases h : bndB n with
  | true => simp only [ofV, ofE, h]; exact of_ok n h w
  | false => have := of_no n h w; simpa [ofV, ofE, h] using this
theorem symbol_any (s : ByteArray) (w : World) : Calls Tryd.prog 12 #[.string s] w (RetV (.tuple #[(symV s).v, errV 36 (symE s)]) w) := by
  cases h : nameOk s with
  | true => simp only [symV, symE, h]; exact symbol_ok s h w
  | false => have := symbol_no s h w; simpa [symV, symE, h] using this

set_option maxRecDepth 100000 in
set_option maxHeartbeats 400000 in
theorem is_any (n k : Int) (w : World) : Calls Tryd.prog 13 #[errV 36 n, .int .i64 k] w (RetBool (n == k) w) := by
  have hn := Lib.hid (num_any n)
  go_enter Tryd.func13, Tryd.ntmps13
  go_wp2_with fail
  refine (hn.out _).mono ?_
  rintro e w1 ⟨rfl, hq1⟩
  go_wp2_with fail
  go_ret
  exact ⟨rfl, hq1⟩
end Go.Proofs.YtpjdjiohdhekaaaDoor
