/- Term.right; the document's RightTerm. -/
import Derived.Test.YtiffmiabhapfnaaGreatDoorTVar
import Derived.Test.YtiffmiabhapfnaaGreatDoorPgm
import Derived.Test.YtiffmiabhapfnaaGreatDoorName
import Derived.Test.YtiffmiabhapfnaaGreatDoorVParse
namespace Go.Proofs.YtiffmiabhapfnaaGreatDoor
open Go.RowKit

theorem str_empty {s : ByteArray} : s.toList = [] ↔ s.size = 0 := by
  rw [← ba_len]; simp
def rightT (t : GTold) : Bool := if t.x.size = 0 then rightB t.v else singleB 3 t.x && decide (t.v = gv0)
abbrev toldV (t : GTold) : Value := .agg #[.string t.x, .int .i64 t.v.k, .int .i64 t.v.n, .string t.v.s]
theorem gv_zero {v : GV} : v = gv0 ↔ v.k = 0 ∧ v.n = 0 ∧ v.s.toList = [] := by
  cases v
  simp [gv0, ← toList_inj, show (⟨#[]⟩ : ByteArray).toList = [] from by rw [ByteArray.toList_eq]]

set_option maxRecDepth 100000 in
set_option maxHeartbeats 1000000 in
theorem tright_any (t : GTold) (hx : t.x.size ≤ reachN) (w : World) (hW : LexW w) : Calls Tryz.prog 59 #[toldV t] w (RetBool (rightT t) w) := by
  obtain ⟨B, HB⟩ : ∃ B, Hid (B = rightT t) := ⟨_, rfl⟩
  rw [← HB.out]
  have hrb : (w.alloc (.cells #[.string t.x, .int .i64 t.v.k, .int .i64 t.v.n, .string t.v.s] 26)).heap[w.heap.size]? = some (.cells #[.string t.x, .int .i64 t.v.k, .int .i64 t.v.n, .string t.v.s] 26 (0, 0)) := heapNew rfl
  have hba : Below w.heap.size w (w.alloc (.cells #[.string t.x, .int .i64 t.v.k, .int .i64 t.v.n, .string t.v.s] 26)) := belowA (Below.refl _ _) _
  have HR := Lib.hid (fun W => right_any t.v W)
  have HV := Lib.hid (variable_any t.x hx _ (hW.on hba))
  clear hW
  generalize hwb : w.alloc (.cells #[.string t.x, .int .i64 t.v.k, .int .i64 t.v.n, .string t.v.s] 26) = wb at *
  obtain ⟨b0, b1, b2, b3⟩ := facts4 hrb
  have Hlt := Lib.hid (Array.getElem?_eq_some_iff.1 hrb).1
  by_cases h0 : t.x.size = 0
  · have e0 : (t.x.toList == ([] : List UInt8)) = true := by simp [str_empty.2 h0]
    have e1 : t.x.toList.isEmpty = true := by simp [str_empty.2 h0]
    have HE : Hid (B = rightB t.v) := by show _ = _; rw [HB.out]; simp [rightT, h0]
    clear h0 HB
    go_enter Tryz.func59, Tryz.ntmps59
    go_wp2_with fail
    try simp only [hwb]
    go_wp2_with fail
    refine (HR.out _).mono ?_
    rintro e w1 ⟨rfl, hb⟩
    have Hb := Lib.hid hb
    clear hb
    go_wp2_with fail
    go_ret
    exact ⟨by rw [HE.out]; rfl, below_next hba Hb.out⟩
  · have e0 : (t.x.toList == ([] : List UInt8)) = false := by simp [str_empty, h0]
    have e1 : t.x.toList.isEmpty = false := by simp [str_empty, h0]
    have HE : Hid (B = (singleB 3 t.x && decide (t.v = gv0))) := by show _ = _; rw [HB.out]; simp [rightT, h0]
    clear h0 HB
    go_enter Tryz.func59, Tryz.ntmps59
    go_wp2_with fail
    try simp only [hwb]
    go_wp2_with fail
    refine HV.out.mono ?_
    rintro e w1 ⟨rfl, hb⟩
    have Hb := Lib.hid hb
    obtain ⟨c0, c1, c2, c3⟩ := facts4 ((hb.block _ Hlt.out).trans hrb)
    clear hb
    cases hs : singleB 3 t.x with
    | false =>
      have HE2 : Hid (B = false) := by show _ = _; rw [HE.out, hs]; rfl
      clear HE hs
      go_wp2_with fail
      go_ret
      exact ⟨by rw [HE2.out]; rfl, below_next hba Hb.out⟩
    | true =>
      have HE2 : Hid (B = decide (t.v = gv0)) := by show _ = _; rw [HE.out, hs]; rfl
      clear HE hs
      go_wp2_with fail
      all_goals
        go_ret
        refine ⟨?_, below_next hba Hb.out⟩
        have hE := HE2.out
        clear HE2 Hb HR HV c0 c1 c2 c3 b0 b1 b2 b3 hwb hrb hba Hlt
        simp_all [gv_zero]
set_option maxRecDepth 100000 in
set_option maxHeartbeats 1000000 in
theorem refTright_any (t : GTold) (hv : t.v.ok) (w : World) : Calls Tryz.prog 91 #[toldV t] w (RetBool (rightT t) w) := by
  obtain ⟨B, HB⟩ : ∃ B, Hid (B = rightT t) := ⟨_, rfl⟩
  rw [← HB.out]
  have hrb : (w.alloc (.cells #[.string t.x, .int .i64 t.v.k, .int .i64 t.v.n, .string t.v.s] 34)).heap[w.heap.size]? = some (.cells #[.string t.x, .int .i64 t.v.k, .int .i64 t.v.n, .string t.v.s] 34 (0, 0)) := heapNew rfl
  have hba : Below w.heap.size w (w.alloc (.cells #[.string t.x, .int .i64 t.v.k, .int .i64 t.v.n, .string t.v.s] 34)) := belowA (Below.refl _ _) _
  have HR := Lib.hid (fun W => refRight_any t.v hv W)
  have HV := Lib.hid (fun W => refVariable_any t.x W)
  generalize hwb : w.alloc (.cells #[.string t.x, .int .i64 t.v.k, .int .i64 t.v.n, .string t.v.s] 34) = wb at *
  obtain ⟨b0, b1, b2, b3⟩ := facts4 hrb
  have Hlt := Lib.hid (Array.getElem?_eq_some_iff.1 hrb).1
  by_cases h0 : t.x.size = 0
  · have e0 : ((t.x.size : Int) == 0) = true := by simp [h0]
    have HE : Hid (B = rightB t.v) := by show _ = _; rw [HB.out]; simp [rightT, h0]
    clear h0 HB
    go_enter Tryz.func91, Tryz.ntmps91
    go_wp2_with fail
    try simp only [hwb]
    go_wp2_with fail
    refine (HR.out _).mono ?_
    rintro e w1 ⟨rfl, hb⟩
    have Hb := Lib.hid hb
    clear hb
    go_wp2_with fail
    go_ret
    exact ⟨by rw [HE.out]; rfl, below_next hba Hb.out⟩
  · have e0 : ((t.x.size : Int) == 0) = false := by rw [beq_eq_false_iff_ne]; omega
    have HE : Hid (B = (singleB 3 t.x && decide (t.v = gv0))) := by show _ = _; rw [HB.out]; simp [rightT, h0]
    clear h0 HB
    go_enter Tryz.func91, Tryz.ntmps91
    go_wp2_with fail
    try simp only [hwb]
    go_wp2_with fail
    refine (HV.out _).mono ?_
    rintro e w1 ⟨rfl, hb⟩
    have Hb := Lib.hid hb
    obtain ⟨c0, c1, c2, c3⟩ := facts4 ((hb.block _ Hlt.out).trans hrb)
    clear hb
    cases hs : singleB 3 t.x with
    | false =>
      have HE2 : Hid (B = false) := by show _ = _; rw [HE.out, hs]; rfl
      clear HE hs
      go_wp2_with fail
      go_ret
      exact ⟨by rw [HE2.out]; rfl, below_next hba Hb.out⟩
    | true =>
      have HE2 : Hid (B = decide (t.v = gv0)) := by show _ = _; rw [HE.out, hs]; rfl
      clear HE hs
      go_wp2_with fail
      all_goals
        go_ret
        refine ⟨?_, below_next hba Hb.out⟩
        have hE := HE2.out
        clear HE2 Hb HR HV c0 c1 c2 c3 b0 b1 b2 b3 hwb hrb hba Hlt
        simp_all [gv_zero]
end Go.Proofs.YtiffmiabhapfnaaGreatDoor
