/- My own texts TVar, TRight, TEvT, ExpSize, as far as this claim needs them. -/
import Derived.Test.YtgabkmibfhmkmaaGreatDoorZe2
import Derived.Test.YtgabkmibfhmkmaaGreatDoorZe3
import Derived.Test.YtgabkmibfhmkmaaGreatDoorZe4
import Derived.Test.YtgabkmibfhmkmaaGreatDoorZe5
import Derived.Test.YtgabkmibfhmkmaaGreatDoorZe6
import Derived.Test.YtgabkmibfhmkmaaGreatDoorZe9
import Derived.Test.YtgabkmibfhmkmaaGreatDoorZe10
set_option linter.unusedVariables false
set_option linter.unusedSimpArgs false
namespace Go.Proofs.YtgabkmibfhmkmaaGreatDoor
open Go.RowKit
/-- a text is one token of a kind -/
def singleB (k : Int) (s : ByteArray) : Bool := decide (s.size ≤ 4000) && (match lexS s.toList with | ([q], none) => decide (q.k = k) && decide (q.t = s.toList) | _ => false)
theorem single_long {k : Int} {s : ByteArray} (h : 4000 < s.size) : singleB k s = false := by
  have : ¬ s.size ≤ 4000 := by omega
  simp [singleB, this]
theorem single_bad {k : Int} {s : ByteArray} {p : Nat} (h : (lexS s.toList).2 = some p) : singleB k s = false := by
  unfold singleB
  rcases hx : lexS s.toList with ⟨a, b⟩
  rw [hx] at h
  obtain rfl : b = some p := h
  simp
theorem single_many {k : Int} {s : ByteArray} (h : (lexS s.toList).1.length ≠ 1) : singleB k s = false := by
  unfold singleB
  rcases hx : lexS s.toList with ⟨a, b⟩
  rw [hx] at h
  match a, h with
  | [], _ => simp
  | [q], h => exact absurd rfl h
  | q :: r :: l, _ => simp
theorem single_one {k : Int} {s : ByteArray} {q : GTok} (h4 : s.size ≤ 4000) (h : (lexS s.toList).1 = [q]) (hn : (lexS s.toList).2 = none) : singleB k s = (decide (q.k = k) && decide (q.t = s.toList)) := by
  unfold singleB
  rcases hx : lexS s.toList with ⟨a, b⟩
  rw [hx] at h hn
  obtain rfl : a = [q] := h
  obtain rfl : b = none := hn
  simp [h4]
theorem single_at {s : ByteArray} {q : GTok} (h : (lexS s.toList).1 = [q]) (ht : q.t = s.toList) : q.a = 0 := by
  have h1 := lex_places (wk := wordK) s.toList.length 0 s.toList (Nat.le_refl _) q (by show q ∈ (lexS s.toList).1; rw [h]; simp)
  have h2 := h1.2.1
  rw [ht] at h2
  omega
theorem one_of {l : List GTok} (h : l.length = 1) : ∃ q, l = [q] := by
  match l, h with
  | [q], _ => exact ⟨q, rfl⟩
set_option maxRecDepth 100000 in
set_option maxHeartbeats 1000000 in
theorem variable_any (s : ByteArray) (hs : s.size ≤ 140737488351232) (w : World) (hW : LexW w) : Calls Tryz.prog 122 #[.string s] w (RetBool (singleB 3 s) w) := by
  have HL := Lib.hid (list_any s hs w hW)
  obtain ⟨B, HB⟩ : ∃ B, Hid (B = singleB 3 s) := ⟨_, rfl⟩
  rw [← HB.out]
  clear hW
  go_enter Tryz.func122, Tryz.ntmps122
  go_wp2_with fail
  refine HL.out.mono ?_
  rintro e w1 ⟨hb, ⟨h4, rfl⟩ | ⟨h4, ⟨p, hp, rfl⟩ | ⟨hn, A, c, rfl, hA⟩⟩⟩
  · have HE : Hid (B = false) := by show _ = _; rw [HB.out]; exact single_long h4
    have Hb := Lib.hid hb
    clear h4 hb HB
    go_wp2_with fail
    go_ret
    exact ⟨by rw [HE.out]; rfl, Hb.out⟩
  · have HE : Hid (B = false) := by show _ = _; rw [HB.out]; exact single_bad hp
    have Hb := Lib.hid hb
    clear h4 hb HB hp
    go_wp2_with fail
    go_ret
    exact ⟨by rw [HE.out]; rfl, Hb.out⟩
  · by_cases h1 : (lexS s.toList).1.length = 1
    · obtain ⟨q, hq⟩ := one_of h1
      have HE : Hid (B = (decide (q.k = 3) && decide (q.t = s.toList))) := by show _ = _; rw [HB.out]; exact single_one h4 hq hn
      have HZ := Lib.hid (single_at hq)
      rw [hq] at hA
      obtain ⟨b, o, x, rfl, hbB, hx, x0, x1, x2, f0, f1, f2⟩ := hA.tok_at (i := 0) (by simp)
      obtain rfl : x = q := by have := hx.out; simp at this; exact this.symm
      have Hb := Lib.hid hb
      rw [h1]
      simp only [Nat.zero_mul, Nat.add_zero] at x0 x1 x2
      clear h4 hb HB h1 hq hn hA hx f0 f1 f2
      go_wp2_with fail
      all_goals
        go_ret
        refine ⟨?_, Hb.out⟩
        have e1 : (bytes x.t).toList = x.t := toList_mk _
        have hE := HE.out
        have hz := HZ.out
        clear HL HE HZ Hb x0 x1 x2
        simp_all
    · have HE : Hid (B = false) := by show _ = _; rw [HB.out]; exact single_many h1
      have Hb := Lib.hid hb
      have q0 : ((((lexS s.toList).1.length : Nat) : Int) == 1) = false := by simp; omega
      clear h4 hb HB h1 hn hA
      go_wp2_with fail
      go_ret
      exact ⟨by rw [HE.out]; rfl, Hb.out⟩
set_option maxRecDepth 100000 in
set_option maxHeartbeats 1000000 in
theorem named_any (s : ByteArray) (hs : s.size ≤ 140737488351232) (w : World) (hW : LexW w) : Calls Tryz.prog 199 #[.string s] w (RetBool (singleB 2 s) w) := by
  have HL := Lib.hid (list_any s hs w hW)
  obtain ⟨B, HB⟩ : ∃ B, Hid (B = singleB 2 s) := ⟨_, rfl⟩
  rw [← HB.out]
  clear hW
  go_enter Tryz.func199, Tryz.ntmps199
  go_wp2_with fail
  refine HL.out.mono ?_
  rintro e w1 ⟨hb, ⟨h4, rfl⟩ | ⟨h4, ⟨p, hp, rfl⟩ | ⟨hn, A, c, rfl, hA⟩⟩⟩
  · have HE : Hid (B = false) := by show _ = _; rw [HB.out]; exact single_long h4
    have Hb := Lib.hid hb
    clear h4 hb HB
    go_wp2_with fail
    go_ret
    exact ⟨by rw [HE.out]; rfl, Hb.out⟩
  · have HE : Hid (B = false) := by show _ = _; rw [HB.out]; exact single_bad hp
    have Hb := Lib.hid hb
    clear h4 hb HB hp
    go_wp2_with fail
    go_ret
    exact ⟨by rw [HE.out]; rfl, Hb.out⟩
  · by_cases h1 : (lexS s.toList).1.length = 1
    · obtain ⟨q, hq⟩ := one_of h1
      have HE : Hid (B = (decide (q.k = 2) && decide (q.t = s.toList))) := by show _ = _; rw [HB.out]; exact single_one h4 hq hn
      have HZ := Lib.hid (single_at hq)
      rw [hq] at hA
      obtain ⟨b, o, x, rfl, hbB, hx, x0, x1, x2, f0, f1, f2⟩ := hA.tok_at (i := 0) (by simp)
      obtain rfl : x = q := by have := hx.out; simp at this; exact this.symm
      have Hb := Lib.hid hb
      rw [h1]
      simp only [Nat.zero_mul, Nat.add_zero] at x0 x1 x2
      clear h4 hb HB h1 hq hn hA hx f0 f1 f2
      go_wp2_with fail
      all_goals
        go_ret
        refine ⟨?_, Hb.out⟩
        have e1 : (bytes x.t).toList = x.t := toList_mk _
        have hE := HE.out
        have hz := HZ.out
        clear HL HE HZ Hb x0 x1 x2
        simp_all
    · have HE : Hid (B = false) := by show _ = _; rw [HB.out]; exact single_many h1
      have Hb := Lib.hid hb
      have q0 : ((((lexS s.toList).1.length : Nat) : Int) == 1) = false := by simp; omega
      clear h4 hb HB h1 hn hA
      go_wp2_with fail
      go_ret
      exact ⟨by rw [HE.out]; rfl, Hb.out⟩
set_option maxRecDepth 100000 in
set_option maxHeartbeats 1000000 in
theorem refSingle_any (s : ByteArray) (k : Int) (w : World) : Calls Tryz.prog 203 #[.string s, .int .i64 k] w (RetBool (singleB k s) w) := by
  have HL := Lib.hid (refAll_any s w)
  obtain ⟨B, HB⟩ : ∃ B, Hid (B = singleB k s) := ⟨_, rfl⟩
  rw [← HB.out]
  go_enter Tryz.func203, Tryz.ntmps203
  go_wp2_with fail
  refine HL.out.mono ?_
  rintro e w1 ⟨hb, ⟨h4, rfl⟩ | ⟨h4, ⟨p, hp, rfl⟩ | ⟨hn, A, c, rfl, hA⟩⟩⟩
  · have HE : Hid (B = false) := by show _ = _; rw [HB.out]; exact single_long h4
    have Hb := Lib.hid hb
    clear h4 hb HB
    go_wp2_with fail
    go_ret
    exact ⟨by rw [HE.out]; rfl, Hb.out⟩
  · have HE : Hid (B = false) := by show _ = _; rw [HB.out]; exact single_bad hp
    have Hb := Lib.hid hb
    clear h4 hb HB hp
    go_wp2_with fail
    go_ret
    exact ⟨by rw [HE.out]; rfl, Hb.out⟩
  · by_cases h1 : (lexS s.toList).1.length = 1
    · obtain ⟨q, hq⟩ := one_of h1
      have HE : Hid (B = (decide (q.k = k) && decide (q.t = s.toList))) := by show _ = _; rw [HB.out]; exact single_one h4 hq hn
      rw [hq] at hA
      obtain ⟨b, o, x, rfl, hbB, hx, x0, x1, x2, f0, f1, f2⟩ := hA.tok_at (i := 0) (by simp)
      obtain rfl : x = q := by have := hx.out; simp at this; exact this.symm
      have Hb := Lib.hid hb
      rw [h1]
      simp only [Nat.zero_mul, Nat.add_zero] at x0 x1 x2
      have e1 : (bytes x.t).toList = x.t := toList_mk _
      clear h4 hb HB h1 hq hn hA hx f0 f1 f2
      by_cases hk : x.k = k
      · have k0 : (x.k == k) = true := by simp [hk]
        by_cases ht : x.t = s.toList
        · have t0 : (x.t == s.toList) = true := by simp [ht]
          have HE3 : Hid (B = true) := by show _ = _; rw [HE.out]; simp [hk, ht]
          clear hk ht HE
          go_wp2_with fail
          go_ret
          exact ⟨by rw [HE3.out]; rfl, Hb.out⟩
        · have t0 : (x.t == s.toList) = false := by simp [ht]
          have HE3 : Hid (B = false) := by show _ = _; rw [HE.out]; simp [ht]
          clear hk ht HE
          go_wp2_with fail
          go_ret
          exact ⟨by rw [HE3.out]; rfl, Hb.out⟩
      · have k0 : (x.k == k) = false := by simp [hk]
        have HE3 : Hid (B = false) := by show _ = _; rw [HE.out]; simp [hk]
        clear hk HE
        go_wp2_with fail
        go_ret
        exact ⟨by rw [HE3.out]; rfl, Hb.out⟩
    · have HE : Hid (B = false) := by show _ = _; rw [HB.out]; exact single_many h1
      have Hb := Lib.hid hb
      have q0 : ((((lexS s.toList).1.length : Nat) : Int) == 1) = false := by simp; omega
      clear h4 hb HB h1 hn hA
      go_wp2_with fail
      go_ret
      exact ⟨by rw [HE.out]; rfl, Hb.out⟩
set_option maxRecDepth 100000 in
theorem refVariable_any (s : ByteArray) (w : World) : Calls Tryz.prog 262 #[.string s] w (RetBool (singleB 3 s) w) := by
  have HL := Lib.hid (refSingle_any s 3 w)
  go_enter Tryz.func262, Tryz.ntmps262
  go_wp2_with fail
  refine HL.out.mono ?_
  rintro e w1 ⟨rfl, hb⟩
  go_wp2_with fail
  go_ret
  exact ⟨rfl, hb⟩
set_option maxRecDepth 100000 in
theorem refNamed_any (s : ByteArray) (w : World) : Calls Tryz.prog 126 #[.string s] w (RetBool (singleB 2 s) w) := by
  have HL := Lib.hid (refSingle_any s 2 w)
  go_enter Tryz.func126, Tryz.ntmps126
  go_wp2_with fail
  refine HL.out.mono ?_
  rintro e w1 ⟨rfl, hb⟩
  go_wp2_with fail
  go_ret
  exact ⟨rfl, hb⟩
end Go.Proofs.YtgabkmibfhmkmaaGreatDoor

namespace Go.Proofs.YtgabkmibfhmkmaaGreatDoor
open Go.RowKit
theorem str_empty {s : ByteArray} : s.toList = [] ↔ s.size = 0 := by
  rw [← ba_len]; simp
def rightT (t : GTold) : Bool := if t.x.size = 0 then rightB t.v else singleB 3 t.x && decide (t.v = gv0)
abbrev toldV (t : GTold) : Value := .agg #[.string t.x, .int .i64 t.v.k, .int .i64 t.v.n, .string t.v.s]
theorem gv_zero {v : GV} : v = gv0 ↔ v.k = 0 ∧ v.n = 0 ∧ v.s.toList = [] := by
  cases v
  simp [gv0, ← toList_inj, show (⟨#[]⟩ : ByteArray).toList = [] from by rw [ByteArray.toList_eq]]
set_option maxRecDepth 100000 in
set_option maxHeartbeats 1000000 in
theorem tright_any (t : GTold) (hx : t.x.size ≤ reachN) (w : World) (hW : LexW w) : Calls Tryz.prog 219 #[toldV t] w (RetBool (rightT t) w) := by
  obtain ⟨B, HB⟩ : ∃ B, Hid (B = rightT t) := ⟨_, rfl⟩
  rw [← HB.out]
  have hrb : (w.alloc (.cells #[.string t.x, .int .i64 t.v.k, .int .i64 t.v.n, .string t.v.s] 30)).heap[w.heap.size]? = some (.cells #[.string t.x, .int .i64 t.v.k, .int .i64 t.v.n, .string t.v.s] 30 (0, 0)) := heapNew rfl
  have hba : Below w.heap.size w (w.alloc (.cells #[.string t.x, .int .i64 t.v.k, .int .i64 t.v.n, .string t.v.s] 30)) := belowA (Below.refl _ _) _
  have HR := Lib.hid (fun W => right_any t.v W)
  have HV := Lib.hid (variable_any t.x hx _ (hW.on hba))
  clear hW
  generalize hwb : w.alloc (.cells #[.string t.x, .int .i64 t.v.k, .int .i64 t.v.n, .string t.v.s] 30) = wb at *
  obtain ⟨b0, b1, b2, b3⟩ := facts4 hrb
  have Hlt := Lib.hid (Array.getElem?_eq_some_iff.1 hrb).1
  by_cases h0 : t.x.size = 0
  · have e0 : (t.x.toList == ([] : List UInt8)) = true := by simp [str_empty.2 h0]
    have e1 : t.x.toList.isEmpty = true := by simp [str_empty.2 h0]
    have HE : Hid (B = rightB t.v) := by show _ = _; rw [HB.out]; simp [rightT, h0]
    clear h0 HB
    go_enter Tryz.func219, Tryz.ntmps219
    go_wp2_with fail
    try simp only [hwb]
    go_wp2_with fail
    refine (HR.out _).mono ?_
    rintro e w1 ⟨rfl, hb⟩
    have Hb := Lib.hid hb
    clear hb
    go_wp2_with fail
    go_ret
    exact ⟨by rw [HE.out]; rfl, below_next hba Hb.out⟩
  · have e0 : (t.x.toList == ([] : List UInt8)) = false := by simp [str_empty, h0]
    have e1 : t.x.toList.isEmpty = false := by simp [str_empty, h0]
    have HE : Hid (B = (singleB 3 t.x && decide (t.v = gv0))) := by show _ = _; rw [HB.out]; simp [rightT, h0]
    clear h0 HB
    go_enter Tryz.func219, Tryz.ntmps219
    go_wp2_with fail
    try simp only [hwb]
    go_wp2_with fail
    refine HV.out.mono ?_
    rintro e w1 ⟨rfl, hb⟩
    have Hb := Lib.hid hb
    obtain ⟨c0, c1, c2, c3⟩ := facts4 ((hb.block _ Hlt.out).trans hrb)
    clear hb
    cases hs : singleB 3 t.x with
    | false =>
      have HE2 : Hid (B = false) := by show _ = _; rw [HE.out, hs]; rfl
      clear HE hs
      go_wp2_with fail
      go_ret
      exact ⟨by rw [HE2.out]; rfl, below_next hba Hb.out⟩
    | true =>
      have HE2 : Hid (B = decide (t.v = gv0)) := by show _ = _; rw [HE.out, hs]; rfl
      clear HE hs
      go_wp2_with fail
      all_goals
        go_ret
        refine ⟨?_, below_next hba Hb.out⟩
        have hE := HE2.out
        clear HE2 Hb HR HV c0 c1 c2 c3 b0 b1 b2 b3 hwb hrb hba Hlt
        simp_all [gv_zero]
set_option maxRecDepth 100000 in
set_option maxHeartbeats 1000000 in
theorem refTright_any (t : GTold) (hv : t.v.ok) (w : World) : Calls Tryz.prog 193 #[toldV t] w (RetBool (rightT t) w) := by
  obtain ⟨B, HB⟩ : ∃ B, Hid (B = rightT t) := ⟨_, rfl⟩
  rw [← HB.out]
  have hrb : (w.alloc (.cells #[.string t.x, .int .i64 t.v.k, .int .i64 t.v.n, .string t.v.s] 46)).heap[w.heap.size]? = some (.cells #[.string t.x, .int .i64 t.v.k, .int .i64 t.v.n, .string t.v.s] 46 (0, 0)) := heapNew rfl
  have hba : Below w.heap.size w (w.alloc (.cells #[.string t.x, .int .i64 t.v.k, .int .i64 t.v.n, .string t.v.s] 46)) := belowA (Below.refl _ _) _
  have HR := Lib.hid (fun W => refRight_any t.v hv W)
  have HV := Lib.hid (fun W => refVariable_any t.x W)
  generalize hwb : w.alloc (.cells #[.string t.x, .int .i64 t.v.k, .int .i64 t.v.n, .string t.v.s] 46) = wb at *
  obtain ⟨b0, b1, b2, b3⟩ := facts4 hrb
  have Hlt := Lib.hid (Array.getElem?_eq_some_iff.1 hrb).1
  by_cases h0 : t.x.size = 0
  · have e0 : ((t.x.size : Int) == 0) = true := by simp [h0]
    have HE : Hid (B = rightB t.v) := by show _ = _; rw [HB.out]; simp [rightT, h0]
    clear h0 HB
    go_enter Tryz.func193, Tryz.ntmps193
    go_wp2_with fail
    try simp only [hwb]
    go_wp2_with fail
    refine (HR.out _).mono ?_
    rintro e w1 ⟨rfl, hb⟩
    have Hb := Lib.hid hb
    clear hb
    go_wp2_with fail
    go_ret
    exact ⟨by rw [HE.out]; rfl, below_next hba Hb.out⟩
  · have e0 : ((t.x.size : Int) == 0) = false := by rw [beq_eq_false_iff_ne]; omega
    have HE : Hid (B = (singleB 3 t.x && decide (t.v = gv0))) := by show _ = _; rw [HB.out]; simp [rightT, h0]
    clear h0 HB
    go_enter Tryz.func193, Tryz.ntmps193
    go_wp2_with fail
    try simp only [hwb]
    go_wp2_with fail
    refine (HV.out _).mono ?_
    rintro e w1 ⟨rfl, hb⟩
    have Hb := Lib.hid hb
    obtain ⟨c0, c1, c2, c3⟩ := facts4 ((hb.block _ Hlt.out).trans hrb)
    clear hb
    cases hs : singleB 3 t.x with
    | false =>
      have HE2 : Hid (B = false) := by show _ = _; rw [HE.out, hs]; rfl
      clear HE hs
      go_wp2_with fail
      go_ret
      exact ⟨by rw [HE2.out]; rfl, below_next hba Hb.out⟩
    | true =>
      have HE2 : Hid (B = decide (t.v = gv0)) := by show _ = _; rw [HE.out, hs]; rfl
      clear HE hs
      go_wp2_with fail
      all_goals
        go_ret
        refine ⟨?_, below_next hba Hb.out⟩
        have hE := HE2.out
        clear HE2 Hb HR HV c0 c1 c2 c3 b0 b1 b2 b3 hwb hrb hba Hlt
        simp_all [gv_zero]
end Go.Proofs.YtgabkmibfhmkmaaGreatDoor

namespace Go.Proofs.YtgabkmibfhmkmaaGreatDoor
open Go.RowKit
set_option maxRecDepth 100000 in
set_option maxHeartbeats 1000000 in
theorem ev1T_any (x : GTold) (g : Nat) (w : World) (hg : w.cell? ⟨g, 0, none⟩ = some (.func (.func 219) #[] #[])) (HC : Hid (∀ W, Below w.heap.size w W → Calls Tryz.prog 219 #[.agg #[.string x.x, .int .i64 x.v.k, .int .i64 x.v.n, .string x.v.s]] W (RetBool (rightT x) W))) :
    Calls Tryz.prog 273 #[.agg #[.string x.x, .int .i64 x.v.k, .int .i64 x.v.n, .string x.v.s], .pointer (some ⟨g, 0, none⟩)] w (RetBool (!rightT x) w) := by
  have hrb : (w.alloc (.cells #[.string x.x, .int .i64 x.v.k, .int .i64 x.v.n, .string x.v.s] 30)).heap[w.heap.size]? = some (.cells #[.string x.x, .int .i64 x.v.k, .int .i64 x.v.n, .string x.v.s] 30 (0, 0)) := heapNew rfl
  obtain ⟨b0, b1, b2, b3⟩ := facts4 hrb
  have cg : (w.alloc (.cells #[.string x.x, .int .i64 x.v.k, .int .i64 x.v.n, .string x.v.s] 30)).cell? ⟨g, 0, none⟩ = some (.func (.func 219) #[] #[]) := cellA hg
  clear hrb hg
  generalize rightT x = B at *
  go_enter Tryz.func273, Tryz.ntmps273
  go_wp2_with fail
  refine (HC.out _ (by first | exact Below.refl _ _ | exact belowA (Below.refl _ _) _)).mono ?_
  rintro e w1 ⟨rfl, hb⟩
  have Hb := Lib.hid hb
  clear hb
  go_wp2_with fail
  go_ret
  exact ⟨rfl, below_next (belowA (Below.refl _ _) _) Hb.out⟩
set_option maxRecDepth 100000 in
set_option maxHeartbeats 1000000 in
theorem evIT_any (A : Option Addr) (n c : Nat) (l : List GTold) (g : Nat) (w : World) (hl : SliceIs Enc.told w w.heap.size A n c l) (hg : w.cell? ⟨g, 0, none⟩ = some (.func (.func 219) #[] #[]))
    (HC : Hid (∀ (x : GTold) W, (x.x.size ≤ reachN ∧ x.v.ok) → Below w.heap.size w W → Calls Tryz.prog 219 #[.agg #[.string x.x, .int .i64 x.v.k, .int .i64 x.v.n, .string x.v.s]] W (RetBool (rightT x) W))) :
    Calls Tryz.prog 323 #[.slice A n c, .func (.func 273) #[] #[.pointer (some ⟨g, 0, none⟩)]] w (fun e w' => ∃ k : Int, e = .returned (.int .i64 k) ∧ decide (0 ≤ k) = !(l.all rightT) ∧ Below w.heap.size w w') := by
  have hn := hl.bound
  have HL := Lib.hid hl
  have hlen := Lib.hid hl.1
  have Hg := Lib.hid hg
  clear hl hg
  go_enter Tryz.func323, Tryz.ntmps323
  go_wp2_with fail
  go_loopw [5, 8] (fun _ i wr => ∃ k : Nat, k ≤ n ∧ i = .int .i64 k ∧ Hid ((l.take k).all rightT = true) ∧ Below w.heap.size w wr) (fun _ i _ => n - (intOf i).toNat)
  case atStart => exact ⟨0, by omega, rfl, by simp [Hid], Below.refl _ _⟩
  case round =>
    obtain ⟨k, hk, rfl, hpre, hbr⟩ := hrel
    by_cases hlt : k < n
    · have HLr := (HL.out.below hbr)
      obtain ⟨b, o, x, rfl, hbb, hx, z0, z1, z2, z3, f0, f1⟩ := HLr.told_at hlt
      have hokx : x.x.size ≤ reachN ∧ x.v.ok := ⟨f0, f1⟩
      have C := Lib.hid (ev1T_any x g wr (below_cell hbr Hg.out) (fun W hW => HC.out x W (hokx) (below_next hbr hW)))
      have i0 : (0 : Int) ≤ (k : Int) := by omega
      have i1 : (k : Int) < (n : Int) := by omega
      have HT : Hid ((l.take (k + 1)).all rightT = rightT x) := by
        show _ = _
        obtain ⟨g1, g2⟩ := List.getElem?_eq_some_iff.1 hx.out
        rw [List.take_succ_eq_append_getElem g1, g2, List.all_append, hpre.out]; simp
      have HF : Hid (rightT x = false → l.all rightT = false) := fun h => by
        rw [List.all_eq_false]
        exact ⟨x, List.mem_of_getElem? hx.out, by simp [h]⟩
      clear HLr hokx
      generalize rightT x = B at *
      cases B with
      | true =>
        clear HF
        go_wp2_with fail
        refine C.out.mono ?_
        rintro e w1 ⟨rfl, hb⟩
        have Hb := Lib.hid hb
        clear hb
        go_wp2_with fail
        go_roundw
        case rel => exact ⟨k + 1, by omega, by go_num, HT, below_next hbr Hb.out⟩
        case measure => simp [intOf]; omega
      | false =>
        have HF' : Hid (l.all rightT = false) := HF.out rfl
        clear HF
        go_wp2_with fail
        refine C.out.mono ?_
        rintro e w1 ⟨rfl, hb⟩
        have Hb := Lib.hid hb
        clear hb
        go_wp2_with fail
        go_ret
        exact ⟨_, rfl, by rw [HF'.out]; simp, below_next hbr Hb.out⟩
    · have i1 : ¬ (k : Int) < (n : Int) := by omega
      have HA : Hid (l.all rightT = true) := by
        show _ = _
        have h := hpre.out
        rw [List.take_of_length_le (by have := hlen.out; omega)] at h
        exact h
      go_wp2_with fail
      go_ret
      exact ⟨_, rfl, by rw [HA.out]; rfl, hbr⟩
set_option maxRecDepth 100000 in
set_option maxHeartbeats 1000000 in
theorem everyT_any (A : Option Addr) (n c : Nat) (l : List GTold) (w : World) (hl : SliceIs Enc.told w w.heap.size A n c l)
    (HC : Hid (∀ (x : GTold) W, (x.x.size ≤ reachN ∧ x.v.ok) → Below w.heap.size w W → Calls Tryz.prog 219 #[.agg #[.string x.x, .int .i64 x.v.k, .int .i64 x.v.n, .string x.v.s]] W (RetBool (rightT x) W))) :
    Calls Tryz.prog 218 #[.slice A n c, .func (.func 219) #[] #[]] w (RetBool (l.all rightT) w) := by
  have hba : Below w.heap.size w (w.alloc (.cells #[.func (.func 219) #[] #[]] 303)) := belowA (Below.refl _ _) _
  have C := Lib.hid (evIT_any A n c l w.heap.size (w.alloc (.cells #[.func (.func 219) #[] #[]] 303)) (hl.keep hba) ((cell_of_row _ _ 0 _ _ _ (heapNew rfl)).trans rfl) (fun x W h hW => HC.out x W h (below_next hba hW)))
  generalize l.all rightT = B at *
  clear hl HC
  have CC : Hid (Calls Tryz.prog 272 #[.slice A n c, .func (.func 273) #[] #[.pointer (some ⟨w.heap.size, 0, none⟩)]] (w.alloc (.cells #[.func (.func 219) #[] #[]] 303)) (RetBool (!B) (w.alloc (.cells #[.func (.func 219) #[] #[]] 303)))) := by
    show Calls _ _ _ _ _
    generalize w.alloc (.cells #[.func (.func 219) #[] #[]] 303) = wb at *
    go_enter Tryz.func272, Tryz.ntmps272
    go_wp2_with fail
    refine C.out.mono ?_
    rintro e w1 ⟨k, rfl, hk, hb⟩
    have Hb := Lib.hid hb
    have Hk := Lib.hid hk
    clear hb hk
    go_wp2_with fail
    go_ret
    exact ⟨by rw [← Hk.out]; rfl, Hb.out⟩
  clear C
  go_enter Tryz.func218, Tryz.ntmps218
  go_wp2_with fail
  refine CC.out.mono ?_
  rintro e w1 ⟨rfl, hb⟩
  have Hb := Lib.hid hb
  clear hb CC
  go_wp2_with fail
  go_ret
  exact ⟨by cases B <;> rfl, below_next hba Hb.out⟩
end Go.Proofs.YtgabkmibfhmkmaaGreatDoor

namespace Go.Proofs.YtgabkmibfhmkmaaGreatDoor
open Go.RowKit
mutual
def szE : GExp → Int → Int
  | .mk _ t ks, left => szL ks (left - (1 + (((t.x.size + t.v.s.size) / 50 : Nat) : Int)))
def szL : List GExp → Int → Int
  | [], l => l
  | k :: ks, l => if l < 0 then -1 else szL ks (szE k l)
end
theorem szE_def (e : GExp) (l : Int) : szE e l = szL e.kids (l - (1 + (((e.t.x.size + e.t.v.s.size) / 50 : Nat) : Int))) := by
  cases e; rw [szE]; rfl
mutual
theorem szE_le : ∀ (e : GExp) (l : Int), 0 ≤ l → szE e l ≤ l
  | .mk _ t ks, l, h => by
    rw [szE]
    have := szL_le ks (l - (1 + (((t.x.size + t.v.s.size) / 50 : Nat) : Int)))
    omega
theorem szL_le : ∀ (ks : List GExp) (l : Int), szL ks l ≤ max l (-1)
  | [], l => by rw [szL]; omega
  | k :: ks, l => by
    rw [szL]
    split
    · omega
    · have h1 := szE_le k l (by omega)
      have h2 := szL_le ks (szE k l)
      omega
end
abbrev expV (e : GExp) (A : Option Addr) (n c : Nat) : Value := .agg #[.int .i64 e.op, .string e.t.x, .int .i64 e.t.v.k, .int .i64 e.t.v.n, .string e.t.v.s, .slice A n c]
set_option maxRecDepth 100000 in
set_option maxHeartbeats 2000000 in
theorem exp_any : ∀ (d : Nat) (e : GExp) (A : Option Addr) (n c : Nat) (left : Int) (w : World), SliceIs (Enc.exp d) w w.heap.size A n c e.kids → e.t.x.size ≤ reachN → e.t.v.s.size ≤ reachN → -1000000000000000 ≤ left → left ≤ 100000 →
    Calls Tryz.prog 94 #[expV e A n c, .int .i64 left] w (RetInt (szE e left) w) := by
  intro d
  induction d using Nat.strongRecOn with
  | ind d ih =>
    intro e A n c left w hk hx hs h0 h1
    have IH := Lib.hid ih
    have hn := hk.bound
    have HK := Lib.hid hk
    have Hlen := Lib.hid hk.1
    obtain ⟨R, HR⟩ : ∃ R, Hid (R = szE e left) := ⟨_, rfl⟩
    rw [← HR.out]
    have hx' : e.t.x.size ≤ 140737488351232 := hx
    have hs' : e.t.v.s.size ≤ 140737488351232 := hs
    obtain ⟨c0, hc0, hc1⟩ : ∃ c0 : Nat, ((e.t.x.size : Int) + (e.t.v.s.size : Int)).tdiv 50 = (c0 : Int) ∧ c0 = (e.t.x.size + e.t.v.s.size) / 50 := ⟨(e.t.x.size + e.t.v.s.size) / 50, by rw [Int.tdiv_eq_ediv_of_nonneg (by omega)]; omega, rfl⟩
    have HR2 : Hid (R = szL (e.kids.drop 0) (left - (1 + (c0 : Int)))) := by
      show _ = _
      rw [HR.out, szE_def, hc1]; rfl
    have hc2 : c0 ≤ 281474976710656 := by omega
    have hrb : (w.alloc (.cells #[.int .i64 e.op, .string e.t.x, .int .i64 e.t.v.k, .int .i64 e.t.v.n, .string e.t.v.s, .slice A n c] 33)).heap[w.heap.size]? = some (.cells #[.int .i64 e.op, .string e.t.x, .int .i64 e.t.v.k, .int .i64 e.t.v.n, .string e.t.v.s, .slice A n c] 33 (0, 0)) := heapNew rfl
    have b1 : (w.alloc (.cells #[.int .i64 e.op, .string e.t.x, .int .i64 e.t.v.k, .int .i64 e.t.v.n, .string e.t.v.s, .slice A n c] 33)).cell? ⟨w.heap.size, 1, none⟩ = some (.string e.t.x) := (cell_of_row _ _ 1 _ _ _ hrb).trans rfl
    have b4 : (w.alloc (.cells #[.int .i64 e.op, .string e.t.x, .int .i64 e.t.v.k, .int .i64 e.t.v.n, .string e.t.v.s, .slice A n c] 33)).cell? ⟨w.heap.size, 4, none⟩ = some (.string e.t.v.s) := (cell_of_row _ _ 4 _ _ _ hrb).trans rfl
    have b5 : (w.alloc (.cells #[.int .i64 e.op, .string e.t.x, .int .i64 e.t.v.k, .int .i64 e.t.v.n, .string e.t.v.s, .slice A n c] 33)).cell? ⟨w.heap.size, 5, none⟩ = some (.slice A n c) := (cell_of_row _ _ 5 _ _ _ hrb).trans rfl
    have hb0 : Below w.heap.size w (w.alloc (.cells #[.int .i64 e.op, .string e.t.x, .int .i64 e.t.v.k, .int .i64 e.t.v.n, .string e.t.v.s, .slice A n c] 33)) := belowA (Below.refl _ _) _
    clear ih hk hrb hc1 HR
    go_enter Tryz.func94, Tryz.ntmps94
    go_wp2_with fail
    go_loopw [1, 6, 24] (fun lv _ i wr => ∃ (j : Nat) (l : Int), j ≤ n ∧ i = .int .i64 j ∧ lv = .int .i64 l ∧ l ≤ 100000 ∧ Hid (R = szL (e.kids.drop j) l) ∧ Below w.heap.size w wr) (fun _ _ i _ => n - (intOf i).toNat)
    case atStart => exact ⟨0, left - (1 + (c0 : Int)), by omega, rfl, by go_num, by omega, HR2, hb0⟩
    case round =>
      obtain ⟨j, l, hj, rfl, rfl, hl, HRj, hbr⟩ := hrel
      have i0 : (0 : Int) ≤ (j : Int) := by omega
      by_cases hlt : j < n
      · have i1 : (j : Int) < (n : Int) := by omega
        obtain ⟨b, o, k, A', n', c', d', rfl, hb, hk', hd, x0, x1, x2, x3, x4, x5, -, f1, f2, hkk⟩ := (HK.out.below hbr).exp_at hlt
        have HRk : Hid (R = if l < 0 then -1 else szL (e.kids.drop (j + 1)) (szE k l)) := by
          show _ = _
          rw [HRj.out]
          obtain ⟨g1, g2⟩ := List.getElem?_eq_some_iff.1 hk'.out
          rw [List.drop_eq_getElem_cons g1, g2, szL]
        by_cases hneg : l < 0
        · have HR1 : Hid (R = -1) := by show _ = _; rw [HRk.out, if_pos hneg]
          clear HRk HRj hk' hd
          go_wp2_with fail
          go_ret
          exact ⟨by rw [HR1.out]; rfl, belowA hbr _⟩
        · have HR1 : Hid (R = szL (e.kids.drop (j + 1)) (szE k l)) := by show _ = _; rw [HRk.out, if_neg hneg]
          have hle := szE_le k l (by omega)
          have hba : Below w.heap.size w (wr.alloc (.cells #[.int .i64 k.op, .string k.t.x, .int .i64 k.t.v.k, .int .i64 k.t.v.n, .string k.t.v.s, .slice A' n' c'] 33)) := belowA hbr _
          have HC := Lib.hid (IH.out d' (by omega) k A' n' c' l (wr.alloc (.cells #[.int .i64 k.op, .string k.t.x, .int .i64 k.t.v.k, .int .i64 k.t.v.n, .string k.t.v.s, .slice A' n' c'] 33)) (hkk.mono hba.size (fun bb hbb => (belowA (Below.refl _ _) _).block bb (by have := hbr.size; omega))) f1 f2.2.2 (by omega) hl)
          generalize szE k l = lk at *
          clear HRk HRj hk' hd
          go_wp2_with fail
          refine HC.out.mono ?_
          rintro e2 w2 ⟨rfl, hb2⟩
          go_wp2_with fail
          go_roundw
          case rel => exact ⟨j + 1, lk, by omega, by go_num, rfl, by omega, HR1, below_next hba hb2⟩
          case measure => simp [intOf]; omega
      · have i1 : ¬ (j : Int) < (n : Int) := by omega
        have HR1 : Hid (R = l) := by
          show _ = _
          rw [HRj.out, List.drop_eq_nil_of_le (by rw [Hlen.out]; omega), szL]
        clear HRj
        go_wp2_with fail
        go_ret
        exact ⟨by rw [HR1.out]; rfl, hbr⟩
end Go.Proofs.YtgabkmibfhmkmaaGreatDoor
