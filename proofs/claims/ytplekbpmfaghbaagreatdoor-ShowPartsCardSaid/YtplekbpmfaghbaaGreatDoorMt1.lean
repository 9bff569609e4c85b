/- Merged by my own program of: RefAll, TVar, TRight, ShowE, TEvT, TDeep, ShowX, SFrame, ShowA, ShowRX, ShowRA. -/
import Derived.Test.YtplekbpmfaghbaaGreatDoorLexR2
import Derived.Deep.RegionHeld3
import Derived.Test.YtplekbpmfaghbaaGreatDoorTok
import Derived.Test.YtplekbpmfaghbaaGreatDoorPgm
import Derived.Test.YtplekbpmfaghbaaGreatDoorName
import Derived.Test.YtplekbpmfaghbaaGreatDoorVParse
import Derived.Test.YtplekbpmfaghbaaGreatDoorShowStr
import Derived.Test.YtplekbpmfaghbaaGreatDoorTwoJ
import Derived.Test.YtplekbpmfaghbaaGreatDoorExpSize
import Derived.Test.YtplekbpmfaghbaaGreatDoorTFrame
import Derived.Test.YtplekbpmfaghbaaGreatDoorDrawn
/- corollaryref04.All: the document's tokens of any text. -/
namespace Go.Proofs.YtplekbpmfaghbaaGreatDoor
open Go.RowKit

def RefAllPost (s : ByteArray) (w : World) (e : Ending) (w' : World) : Prop := Below w.heap.size w w' ∧
  ((4000 < s.size ∧ e = .returned (.tuple #[.slice none 0 0, .int .i64 4000, .int .i64 3])) ∨
   (s.size ≤ 4000 ∧ ((∃ p : Nat, (lexS s.toList).2 = some p ∧ e = .returned (.tuple #[.slice none 0 0, .int .i64 p, .int .i64 2])) ∨
    ((lexS s.toList).2 = none ∧ ∃ A c, e = .returned (.tuple #[.slice A (lexS s.toList).1.length c, .int .i64 0, .int .i64 0]) ∧ SliceIs Enc.tok w' w'.heap.size A (lexS s.toList).1.length c (lexS s.toList).1))))
set_option maxRecDepth 100000 in
set_option maxHeartbeats 1000000 in
theorem refAll_any (s : ByteArray) (w : World) : Calls Tryz.prog 44 #[.string s] w (RefAllPost s w) := by
  obtain ⟨P, HP⟩ : ∃ P : Ending → World → Prop, Hid (P = RefAllPost s w) := ⟨_, rfl⟩
  rw [← HP.out]
  by_cases h4 : 4000 < s.size
  · have z0 : (4000 : Int) < (s.size : Int) := by omega
    have HE : Hid (∀ w', Below w.heap.size w w' → P (.returned (.tuple #[.slice none 0 0, .int .i64 4000, .int .i64 3])) w') := fun w' hb => by rw [HP.out]; exact ⟨hb, .inl ⟨h4, rfl⟩⟩
    clear h4 HP
    go_enter Tryz.func44, Tryz.ntmps44
    go_wp2_with fail
    exact bodyPost_ret (v := .tuple #[.slice none 0 0, .int .i64 4000, .int .i64 3]) (by simp [results, Tryz.results44, go_sem]) rfl (HE.out _ (Below.refl _ _))
  have HL := Lib.hid (refList_any s (by omega))
  have z0 : ¬ (4000 : Int) < (s.size : Int) := by omega
  have HE1 : Hid (∀ w' (p : Nat), Below w.heap.size w w' → (lexS s.toList).2 = some p → P (.returned (.tuple #[.slice none 0 0, .int .i64 p, .int .i64 2])) w') := fun w' p hb hp => by rw [HP.out]; exact ⟨hb, .inr ⟨by omega, .inl ⟨p, hp, rfl⟩⟩⟩
  have HE2 : Hid (∀ w' A c, Below w.heap.size w w' → (lexS s.toList).2 = none → SliceIs Enc.tok w' w'.heap.size A (lexS s.toList).1.length c (lexS s.toList).1 → P (.returned (.tuple #[.slice A (lexS s.toList).1.length c, .int .i64 0, .int .i64 0])) w') := fun w' A c hb hp hA => by rw [HP.out]; exact ⟨hb, .inr ⟨by omega, .inr ⟨hp, A, c, rfl, hA⟩⟩⟩
  clear HP
  go_enter Tryz.func44, Tryz.ntmps44
  go_wp2_with fail
  refine (HL.out w).mono ?_
  rintro e w1 ⟨hb, A, c, hA, -, ⟨hn, rfl⟩ | ⟨p, hp, rfl⟩⟩
  · have HA := Lib.hid hA
    have Hn := Lib.hid hn
    clear hA hn
    go_wp2_with fail
    exact bodyPost_ret (v := .tuple #[.slice A (lexS s.toList).1.length c, .int .i64 0, .int .i64 0]) (by simp [results, Tryz.results44, go_sem]) rfl (HE2.out _ A c hb Hn.out HA.out)
  · have Hn := Lib.hid hp
    have p0 : (0 : Int) ≤ (p : Int) := by omega
    clear hA hp
    go_wp2_with fail
    exact bodyPost_ret (v := .tuple #[.slice none 0 0, .int .i64 p, .int .i64 2]) (by simp [results, Tryz.results44, go_sem]) rfl (HE1.out _ p hb Hn.out)

end Go.Proofs.YtplekbpmfaghbaaGreatDoor

/- term.Variable, term.named; the document's single, Variable, Named. -/
namespace Go.Proofs.YtplekbpmfaghbaaGreatDoor
open Go.RowKit

/-- a text is one token of a kind -/
def singleB (k : Int) (s : ByteArray) : Bool := decide (s.size ≤ 4000) && (match lexS s.toList with | ([q], none) => decide (q.k = k) && decide (q.t = s.toList) | _ => false)
theorem single_long {k : Int} {s : ByteArray} (h : 4000 < s.size) : singleB k s = false := by
  have : ¬ s.size ≤ 4000 := by omega
  simp [singleB, this]
theorem single_bad {k : Int} {s : ByteArray} {p : Nat} (h : (lexS s.toList).2 = some p) : singleB k s = false := by
  unfold singleB
  rcases hx : lexS s.toList with ⟨a, b⟩
  rw [hx] at h
  obtain rfl : b = some p := h
  simp
theorem single_many {k : Int} {s : ByteArray} (h : (lexS s.toList).1.length ≠ 1) : singleB k s = false := by
  unfold singleB
  rcases hx : lexS s.toList with ⟨a, b⟩
  rw [hx] at h
  match a, h with
  | [], _ => simp
  | [q], h => exact absurd rfl h
  | q :: r :: l, _ => simp
theorem single_one {k : Int} {s : ByteArray} {q : GTok} (h4 : s.size ≤ 4000) (h : (lexS s.toList).1 = [q]) (hn : (lexS s.toList).2 = none) : singleB k s = (decide (q.k = k) && decide (q.t = s.toList)) := by
  unfold singleB
  rcases hx : lexS s.toList with ⟨a, b⟩
  rw [hx] at h hn
  obtain rfl : a = [q] := h
  obtain rfl : b = none := hn
  simp [h4]
theorem single_at {s : ByteArray} {q : GTok} (h : (lexS s.toList).1 = [q]) (ht : q.t = s.toList) : q.a = 0 := by
  have h1 := lex_places (wk := wordK) s.toList.length 0 s.toList (Nat.le_refl _) q (by show q ∈ (lexS s.toList).1; rw [h]; simp)
  have h2 := h1.2.1
  rw [ht] at h2
  omega
theorem run_eql_tok (x : GTok) (k : Int) (s : ByteArray) (w : World) : (binOp .eql 242 (.agg #[.int .i64 x.k, .string (bytes x.t), .int .i64 x.a]) (.agg #[.int .i64 k, .string s, .int .i64 0])).run Tryz.prog w = .ok (.bool (decide (x.k = k) && (decide (x.t = s.toList) && decide (x.a = 0)))) w := by
  have h := run_eql_token x ⟨k, s.toList, 0⟩ w
  unfold tokC tokEq at h
  rw [show bytes s.toList = s from bytes_back s] at h
  exact h
theorem one_of {l : List GTok} (h : l.length = 1) : ∃ q, l = [q] := by
  match l, h with
  | [q], _ => exact ⟨q, rfl⟩

set_option maxRecDepth 100000 in
set_option maxHeartbeats 1000000 in
theorem variable_any (s : ByteArray) (hs : s.size ≤ 140737488351232) (w : World) (hW : LexW w) : Calls Tryz.prog 176 #[.string s] w (RetBool (singleB 3 s) w) := by
  have HL := Lib.hid (list_any s hs w hW)
  obtain ⟨B, HB⟩ : ∃ B, Hid (B = singleB 3 s) := ⟨_, rfl⟩
  rw [← HB.out]
  clear hW
  go_enter Tryz.func176, Tryz.ntmps176
  go_wp2_with fail
  refine HL.out.mono ?_
  rintro e w1 ⟨hb, ⟨h4, rfl⟩ | ⟨h4, ⟨p, hp, rfl⟩ | ⟨hn, A, c, rfl, hA⟩⟩⟩
  · have HE : Hid (B = false) := by show _ = _; rw [HB.out]; exact single_long h4
    have Hb := Lib.hid hb
    clear h4 hb HB
    go_wp2_with fail
    go_ret
    exact ⟨by rw [HE.out]; rfl, Hb.out⟩
  · have HE : Hid (B = false) := by show _ = _; rw [HB.out]; exact single_bad hp
    have Hb := Lib.hid hb
    clear h4 hb HB hp
    go_wp2_with fail
    go_ret
    exact ⟨by rw [HE.out]; rfl, Hb.out⟩
  · by_cases h1 : (lexS s.toList).1.length = 1
    · obtain ⟨q, hq⟩ := one_of h1
      have HE : Hid (B = (decide (q.k = 3) && decide (q.t = s.toList))) := by show _ = _; rw [HB.out]; exact single_one h4 hq hn
      have HZ := Lib.hid (single_at hq)
      rw [hq] at hA
      obtain ⟨b, o, x, rfl, hbB, hx, x0, x1, x2, f0, f1, f2⟩ := hA.tok_at (i := 0) (by simp)
      obtain rfl : x = q := by have := hx.out; simp at this; exact this.symm
      have Hb := Lib.hid hb
      rw [h1]
      simp only [Nat.zero_mul, Nat.add_zero] at x0 x1 x2
      clear h4 hb HB h1 hq hn hA hx f0 f1 f2
      go_wp2_with fail
      all_goals
        go_ret
        refine ⟨?_, Hb.out⟩
        have e1 : (bytes x.t).toList = x.t := toList_mk _
        have hE := HE.out
        have hz := HZ.out
        clear HL HE HZ Hb x0 x1 x2
        simp_all
    · have HE : Hid (B = false) := by show _ = _; rw [HB.out]; exact single_many h1
      have Hb := Lib.hid hb
      have q0 : ((((lexS s.toList).1.length : Nat) : Int) == 1) = false := by simp; omega
      clear h4 hb HB h1 hn hA
      go_wp2_with fail
      go_ret
      exact ⟨by rw [HE.out]; rfl, Hb.out⟩

set_option maxRecDepth 100000 in
set_option maxHeartbeats 1000000 in
theorem named_any (s : ByteArray) (hs : s.size ≤ 140737488351232) (w : World) (hW : LexW w) : Calls Tryz.prog 141 #[.string s] w (RetBool (singleB 2 s) w) := by
  have HL := Lib.hid (list_any s hs w hW)
  obtain ⟨B, HB⟩ : ∃ B, Hid (B = singleB 2 s) := ⟨_, rfl⟩
  rw [← HB.out]
  clear hW
  go_enter Tryz.func141, Tryz.ntmps141
  go_wp2_with fail
  refine HL.out.mono ?_
  rintro e w1 ⟨hb, ⟨h4, rfl⟩ | ⟨h4, ⟨p, hp, rfl⟩ | ⟨hn, A, c, rfl, hA⟩⟩⟩
  · have HE : Hid (B = false) := by show _ = _; rw [HB.out]; exact single_long h4
    have Hb := Lib.hid hb
    clear h4 hb HB
    go_wp2_with fail
    go_ret
    exact ⟨by rw [HE.out]; rfl, Hb.out⟩
  · have HE : Hid (B = false) := by show _ = _; rw [HB.out]; exact single_bad hp
    have Hb := Lib.hid hb
    clear h4 hb HB hp
    go_wp2_with fail
    go_ret
    exact ⟨by rw [HE.out]; rfl, Hb.out⟩
  · by_cases h1 : (lexS s.toList).1.length = 1
    · obtain ⟨q, hq⟩ := one_of h1
      have HE : Hid (B = (decide (q.k = 2) && decide (q.t = s.toList))) := by show _ = _; rw [HB.out]; exact single_one h4 hq hn
      have HZ := Lib.hid (single_at hq)
      rw [hq] at hA
      obtain ⟨b, o, x, rfl, hbB, hx, x0, x1, x2, f0, f1, f2⟩ := hA.tok_at (i := 0) (by simp)
      obtain rfl : x = q := by have := hx.out; simp at this; exact this.symm
      have Hb := Lib.hid hb
      rw [h1]
      simp only [Nat.zero_mul, Nat.add_zero] at x0 x1 x2
      clear h4 hb HB h1 hq hn hA hx f0 f1 f2
      go_wp2_with fail
      all_goals
        go_ret
        refine ⟨?_, Hb.out⟩
        have e1 : (bytes x.t).toList = x.t := toList_mk _
        have hE := HE.out
        have hz := HZ.out
        clear HL HE HZ Hb x0 x1 x2
        simp_all
    · have HE : Hid (B = false) := by show _ = _; rw [HB.out]; exact single_many h1
      have Hb := Lib.hid hb
      have q0 : ((((lexS s.toList).1.length : Nat) : Int) == 1) = false := by simp; omega
      clear h4 hb HB h1 hn hA
      go_wp2_with fail
      go_ret
      exact ⟨by rw [HE.out]; rfl, Hb.out⟩

set_option maxRecDepth 100000 in
set_option maxHeartbeats 1000000 in
theorem refSingle_any (s : ByteArray) (k : Int) (w : World) : Calls Tryz.prog 120 #[.string s, .int .i64 k] w (RetBool (singleB k s) w) := by
  have HL := Lib.hid (refAll_any s w)
  obtain ⟨B, HB⟩ : ∃ B, Hid (B = singleB k s) := ⟨_, rfl⟩
  rw [← HB.out]
  go_enter Tryz.func120, Tryz.ntmps120
  go_wp2_with fail
  refine HL.out.mono ?_
  rintro e w1 ⟨hb, ⟨h4, rfl⟩ | ⟨h4, ⟨p, hp, rfl⟩ | ⟨hn, A, c, rfl, hA⟩⟩⟩
  · have HE : Hid (B = false) := by show _ = _; rw [HB.out]; exact single_long h4
    have Hb := Lib.hid hb
    clear h4 hb HB
    go_wp2_with fail
    go_ret
    exact ⟨by rw [HE.out]; rfl, Hb.out⟩
  · have HE : Hid (B = false) := by show _ = _; rw [HB.out]; exact single_bad hp
    have Hb := Lib.hid hb
    clear h4 hb HB hp
    go_wp2_with fail
    go_ret
    exact ⟨by rw [HE.out]; rfl, Hb.out⟩
  · by_cases h1 : (lexS s.toList).1.length = 1
    · obtain ⟨q, hq⟩ := one_of h1
      have HE : Hid (B = (decide (q.k = k) && decide (q.t = s.toList))) := by show _ = _; rw [HB.out]; exact single_one h4 hq hn
      rw [hq] at hA
      obtain ⟨b, o, x, rfl, hbB, hx, x0, x1, x2, f0, f1, f2⟩ := hA.tok_at (i := 0) (by simp)
      obtain rfl : x = q := by have := hx.out; simp at this; exact this.symm
      have Hb := Lib.hid hb
      rw [h1]
      simp only [Nat.zero_mul, Nat.add_zero] at x0 x1 x2
      have e1 : (bytes x.t).toList = x.t := toList_mk _
      clear h4 hb HB h1 hq hn hA hx f0 f1 f2
      by_cases hk : x.k = k
      · have k0 : (x.k == k) = true := by simp [hk]
        by_cases ht : x.t = s.toList
        · have t0 : (x.t == s.toList) = true := by simp [ht]
          have HE3 : Hid (B = true) := by show _ = _; rw [HE.out]; simp [hk, ht]
          clear hk ht HE
          go_wp2_with fail
          go_ret
          exact ⟨by rw [HE3.out]; rfl, Hb.out⟩
        · have t0 : (x.t == s.toList) = false := by simp [ht]
          have HE3 : Hid (B = false) := by show _ = _; rw [HE.out]; simp [ht]
          clear hk ht HE
          go_wp2_with fail
          go_ret
          exact ⟨by rw [HE3.out]; rfl, Hb.out⟩
      · have k0 : (x.k == k) = false := by simp [hk]
        have HE3 : Hid (B = false) := by show _ = _; rw [HE.out]; simp [hk]
        clear hk HE
        go_wp2_with fail
        go_ret
        exact ⟨by rw [HE3.out]; rfl, Hb.out⟩
    · have HE : Hid (B = false) := by show _ = _; rw [HB.out]; exact single_many h1
      have Hb := Lib.hid hb
      have q0 : ((((lexS s.toList).1.length : Nat) : Int) == 1) = false := by simp; omega
      clear h4 hb HB h1 hn hA
      go_wp2_with fail
      go_ret
      exact ⟨by rw [HE.out]; rfl, Hb.out⟩

set_option maxRecDepth 100000 in
theorem refVariable_any (s : ByteArray) (w : World) : Calls Tryz.prog 154 #[.string s] w (RetBool (singleB 3 s) w) := by
  have HL := Lib.hid (refSingle_any s 3 w)
  go_enter Tryz.func154, Tryz.ntmps154
  go_wp2_with fail
  refine HL.out.mono ?_
  rintro e w1 ⟨rfl, hb⟩
  go_wp2_with fail
  go_ret
  exact ⟨rfl, hb⟩
set_option maxRecDepth 100000 in
theorem refNamed_any (s : ByteArray) (w : World) : Calls Tryz.prog 80 #[.string s] w (RetBool (singleB 2 s) w) := by
  have HL := Lib.hid (refSingle_any s 2 w)
  go_enter Tryz.func80, Tryz.ntmps80
  go_wp2_with fail
  refine HL.out.mono ?_
  rintro e w1 ⟨rfl, hb⟩
  go_wp2_with fail
  go_ret
  exact ⟨rfl, hb⟩
end Go.Proofs.YtplekbpmfaghbaaGreatDoor

/- Term.right; the document's RightTerm. -/
namespace Go.Proofs.YtplekbpmfaghbaaGreatDoor
open Go.RowKit

theorem str_empty {s : ByteArray} : s.toList = [] ↔ s.size = 0 := by
  rw [← ba_len]; simp
def rightT (t : GTold) : Bool := if t.x.size = 0 then rightB t.v else singleB 3 t.x && decide (t.v = gv0)
abbrev toldV (t : GTold) : Value := .agg #[.string t.x, .int .i64 t.v.k, .int .i64 t.v.n, .string t.v.s]
theorem gv_zero {v : GV} : v = gv0 ↔ v.k = 0 ∧ v.n = 0 ∧ v.s.toList = [] := by
  cases v
  simp [gv0, ← toList_inj, show (⟨#[]⟩ : ByteArray).toList = [] from by rw [ByteArray.toList_eq]]

set_option maxRecDepth 100000 in
set_option maxHeartbeats 1000000 in
theorem tright_any (t : GTold) (hx : t.x.size ≤ reachN) (w : World) (hW : LexW w) : Calls Tryz.prog 149 #[toldV t] w (RetBool (rightT t) w) := by
  obtain ⟨B, HB⟩ : ∃ B, Hid (B = rightT t) := ⟨_, rfl⟩
  rw [← HB.out]
  have hrb : (w.alloc (.cells #[.string t.x, .int .i64 t.v.k, .int .i64 t.v.n, .string t.v.s] 33)).heap[w.heap.size]? = some (.cells #[.string t.x, .int .i64 t.v.k, .int .i64 t.v.n, .string t.v.s] 33 (0, 0)) := heapNew rfl
  have hba : Below w.heap.size w (w.alloc (.cells #[.string t.x, .int .i64 t.v.k, .int .i64 t.v.n, .string t.v.s] 33)) := belowA (Below.refl _ _) _
  have HR := Lib.hid (fun W => right_any t.v W)
  have HV := Lib.hid (variable_any t.x hx _ (hW.on hba))
  clear hW
  generalize hwb : w.alloc (.cells #[.string t.x, .int .i64 t.v.k, .int .i64 t.v.n, .string t.v.s] 33) = wb at *
  obtain ⟨b0, b1, b2, b3⟩ := facts4 hrb
  have Hlt := Lib.hid (Array.getElem?_eq_some_iff.1 hrb).1
  by_cases h0 : t.x.size = 0
  · have e0 : (t.x.toList == ([] : List UInt8)) = true := by simp [str_empty.2 h0]
    have e1 : t.x.toList.isEmpty = true := by simp [str_empty.2 h0]
    have HE : Hid (B = rightB t.v) := by show _ = _; rw [HB.out]; simp [rightT, h0]
    clear h0 HB
    go_enter Tryz.func149, Tryz.ntmps149
    go_wp2_with fail
    try simp only [hwb]
    go_wp2_with fail
    refine (HR.out _).mono ?_
    rintro e w1 ⟨rfl, hb⟩
    have Hb := Lib.hid hb
    clear hb
    go_wp2_with fail
    go_ret
    exact ⟨by rw [HE.out]; rfl, below_next hba Hb.out⟩
  · have e0 : (t.x.toList == ([] : List UInt8)) = false := by simp [str_empty, h0]
    have e1 : t.x.toList.isEmpty = false := by simp [str_empty, h0]
    have HE : Hid (B = (singleB 3 t.x && decide (t.v = gv0))) := by show _ = _; rw [HB.out]; simp [rightT, h0]
    clear h0 HB
    go_enter Tryz.func149, Tryz.ntmps149
    go_wp2_with fail
    try simp only [hwb]
    go_wp2_with fail
    refine HV.out.mono ?_
    rintro e w1 ⟨rfl, hb⟩
    have Hb := Lib.hid hb
    obtain ⟨c0, c1, c2, c3⟩ := facts4 ((hb.block _ Hlt.out).trans hrb)
    clear hb
    cases hs : singleB 3 t.x with
    | false =>
      have HE2 : Hid (B = false) := by show _ = _; rw [HE.out, hs]; rfl
      clear HE hs
      go_wp2_with fail
      go_ret
      exact ⟨by rw [HE2.out]; rfl, below_next hba Hb.out⟩
    | true =>
      have HE2 : Hid (B = decide (t.v = gv0)) := by show _ = _; rw [HE.out, hs]; rfl
      clear HE hs
      go_wp2_with fail
      all_goals
        go_ret
        refine ⟨?_, below_next hba Hb.out⟩
        have hE := HE2.out
        clear HE2 Hb HR HV c0 c1 c2 c3 b0 b1 b2 b3 hwb hrb hba Hlt
        simp_all [gv_zero]
set_option maxRecDepth 100000 in
set_option maxHeartbeats 1000000 in
theorem refTright_any (t : GTold) (hv : t.v.ok) (w : World) : Calls Tryz.prog 118 #[toldV t] w (RetBool (rightT t) w) := by
  obtain ⟨B, HB⟩ : ∃ B, Hid (B = rightT t) := ⟨_, rfl⟩
  rw [← HB.out]
  have hrb : (w.alloc (.cells #[.string t.x, .int .i64 t.v.k, .int .i64 t.v.n, .string t.v.s] 48)).heap[w.heap.size]? = some (.cells #[.string t.x, .int .i64 t.v.k, .int .i64 t.v.n, .string t.v.s] 48 (0, 0)) := heapNew rfl
  have hba : Below w.heap.size w (w.alloc (.cells #[.string t.x, .int .i64 t.v.k, .int .i64 t.v.n, .string t.v.s] 48)) := belowA (Below.refl _ _) _
  have HR := Lib.hid (fun W => refRight_any t.v hv W)
  have HV := Lib.hid (fun W => refVariable_any t.x W)
  generalize hwb : w.alloc (.cells #[.string t.x, .int .i64 t.v.k, .int .i64 t.v.n, .string t.v.s] 48) = wb at *
  obtain ⟨b0, b1, b2, b3⟩ := facts4 hrb
  have Hlt := Lib.hid (Array.getElem?_eq_some_iff.1 hrb).1
  by_cases h0 : t.x.size = 0
  · have e0 : ((t.x.size : Int) == 0) = true := by simp [h0]
    have HE : Hid (B = rightB t.v) := by show _ = _; rw [HB.out]; simp [rightT, h0]
    clear h0 HB
    go_enter Tryz.func118, Tryz.ntmps118
    go_wp2_with fail
    try simp only [hwb]
    go_wp2_with fail
    refine (HR.out _).mono ?_
    rintro e w1 ⟨rfl, hb⟩
    have Hb := Lib.hid hb
    clear hb
    go_wp2_with fail
    go_ret
    exact ⟨by rw [HE.out]; rfl, below_next hba Hb.out⟩
  · have e0 : ((t.x.size : Int) == 0) = false := by rw [beq_eq_false_iff_ne]; omega
    have HE : Hid (B = (singleB 3 t.x && decide (t.v = gv0))) := by show _ = _; rw [HB.out]; simp [rightT, h0]
    clear h0 HB
    go_enter Tryz.func118, Tryz.ntmps118
    go_wp2_with fail
    try simp only [hwb]
    go_wp2_with fail
    refine (HV.out _).mono ?_
    rintro e w1 ⟨rfl, hb⟩
    have Hb := Lib.hid hb
    obtain ⟨c0, c1, c2, c3⟩ := facts4 ((hb.block _ Hlt.out).trans hrb)
    clear hb
    cases hs : singleB 3 t.x with
    | false =>
      have HE2 : Hid (B = false) := by show _ = _; rw [HE.out, hs]; rfl
      clear HE hs
      go_wp2_with fail
      go_ret
      exact ⟨by rw [HE2.out]; rfl, below_next hba Hb.out⟩
    | true =>
      have HE2 : Hid (B = decide (t.v = gv0)) := by show _ = _; rw [HE.out, hs]; rfl
      clear HE hs
      go_wp2_with fail
      all_goals
        go_ret
        refine ⟨?_, below_next hba Hb.out⟩
        have hE := HE2.out
        clear HE2 Hb HR HV c0 c1 c2 c3 b0 b1 b2 b3 hwb hrb hba Hlt
        simp_all [gv_zero]
end Go.Proofs.YtplekbpmfaghbaaGreatDoor

/- show.shown, sum, within, exp: an expression's text. -/
namespace Go.Proofs.YtplekbpmfaghbaaGreatDoor
open Go.RowKit

set_option maxRecDepth 100000 in
set_option maxHeartbeats 1000000 in
theorem shown_any (t : GTold) (hv : fits t.v.n) (w : World) (h : TabW w) : Calls Tryz.prog 115 #[toldV t] w (RetV (.string (bytes (shownT t))) w) := by
  obtain ⟨S, HS⟩ : ∃ S, Hid (S = shownT t) := ⟨_, rfl⟩
  rw [← HS.out]
  have hrb : (w.alloc (.cells #[.string t.x, .int .i64 t.v.k, .int .i64 t.v.n, .string t.v.s] 33)).heap[w.heap.size]? = some (.cells #[.string t.x, .int .i64 t.v.k, .int .i64 t.v.n, .string t.v.s] 33 (0, 0)) := heapNew rfl
  have hba : Below w.heap.size w (w.alloc (.cells #[.string t.x, .int .i64 t.v.k, .int .i64 t.v.n, .string t.v.s] 33)) := belowA (Below.refl _ _) _
  have HR := Lib.hid (text_any t.v hv _ (h.on hba))
  obtain ⟨b0, b1, b2, b3⟩ := facts4 hrb
  clear h
  by_cases h0 : t.x.size = 0
  · have e0 : (t.x.toList == ([] : List UInt8)) = true := by simp [str_empty.2 h0]
    have e1 : t.x.toList.isEmpty = true := by simp [str_empty.2 h0]
    have HE : Hid (S = textOf t.v) := by show _ = _; rw [HS.out]; simp [shownT, h0]
    clear h0 HS
    go_enter Tryz.func115, Tryz.ntmps115
    go_wp2_with fail
    refine HR.out.mono ?_
    rintro e w1 ⟨rfl, hb⟩
    have Hb := Lib.hid hb
    clear hb
    go_wp2_with fail
    go_ret
    exact ⟨by rw [HE.out]; rfl, below_next hba Hb.out⟩
  · have e0 : (t.x.toList == ([] : List UInt8)) = false := by simp [str_empty, h0]
    have e1 : t.x.toList.isEmpty = false := by simp [str_empty, h0]
    have HE : Hid (bytes S = t.x) := by show _ = _; rw [HS.out]; simp only [shownT, if_neg h0]; exact bytes_of _
    clear h0 HS HR
    go_enter Tryz.func115, Tryz.ntmps115
    go_wp2_with fail
    go_ret
    exact ⟨by rw [HE.out]; rfl, hba⟩

set_option maxRecDepth 100000 in
theorem sum_any (e : GExp) (A : Option Addr) (n c : Nat) (w : World) : Calls Tryz.prog 117 #[expV e A n c] w (RetBool (sumB e) w) := by
  obtain ⟨S, HS⟩ : ∃ S, Hid (S = sumB e) := ⟨_, rfl⟩
  rw [← HS.out]
  have hba : Below w.heap.size w (w.alloc (.cells (expC e A n c).toArray 36)) := belowA (Below.refl _ _) _
  by_cases h0 : 0 < e.op
  · by_cases h3 : e.op < 3
    · have HE : Hid (S = true) := by show _ = _; rw [HS.out]; simp [sumB, h0, h3]
      clear HS
      go_enter Tryz.func117, Tryz.ntmps117
      go_wp2_with fail
      go_ret
      exact ⟨by rw [HE.out]; simp [*], hba⟩
    · have HE : Hid (S = false) := by show _ = _; rw [HS.out]; simp [sumB, h0, h3]
      clear HS
      go_enter Tryz.func117, Tryz.ntmps117
      go_wp2_with fail
      go_ret
      exact ⟨by rw [HE.out]; simp [*], hba⟩
  · have HE : Hid (S = false) := by show _ = _; rw [HS.out]; simp [sumB, h0]
    clear HS
    go_enter Tryz.func117, Tryz.ntmps117
    go_wp2_with fail
    go_ret
    exact ⟨by rw [HE.out]; simp [*], hba⟩

theorem bytes_in (s : List UInt8) : (⟨#[40]⟩ : ByteArray) ++ bytes s ++ ⟨#[41]⟩ = bytes (inB true s) := by
  show bytes [40] ++ bytes s ++ bytes [41] = _
  rw [bytes_app, bytes_app]; rfl
set_option maxRecDepth 100000 in
theorem within_any (e : GExp) (A : Option Addr) (n c : Nat) (b : Bool) (s : List UInt8) (w : World) (hs : s.length ≤ 1000000000)
    (H : ∀ W, Below w.heap.size w W → Calls Tryz.prog 74 #[expV e A n c] W (RetV (.string (bytes s)) W)) : Calls Tryz.prog 116 #[expV e A n c, .bool b] w (RetV (.string (bytes (inB b s))) w) := by
  have hba : Below w.heap.size w (w.alloc (.cells (expC e A n c).toArray 36)) := belowA (Below.refl _ _) _
  have HC := Lib.hid (H _ hba)
  clear H
  cases b with
  | false =>
    go_enter Tryz.func116, Tryz.ntmps116
    go_wp2_with fail
    refine HC.out.mono ?_
    rintro r w1 ⟨rfl, hb⟩
    go_wp2_with fail
    go_ret
    exact ⟨rfl, below_next hba hb⟩
  | true =>
    go_enter Tryz.func116, Tryz.ntmps116
    go_wp2_with fail
    refine HC.out.mono ?_
    rintro r w1 ⟨rfl, hb⟩
    have HI := Lib.hid (bytes_in s)
    have hz : (bytes s).size ≤ 1000000000 := hs
    generalize bytes s = sb at *
    have hz1 : ¬ (9223372036854775807 < 1 + sb.size) := by omega
    have hz2 : ¬ (9223372036854775807 < sb.size + 1) := by omega
    have hz3 : ¬ (9223372036854775806 < sb.size) := by omega
    go_wp2_with fail
    go_ret
    exact ⟨by rw [HI.out]; rfl, below_next hba hb⟩
end Go.Proofs.YtplekbpmfaghbaaGreatDoor

/- term.every over a list of terms. -/
namespace Go.Proofs.YtplekbpmfaghbaaGreatDoor
open Go.RowKit

set_option maxRecDepth 100000 in
set_option maxHeartbeats 1000000 in
theorem ev1T_any (x : GTold) (g : Nat) (w : World) (hg : w.cell? ⟨g, 0, none⟩ = some (.func (.func 149) #[] #[])) (HC : Hid (∀ W, Below w.heap.size w W → Calls Tryz.prog 149 #[.agg #[.string x.x, .int .i64 x.v.k, .int .i64 x.v.n, .string x.v.s]] W (RetBool (rightT x) W))) :
    Calls Tryz.prog 175 #[.agg #[.string x.x, .int .i64 x.v.k, .int .i64 x.v.n, .string x.v.s], .pointer (some ⟨g, 0, none⟩)] w (RetBool (!rightT x) w) := by
  have hrb : (w.alloc (.cells #[.string x.x, .int .i64 x.v.k, .int .i64 x.v.n, .string x.v.s] 33)).heap[w.heap.size]? = some (.cells #[.string x.x, .int .i64 x.v.k, .int .i64 x.v.n, .string x.v.s] 33 (0, 0)) := heapNew rfl
  obtain ⟨b0, b1, b2, b3⟩ := facts4 hrb
  have cg : (w.alloc (.cells #[.string x.x, .int .i64 x.v.k, .int .i64 x.v.n, .string x.v.s] 33)).cell? ⟨g, 0, none⟩ = some (.func (.func 149) #[] #[]) := cellA hg
  clear hrb hg
  generalize rightT x = B at *
  go_enter Tryz.func175, Tryz.ntmps175
  go_wp2_with fail
  refine (HC.out _ (by first | exact Below.refl _ _ | exact belowA (Below.refl _ _) _)).mono ?_
  rintro e w1 ⟨rfl, hb⟩
  have Hb := Lib.hid hb
  clear hb
  go_wp2_with fail
  go_ret
  exact ⟨rfl, below_next (belowA (Below.refl _ _) _) Hb.out⟩

set_option maxRecDepth 100000 in
set_option maxHeartbeats 1000000 in
theorem evIT_any (A : Option Addr) (n c : Nat) (l : List GTold) (g : Nat) (w : World) (hl : SliceIs Enc.told w w.heap.size A n c l) (hg : w.cell? ⟨g, 0, none⟩ = some (.func (.func 149) #[] #[]))
    (HC : Hid (∀ (x : GTold) W, (x.x.size ≤ reachN ∧ x.v.ok) → Below w.heap.size w W → Calls Tryz.prog 149 #[.agg #[.string x.x, .int .i64 x.v.k, .int .i64 x.v.n, .string x.v.s]] W (RetBool (rightT x) W))) :
    Calls Tryz.prog 191 #[.slice A n c, .func (.func 175) #[] #[.pointer (some ⟨g, 0, none⟩)]] w (fun e w' => ∃ k : Int, e = .returned (.int .i64 k) ∧ decide (0 ≤ k) = !(l.all rightT) ∧ Below w.heap.size w w') := by
  have hn := hl.bound
  have HL := Lib.hid hl
  have hlen := Lib.hid hl.1
  have Hg := Lib.hid hg
  clear hl hg
  go_enter Tryz.func191, Tryz.ntmps191
  go_wp2_with fail
  go_loopw [5, 8] (fun _ i wr => ∃ k : Nat, k ≤ n ∧ i = .int .i64 k ∧ Hid ((l.take k).all rightT = true) ∧ Below w.heap.size w wr) (fun _ i _ => n - (intOf i).toNat)
  case atStart => exact ⟨0, by omega, rfl, by simp [Hid], Below.refl _ _⟩
  case round =>
    obtain ⟨k, hk, rfl, hpre, hbr⟩ := hrel
    by_cases hlt : k < n
    · have HLr := (HL.out.below hbr)
      obtain ⟨b, o, x, rfl, hbb, hx, z0, z1, z2, z3, f0, f1⟩ := HLr.told_at hlt
      have hokx : x.x.size ≤ reachN ∧ x.v.ok := ⟨f0, f1⟩
      have C := Lib.hid (ev1T_any x g wr (below_cell hbr Hg.out) (fun W hW => HC.out x W (hokx) (below_next hbr hW)))
      have i0 : (0 : Int) ≤ (k : Int) := by omega
      have i1 : (k : Int) < (n : Int) := by omega
      have HT : Hid ((l.take (k + 1)).all rightT = rightT x) := by
        show _ = _
        obtain ⟨g1, g2⟩ := List.getElem?_eq_some_iff.1 hx.out
        rw [List.take_succ_eq_append_getElem g1, g2, List.all_append, hpre.out]; simp
      have HF : Hid (rightT x = false → l.all rightT = false) := fun h => by
        rw [List.all_eq_false]
        exact ⟨x, List.mem_of_getElem? hx.out, by simp [h]⟩
      clear HLr hokx
      generalize rightT x = B at *
      cases B with
      | true =>
        clear HF
        go_wp2_with fail
        refine C.out.mono ?_
        rintro e w1 ⟨rfl, hb⟩
        have Hb := Lib.hid hb
        clear hb
        go_wp2_with fail
        go_roundw
        case rel => exact ⟨k + 1, by omega, by go_num, HT, below_next hbr Hb.out⟩
        case measure => simp [intOf]; omega
      | false =>
        have HF' : Hid (l.all rightT = false) := HF.out rfl
        clear HF
        go_wp2_with fail
        refine C.out.mono ?_
        rintro e w1 ⟨rfl, hb⟩
        have Hb := Lib.hid hb
        clear hb
        go_wp2_with fail
        go_ret
        exact ⟨_, rfl, by rw [HF'.out]; simp, below_next hbr Hb.out⟩
    · have i1 : ¬ (k : Int) < (n : Int) := by omega
      have HA : Hid (l.all rightT = true) := by
        show _ = _
        have h := hpre.out
        rw [List.take_of_length_le (by have := hlen.out; omega)] at h
        exact h
      go_wp2_with fail
      go_ret
      exact ⟨_, rfl, by rw [HA.out]; rfl, hbr⟩

set_option maxRecDepth 100000 in
set_option maxHeartbeats 1000000 in
theorem everyT_any (A : Option Addr) (n c : Nat) (l : List GTold) (w : World) (hl : SliceIs Enc.told w w.heap.size A n c l)
    (HC : Hid (∀ (x : GTold) W, (x.x.size ≤ reachN ∧ x.v.ok) → Below w.heap.size w W → Calls Tryz.prog 149 #[.agg #[.string x.x, .int .i64 x.v.k, .int .i64 x.v.n, .string x.v.s]] W (RetBool (rightT x) W))) :
    Calls Tryz.prog 148 #[.slice A n c, .func (.func 149) #[] #[]] w (RetBool (l.all rightT) w) := by
  have hba : Below w.heap.size w (w.alloc (.cells #[.func (.func 149) #[] #[]] 226)) := belowA (Below.refl _ _) _
  have C := Lib.hid (evIT_any A n c l w.heap.size (w.alloc (.cells #[.func (.func 149) #[] #[]] 226)) (hl.keep hba) ((cell_of_row _ _ 0 _ _ _ (heapNew rfl)).trans rfl) (fun x W h hW => HC.out x W h (below_next hba hW)))
  generalize l.all rightT = B at *
  clear hl HC
  have CC : Hid (Calls Tryz.prog 174 #[.slice A n c, .func (.func 175) #[] #[.pointer (some ⟨w.heap.size, 0, none⟩)]] (w.alloc (.cells #[.func (.func 149) #[] #[]] 226)) (RetBool (!B) (w.alloc (.cells #[.func (.func 149) #[] #[]] 226)))) := by
    show Calls _ _ _ _ _
    generalize w.alloc (.cells #[.func (.func 149) #[] #[]] 226) = wb at *
    go_enter Tryz.func174, Tryz.ntmps174
    go_wp2_with fail
    refine C.out.mono ?_
    rintro e w1 ⟨k, rfl, hk, hb⟩
    have Hb := Lib.hid hb
    have Hk := Lib.hid hk
    clear hb hk
    go_wp2_with fail
    go_ret
    exact ⟨by rw [← Hk.out]; rfl, Hb.out⟩
  clear C
  go_enter Tryz.func148, Tryz.ntmps148
  go_wp2_with fail
  refine CC.out.mono ?_
  rintro e w1 ⟨rfl, hb⟩
  have Hb := Lib.hid hb
  clear hb CC
  go_wp2_with fail
  go_ret
  exact ⟨by cases B <;> rfl, below_next hba Hb.out⟩
end Go.Proofs.YtplekbpmfaghbaaGreatDoor

/- term.deep, term.RightExp, term.none. -/
namespace Go.Proofs.YtplekbpmfaghbaaGreatDoor
open Go.RowKit

def zT : GTold := ⟨⟨#[]⟩, gv0⟩
instance : DecidableEq GTold := fun a b => if h : a.x = b.x ∧ a.v = b.v then isTrue (by cases a; cases b; simp_all) else isFalse (fun e => h (by rw [e]; exact ⟨rfl, rfl⟩))
theorem told_zero {t : GTold} : t = zT ↔ t.x.toList = [] ∧ t.v.k = 0 ∧ t.v.n = 0 ∧ t.v.s.toList = [] := by
  rw [← gv_zero]
  cases t
  simp [zT, ← toList_inj, show (⟨#[]⟩ : ByteArray).toList = [] from by rw [ByteArray.toList_eq]]
theorem told_not_zero {t : GTold} (h : t ≠ zT) : (¬ t.x.toList = []) ∨ (t.x.toList = [] ∧ ¬ t.v.k = 0) ∨ (t.x.toList = [] ∧ t.v.k = 0 ∧ ¬ t.v.n = 0) ∨ (t.x.toList = [] ∧ t.v.k = 0 ∧ t.v.n = 0 ∧ ¬ t.v.s.toList = []) := by
  rw [ne_eq, told_zero] at h
  by_cases h1 : t.x.toList = [] <;> by_cases h2 : t.v.k = 0 <;> by_cases h3 : t.v.n = 0 <;> by_cases h4 : t.v.s.toList = [] <;> simp_all
def opE (e : GExp) : Bool := (decide (1 ≤ e.op) && decide (e.op ≤ 3)) && decide (e.t = zT)
theorem opE_lo {e : GExp} (h : e.op < 1) : opE e = false := by
  have h' : ¬ 1 ≤ e.op := by omega
  simp [opE, h']
theorem opE_hi {e : GExp} (h : 3 < e.op) : opE e = false := by
  have h' : ¬ e.op ≤ 3 := by omega
  simp [opE, h']
/-- is an expression as told, and at most so deep? -/
def rightE : Nat → GExp → Bool
  | 0, e => decide (e.op = 0) && (e.kids.isEmpty && rightT e.t)
  | k + 1, e => if e.op = 0 then e.kids.isEmpty && rightT e.t else opE e && (match e.kids with | [a, b] => rightE k a && rightE k b | _ => false)
theorem rightE_leaf {k : Nat} {e : GExp} (h : e.op = 0) : rightE k e = (e.kids.isEmpty && rightT e.t) := by
  cases k <;> simp [rightE, h]
theorem rightE_flat {e : GExp} (h : ¬ e.op = 0) : rightE 0 e = false := by simp [rightE, h]
theorem rightE_bad {k : Nat} {e : GExp} (h : ¬ e.op = 0) (h2 : opE e = false) : rightE k e = false := by
  cases k <;> simp [rightE, h, h2]
theorem rightE_kids {k : Nat} {e : GExp} (h : ¬ e.op = 0) (h2 : e.kids.length ≠ 2) : rightE k e = false := by
  cases k with
  | zero => exact rightE_flat h
  | succ k =>
    simp only [rightE, h, if_false]
    match hk : e.kids, h2 with
    | [], _ => simp
    | [a], _ => simp
    | [a, b], h2 => exact absurd rfl h2
    | a :: b :: c :: l, _ => simp
theorem rightE_two {k : Nat} {e a b : GExp} (h : ¬ e.op = 0) (h2 : opE e = true) (hk : e.kids = [a, b]) : rightE (k + 1) e = (rightE k a && rightE k b) := by
  simp [rightE, h, h2, hk]

def RetDeep (k : Nat) (e : GExp) (w : World) (ex : Ending) (w' : World) : Prop := ∃ m : Int, ex = .returned (.int .i64 m) ∧ decide (0 ≤ m) = rightE k e ∧ -1 ≤ m ∧ m ≤ k ∧ Below w.heap.size w w'

set_option maxRecDepth 100000 in
set_option maxHeartbeats 4000000 in
theorem deep_any : ∀ (k : Nat) (e : GExp) (A : Option Addr) (n c d : Nat) (w : World), k ≤ 20 → SliceIs (Enc.exp d) w w.heap.size A n c e.kids → e.t.x.size ≤ reachN → LexW w →
    Calls Tryz.prog 114 #[.agg #[.int .i64 e.op, .string e.t.x, .int .i64 e.t.v.k, .int .i64 e.t.v.n, .string e.t.v.s, .slice A n c], .int .i64 (k : Int)] w (RetDeep k e w) := by
  intro k
  induction k using Nat.strongRecOn with
  | ind k ih =>
    intro e A n c d w hk20 hk hx hW
    have IH := Lib.hid ih
    have hn := hk.bound
    have HK := Lib.hid hk
    have Hlen := Lib.hid hk.1
    have HW := Lib.hid hW
    have Hx := Lib.hid hx
    have hrb : (w.alloc (.cells #[.int .i64 e.op, .string e.t.x, .int .i64 e.t.v.k, .int .i64 e.t.v.n, .string e.t.v.s, .slice A n c] 36)).heap[w.heap.size]? = some (.cells #[.int .i64 e.op, .string e.t.x, .int .i64 e.t.v.k, .int .i64 e.t.v.n, .string e.t.v.s, .slice A n c] 36 (0, 0)) := heapNew rfl
    have hba : Below w.heap.size w (w.alloc (.cells #[.int .i64 e.op, .string e.t.x, .int .i64 e.t.v.k, .int .i64 e.t.v.n, .string e.t.v.s, .slice A n c] 36)) := belowA (Below.refl _ _) _
    clear hk hW hx ih
    obtain ⟨P, HP⟩ : ∃ P, Hid (P = RetDeep k e w) := ⟨_, rfl⟩
    rw [← HP.out]
    have HBad : Hid (rightE k e = false → ∀ w', Below w.heap.size w w' → P (.returned (.int .i64 (-1))) w') := fun h w' hb => by rw [HP.out]; exact ⟨-1, rfl, by rw [h]; rfl, by omega, by omega, hb⟩
    obtain ⟨b0, b1, b2, b3, b4, b5⟩ := facts6 hrb
    have Hlt := Lib.hid (Array.getElem?_eq_some_iff.1 hrb).1
    have HR := Lib.hid (tright_any e.t Hx.out (w.alloc (.cells #[.int .i64 e.op, .string e.t.x, .int .i64 e.t.v.k, .int .i64 e.t.v.n, .string e.t.v.s, .slice A n c] 36)) (HW.out.on hba))
    by_cases h0 : e.op = 0
    · have q0 : (e.op == 0) = true := by simp [h0]
      have q1 : e.op < 1 := by omega
      have HL : Hid (rightE k e = (e.kids.isEmpty && rightT e.t)) := rightE_leaf h0
      by_cases hn0 : n = 0
      · have q2 : ((n : Int) == 0) = true := by simp [hn0]
        have hke : e.kids.isEmpty = true := by have := Hlen.out; simp; exact List.eq_nil_of_length_eq_zero (by omega)
        cases hr : rightT e.t with
        | true =>
          have HG : Hid (∀ w', Below w.heap.size w w' → P (.returned (.int .i64 0)) w') := fun w' hb => by rw [HP.out]; exact ⟨0, rfl, by rw [HL.out, hke, hr]; rfl, by omega, by omega, hb⟩
          rw [hr] at HR
          clear HP hke hr h0 hn0 HL HBad HK
          generalize hwb : (w.alloc (.cells #[.int .i64 e.op, .string e.t.x, .int .i64 e.t.v.k, .int .i64 e.t.v.n, .string e.t.v.s, .slice A n c] 36)) = wb at *
          go_enter Tryz.func114, Tryz.ntmps114
          go_wp2_with fail
          try simp only [hwb]
          go_wp2_with fail
          refine HR.out.mono ?_
          rintro e1 w1 ⟨rfl, hb⟩
          have Hb := Lib.hid hb
          clear hb
          go_wp2_with fail
          exact HG.out _ (below_next hba Hb.out)
        | false =>
          have HG : Hid (∀ w', Below w.heap.size w w' → P (.returned (.int .i64 (-1))) w') := HBad.out (by rw [HL.out, hr]; simp)
          rw [hr] at HR
          clear HP hke hr h0 hn0 HL HBad HK
          generalize hwb : (w.alloc (.cells #[.int .i64 e.op, .string e.t.x, .int .i64 e.t.v.k, .int .i64 e.t.v.n, .string e.t.v.s, .slice A n c] 36)) = wb at *
          go_enter Tryz.func114, Tryz.ntmps114
          go_wp2_with fail
          try simp only [hwb]
          go_wp2_with fail
          refine HR.out.mono ?_
          rintro e1 w1 ⟨rfl, hb⟩
          have Hb := Lib.hid hb
          obtain ⟨c0, c1, c2, c3, c4, c5⟩ := facts6 ((hb.block _ Hlt.out).trans hrb)
          clear hb
          go_wp2_with fail
          exact HG.out _ (below_next hba Hb.out)
      · have q2 : ((n : Int) == 0) = false := by rw [beq_eq_false_iff_ne]; omega
        have hke : e.kids.isEmpty = false := by
          have := Hlen.out
          cases h : e.kids with
          | nil => rw [h] at this; simp at this; omega
          | cons a l => rfl
        have HG : Hid (∀ w', Below w.heap.size w w' → P (.returned (.int .i64 (-1))) w') := HBad.out (by rw [HL.out, hke]; simp)
        clear HP hke h0 hn0 HL HBad HK HR
        go_enter Tryz.func114, Tryz.ntmps114
        go_wp2_with fail
        exact HG.out _ hba
    · have q0 : (e.op == 0) = false := by simp [h0]
      by_cases h1 : e.op < 1
      · have HG : Hid (∀ w', Below w.heap.size w w' → P (.returned (.int .i64 (-1))) w') := HBad.out (rightE_bad h0 (opE_lo (by omega)))
        clear HP h0 HBad HK HR
        go_enter Tryz.func114, Tryz.ntmps114
        go_wp2_with fail
        exact HG.out _ hba
      by_cases h3 : 3 < e.op
      · have HG : Hid (∀ w', Below w.heap.size w w' → P (.returned (.int .i64 (-1))) w') := HBad.out (rightE_bad h0 (opE_hi (by omega)))
        clear HP h0 HBad HK HR
        go_enter Tryz.func114, Tryz.ntmps114
        go_wp2_with fail
        exact HG.out _ hba
      by_cases hn2 : n = 2
      rotate_left
      · have q2 : ((n : Int) != 2) = true := by simp; omega
        have HG : Hid (∀ w', Below w.heap.size w w' → P (.returned (.int .i64 (-1))) w') := HBad.out (rightE_kids h0 (by have := Hlen.out; omega))
        clear HP h0 HBad HK HR
        go_enter Tryz.func114, Tryz.ntmps114
        go_wp2_with fail
        exact HG.out _ hba
      subst hn2
      by_cases hz : e.t = zT
      rotate_left
      · have HG : Hid (∀ w', Below w.heap.size w w' → P (.returned (.int .i64 (-1))) w') := HBad.out (rightE_bad h0 (by simp [opE, hz]))
        rcases told_not_zero hz with hz | ⟨z0, hz⟩ | ⟨z0, z1, hz⟩ | ⟨z0, z1, z2, hz⟩ <;>
        · clear HP h0 HBad HK HR
          go_enter Tryz.func114, Tryz.ntmps114
          go_wp2_with fail
          exact HG.out _ (belowA (Below.refl _ _) _)
      have hop : opE e = true := by
        have : 1 ≤ e.op := by omega
        have : e.op ≤ 3 := by omega
        simp [opE, *]
      obtain ⟨z0, z1, z2, z3⟩ := told_zero.1 hz
      by_cases hk0 : k = 0
      · have HG : Hid (∀ w', Below w.heap.size w w' → P (.returned (.int .i64 (-1))) w') := HBad.out (by rw [hk0]; exact rightE_flat h0)
        have q4 : ((k : Int) == 0) = true := by simp [hk0]
        clear HP h0 HBad HK HR hop hz
        go_enter Tryz.func114, Tryz.ntmps114
        go_wp2_with fail
        exact HG.out _ (belowA (Below.refl _ _) _)
      obtain ⟨k', hk'⟩ : ∃ k', k = k' + 1 := ⟨k - 1, by omega⟩
      have q4 : ((k : Int) == 0) = false := by rw [beq_eq_false_iff_ne]; omega
      have q5 : (k : Int) - 1 = (k' : Int) := by omega
      have q7 : wrap64 (k' : Int) = (k' : Int) := by unfold wrap64; omega
      have q6 : IntKind.i64.wrap (k' : Int) = (k' : Int) := by rw [IntWalk.i64_left]; exact q7
      obtain ⟨b, o, x, Ax, nx, cx, dx, rfl, hbb, hkx, hdx, x0, x1, x2, x3, x4, x5, fx0, fx1, fx2, hkkx⟩ := HK.out.exp_at (i := 0) (by omega)
      obtain ⟨b', o', y, Ay, ny, cy, dy, hAy, hbb', hky, hdy, y0, y1, y2, y3, y4, y5, fy0, fy1, fy2, hkky⟩ := HK.out.exp_at (i := 1) (by omega)
      injection hAy with hAy
      injection hAy with e1 e2 _
      subst e1 e2
      have hks : e.kids = [x, y] := by
        have h1 := hkx.out
        have h2 := hky.out
        have h3 := Hlen.out
        match e.kids, h1, h2, h3 with
        | [a, b], h1, h2, _ => simp at h1 h2; rw [h1, h2]
      have HT : Hid (rightE k e = (rightE k' x && rightE k' y)) := by show _ = _; rw [hk']; exact rightE_two h0 hop hks
      have HGood : Hid (∀ (m : Int) w', decide (0 ≤ m) = (rightE k' x && rightE k' y) → -1 ≤ m → m ≤ k → Below w.heap.size w w' → P (.returned (.int .i64 m)) w') := fun m w' h h1 h2 hb => by rw [HP.out]; exact ⟨m, rfl, by rw [HT.out]; exact h, h1, h2, hb⟩
      have ex : e.t.x = ⟨#[]⟩ := by rw [hz]; rfl
      have ek : e.t.v.k = 0 := by rw [hz]; rfl
      have en : e.t.v.n = 0 := by rw [hz]; rfl
      have es : e.t.v.s = ⟨#[]⟩ := by rw [hz]; rfl
      clear z0 z1 z2 z3 HR
      simp only [ex, ek, en, es] at hba hrb b0 b1 b2 b3 b4 b5 Hlt
      have CX : Hid (∀ W, Below (w.alloc (.cells #[.int .i64 e.op, .string ⟨#[]⟩, .int .i64 0, .int .i64 0, .string ⟨#[]⟩, .slice (some ⟨b, o, none⟩) 2 c] 36)).heap.size (w.alloc (.cells #[.int .i64 e.op, .string ⟨#[]⟩, .int .i64 0, .int .i64 0, .string ⟨#[]⟩, .slice (some ⟨b, o, none⟩) 2 c] 36)) W → Calls Tryz.prog 114 #[.agg #[.int .i64 x.op, .string x.t.x, .int .i64 x.t.v.k, .int .i64 x.t.v.n, .string x.t.v.s, .slice Ax nx cx], .int .i64 (k' : Int)] W (RetDeep k' x W)) := fun W hW =>
        IH.out k' (by omega) x Ax nx cx dx W (by omega) ((hkkx.keep hba).keep hW) fx1 ((HW.out.on hba).on hW)
      have CY : Hid (∀ W, Below (w.alloc (.cells #[.int .i64 e.op, .string ⟨#[]⟩, .int .i64 0, .int .i64 0, .string ⟨#[]⟩, .slice (some ⟨b, o, none⟩) 2 c] 36)).heap.size (w.alloc (.cells #[.int .i64 e.op, .string ⟨#[]⟩, .int .i64 0, .int .i64 0, .string ⟨#[]⟩, .slice (some ⟨b, o, none⟩) 2 c] 36)) W → Calls Tryz.prog 114 #[.agg #[.int .i64 y.op, .string y.t.x, .int .i64 y.t.v.k, .int .i64 y.t.v.n, .string y.t.v.s, .slice Ay ny cy], .int .i64 (k' : Int)] W (RetDeep k' y W)) := fun W hW =>
        IH.out k' (by omega) y Ay ny cy dy W (by omega) ((hkky.keep hba).keep hW) fy1 ((HW.out.on hba).on hW)
      simp only [Nat.zero_mul, Nat.add_zero, Nat.one_mul] at x0 x1 x2 x3 x4 x5 y0 y1 y2 y3 y4 y5
      have Hk := Lib.hid (fun W (hW : Below (w.alloc (.cells #[.int .i64 e.op, .string ⟨#[]⟩, .int .i64 0, .int .i64 0, .string ⟨#[]⟩, .slice (some ⟨b, o, none⟩) 2 c] 36)).heap.size (w.alloc (.cells #[.int .i64 e.op, .string ⟨#[]⟩, .int .i64 0, .int .i64 0, .string ⟨#[]⟩, .slice (some ⟨b, o, none⟩) 2 c] 36)) W) => show W.cell? ⟨w.heap.size, 5, none⟩ = some (.slice (some ⟨b, o, none⟩) 2 c) ∧ W.cell? ⟨b, o, none⟩ = some (.int .i64 x.op) ∧ W.cell? ⟨b, o + 1, none⟩ = some (.string x.t.x) ∧ W.cell? ⟨b, o + 2, none⟩ = some (.int .i64 x.t.v.k) ∧ W.cell? ⟨b, o + 3, none⟩ = some (.int .i64 x.t.v.n) ∧ W.cell? ⟨b, o + 4, none⟩ = some (.string x.t.v.s) ∧ W.cell? ⟨b, o + 5, none⟩ = some (.slice Ax nx cx) ∧ W.cell? ⟨b, o + 6, none⟩ = some (.int .i64 y.op) ∧ W.cell? ⟨b, o + 6 + 1, none⟩ = some (.string y.t.x) ∧ W.cell? ⟨b, o + 6 + 2, none⟩ = some (.int .i64 y.t.v.k) ∧ W.cell? ⟨b, o + 6 + 3, none⟩ = some (.int .i64 y.t.v.n) ∧ W.cell? ⟨b, o + 6 + 4, none⟩ = some (.string y.t.v.s) ∧ W.cell? ⟨b, o + 6 + 5, none⟩ = some (.slice Ay ny cy) from ⟨below_cell hW b5, below_cell hW (cellA x0), below_cell hW (cellA x1), below_cell hW (cellA x2), below_cell hW (cellA x3), below_cell hW (cellA x4), below_cell hW (cellA x5), below_cell hW (cellA y0), below_cell hW (cellA y1), below_cell hW (cellA y2), below_cell hW (cellA y3), below_cell hW (cellA y4), below_cell hW (cellA y5)⟩)
      have r5 : k' + 1 = k := hk'.symm
      have R5 := Lib.hid r5
      clear HP h0 HBad HK hop IH hks HT hkx hky hk' r5 fx0 fx1 fx2 fy0 fy1 fy2 hkkx hkky hdx hdy x0 x1 x2 x3 x4 x5 y0 y1 y2 y3 y4 y5 hbb hbb' hz hk0 Hx Hlen
      generalize hX : rightE k' x = X at *
      generalize hY : rightE k' y = Y at *
      go_enter Tryz.func114, Tryz.ntmps114
      go_wp2_with fail
      generalize (w.alloc (.cells #[.int .i64 e.op, .string ⟨#[]⟩, .int .i64 0, .int .i64 0, .string ⟨#[]⟩, .slice (some ⟨b, o, none⟩) 2 c] 36)) = wb at *
      have hb1 := Below.refl wb.heap.size wb
      have Hfirst : Hid True := trivial
      go_region_held3 (fun W => W.cell? ⟨w.heap.size, 5, none⟩ = some (.slice (some ⟨b, o, none⟩) 2 c) ∧ W.cell? ⟨b, o, none⟩ = some (.int .i64 x.op) ∧ W.cell? ⟨b, o + 1, none⟩ = some (.string x.t.x) ∧ W.cell? ⟨b, o + 2, none⟩ = some (.int .i64 x.t.v.k) ∧ W.cell? ⟨b, o + 3, none⟩ = some (.int .i64 x.t.v.n) ∧ W.cell? ⟨b, o + 4, none⟩ = some (.string x.t.v.s) ∧ W.cell? ⟨b, o + 5, none⟩ = some (.slice Ax nx cx) ∧ W.cell? ⟨b, o + 6, none⟩ = some (.int .i64 y.op) ∧ W.cell? ⟨b, o + 6 + 1, none⟩ = some (.string y.t.x) ∧ W.cell? ⟨b, o + 6 + 2, none⟩ = some (.int .i64 y.t.v.k) ∧ W.cell? ⟨b, o + 6 + 3, none⟩ = some (.int .i64 y.t.v.n) ∧ W.cell? ⟨b, o + 6 + 4, none⟩ = some (.string y.t.v.s) ∧ W.cell? ⟨b, o + 6 + 5, none⟩ = some (.slice Ay ny cy))
        (first
          | (refine Hk.out _ ?_; (repeat (first | with_reducible exact Below.refl _ _ | with_reducible assumption | with_reducible refine Below.drew ?_ | with_reducible refine belowA ?_ _)); done)
          | go_keep)
        ((first
          | (go_at_call 114
             clear Hfirst
             refine (CX.out _ (Below.refl _ _).drew).mono ?_
             rintro e1 w1 ⟨m1, rfl, hm1, l1, u1, hq1⟩
             have hb1 : Below wb.heap.size wb w1 := ((Below.refl wb.heap.size wb).drew).trans hq1
             have Hm1 := Lib.hid hm1
             clear hq1 hm1)
          | (go_at_call 114
             refine (CY.out _ hb1).mono ?_
             rintro e1 w2 ⟨m2, rfl, hm2, l2, u2, hq2⟩
             have hb2 : Below wb.heap.size wb w2 := hb1.trans (hq2.mono hb1.size)
             have Hm2 := Lib.hid hm2
             clear hq2 hm2)))
      have HB2 : Hid (Below w.heap.size w w2) := below_next hba hb2
      have K0 : (k' : Int) ≤ (k : Int) - 1 := by have := R5.out; omega
      clear Hk CX CY b0 b1 b2 b3 b4 b5 hrb hb1 hb2
      by_cases p1 : m1 < 0
      · have HG : Hid (∀ w', Below w.heap.size w w' → P (.returned (.int .i64 (-1))) w') := fun w' hb => HGood.out (-1) w' (by
          have h1 := Hm1.out
          have h2 : decide (0 ≤ m1) = false := by simp; omega
          rw [← hX, ← h1, h2]; rfl) (by omega) (by omega) hb
        clear HGood Hm1 Hm2
        go_wp2_with fail
        exact HG.out _ HB2.out
      by_cases p2 : m2 < 0
      · have HG : Hid (∀ w', Below w.heap.size w w' → P (.returned (.int .i64 (-1))) w') := fun w' hb => HGood.out (-1) w' (by
          have h1 := Hm2.out
          have h2 : decide (0 ≤ m2) = false := by simp; omega
          rw [← hY, ← h1, h2]; simp) (by omega) (by omega) hb
        clear HGood Hm1 Hm2
        go_wp2_with fail
        exact HG.out _ HB2.out
      have hX1 : X = true := by rw [← hX, ← Hm1.out]; simp; omega
      have hY1 : Y = true := by rw [← hY, ← Hm2.out]; simp; omega
      have HG : Hid (∀ (m : Int) w', 0 ≤ m → m ≤ (k : Int) → Below w.heap.size w w' → P (.returned (.int .i64 m)) w') := fun m w' h1 h2 hb => HGood.out m w' (by rw [hX1, hY1]; simp; omega) (by omega) h2 hb
      clear HGood Hm1 Hm2 hX hY hX1 hY1
      by_cases p3 : m1 ≤ m2
      · have e3 : max m1 m2 = m2 := by omega
        have e4 : wrap64 (1 + m2) = 1 + m2 := by unfold wrap64; omega
        go_wp2_with fail
        exact HG.out _ _ (by omega) (by omega) HB2.out
      · have e3 : max m1 m2 = m1 := by omega
        have e4 : wrap64 (1 + m1) = 1 + m1 := by unfold wrap64; omega
        go_wp2_with fail
        exact HG.out _ _ (by omega) (by omega) HB2.out

set_option maxRecDepth 100000 in
set_option maxHeartbeats 1000000 in
theorem rightExp_any (e : GExp) (A : Option Addr) (n c d : Nat) (w : World) (hk : SliceIs (Enc.exp d) w w.heap.size A n c e.kids) (hx : e.t.x.size ≤ reachN) (hW : LexW w) :
    Calls Tryz.prog 73 #[.agg #[.int .i64 e.op, .string e.t.x, .int .i64 e.t.v.k, .int .i64 e.t.v.n, .string e.t.v.s, .slice A n c]] w (RetBool (rightE 20 e) w) := by
  have hrb : (w.alloc (.cells #[.int .i64 e.op, .string e.t.x, .int .i64 e.t.v.k, .int .i64 e.t.v.n, .string e.t.v.s, .slice A n c] 36)).heap[w.heap.size]? = some (.cells #[.int .i64 e.op, .string e.t.x, .int .i64 e.t.v.k, .int .i64 e.t.v.n, .string e.t.v.s, .slice A n c] 36 (0, 0)) := heapNew rfl
  have hba : Below w.heap.size w (w.alloc (.cells #[.int .i64 e.op, .string e.t.x, .int .i64 e.t.v.k, .int .i64 e.t.v.n, .string e.t.v.s, .slice A n c] 36)) := belowA (Below.refl _ _) _
  have HC := Lib.hid (deep_any 20 e A n c d _ (by omega) (hk.keep hba) hx (hW.on hba))
  obtain ⟨b0, b1, b2, b3, b4, b5⟩ := facts6 hrb
  clear hk hx hW hrb
  generalize hwb : (w.alloc (.cells #[.int .i64 e.op, .string e.t.x, .int .i64 e.t.v.k, .int .i64 e.t.v.n, .string e.t.v.s, .slice A n c] 36)) = wb at *
  go_enter Tryz.func73, Tryz.ntmps73
  go_wp2_with fail
  try simp only [hwb]
  go_wp2_with fail
  refine HC.out.mono ?_
  rintro e1 w1 ⟨m, rfl, hm, -, -, hb⟩
  have Hm := Lib.hid hm
  have Hb := Lib.hid hb
  clear hm hb
  go_wp2_with fail
  go_ret
  exact ⟨by rw [← Hm.out]; rfl, below_next hba Hb.out⟩

/-- a zero expression -/
def noneE (e : GExp) : Bool := decide (e.op = 0) && (decide (e.t = zT) && e.kids.isEmpty)
set_option maxRecDepth 100000 in
set_option maxHeartbeats 1000000 in
theorem none_any (e : GExp) (A : Option Addr) (n c : Nat) (w : World) (hn : e.kids.length = n) (hn2 : n ≤ reachN) :
    Calls Tryz.prog 113 #[.agg #[.int .i64 e.op, .string e.t.x, .int .i64 e.t.v.k, .int .i64 e.t.v.n, .string e.t.v.s, .slice A n c]] w (RetBool (noneE e) w) := by
  have hn3 : n ≤ 140737488351232 := hn2
  have Hn := Lib.hid hn
  obtain ⟨B, HB⟩ : ∃ B, Hid (B = noneE e) := ⟨_, rfl⟩
  rw [← HB.out]
  clear hn hn2
  by_cases h0 : e.op = 0
  rotate_left
  · have q0 : (e.op == 0) = false := by simp [h0]
    have HE : Hid (B = false) := by show _ = _; rw [HB.out]; simp [noneE, h0]
    clear h0 HB
    go_enter Tryz.func113, Tryz.ntmps113
    go_wp2_with fail
    go_ret
    exact ⟨by rw [HE.out]; rfl, belowA (Below.refl _ _) _⟩
  have q0 : (e.op == 0) = true := by simp [h0]
  by_cases hz : e.t = zT
  rotate_left
  · have HE : Hid (B = false) := by show _ = _; rw [HB.out]; simp [noneE, hz]
    rcases told_not_zero hz with hz | ⟨z0, hz⟩ | ⟨z0, z1, hz⟩ | ⟨z0, z1, z2, hz⟩ <;>
    · clear h0 HB
      go_enter Tryz.func113, Tryz.ntmps113
      go_wp2_with fail
      go_ret
      exact ⟨by rw [HE.out]; rfl, belowA (Below.refl _ _) _⟩
  obtain ⟨z0, z1, z2, z3⟩ := told_zero.1 hz
  by_cases hk : n = 0
  · have q2 : ((n : Int) == 0) = true := by simp [hk]
    have HE : Hid (B = true) := by show _ = _; rw [HB.out]; simp [noneE, h0, hz]; exact List.eq_nil_of_length_eq_zero (by have := Hn.out; omega)
    clear h0 HB hz hk
    go_enter Tryz.func113, Tryz.ntmps113
    go_wp2_with fail
    go_ret
    exact ⟨by rw [HE.out]; rfl, belowA (Below.refl _ _) _⟩
  · have q2 : ((n : Int) == 0) = false := by rw [beq_eq_false_iff_ne]; omega
    have HE : Hid (B = false) := by show _ = _; rw [HB.out]; simp [noneE, h0, hz]; intro h; have := Hn.out; rw [h] at this; simp at this; omega
    clear h0 HB hz hk
    go_enter Tryz.func113, Tryz.ntmps113
    go_wp2_with fail
    go_ret
    exact ⟨by rw [HE.out]; rfl, belowA (Below.refl _ _) _⟩
end Go.Proofs.YtplekbpmfaghbaaGreatDoor

/- show.exp: a right expression's text. -/
namespace Go.Proofs.YtplekbpmfaghbaaGreatDoor
open Go.RowKit

/-- the three lists of texts of package show -/
def opsL : List (List UInt8) := [[], [43], [45], [42]]
def sgnsL : List (List UInt8) := [[], [61], [33, 61], [60], [60, 61], [62], [62, 61]]
def aggsL : List (List UInt8) := [[], [99, 111, 117, 110, 116], [115, 117, 109], [109, 105, 110], [109, 97, 120]]
structure ShowW (W : World) : Prop where
  tab : TabW W
  ops : StrsW 1 opsL W
  signs : StrsW 0 sgnsL W
  aggs : StrsW 2 aggsL W
theorem ShowW.on {w W : World} (h : ShowW w) (hb : Below w.heap.size w W) : ShowW W := ⟨h.tab.on hb, h.ops.on hb, h.signs.on hb, h.aggs.on hb⟩
theorem StrsW.cell {g : Nat} {L : List (List UInt8)} {W : World} (h : StrsW g L W) {i : Nat} {l : List UInt8} (hl : L[i]? = some l) : W.cell? ⟨g, i, none⟩ = some (.string (bytes l)) := by
  obtain ⟨t, fr, h⟩ := h
  rw [cell_of_row _ _ i _ _ _ h]
  simp [hl]
def zxC : List Value := [.int .i64 0, .string ⟨#[]⟩, .int .i64 0, .int .i64 0, .string ⟨#[]⟩, .slice none 0 0]
def sxF (A : Option Addr) (n c : Nat) (b o : Nat) (x1 y1 : List Value) (g : Nat) (i : Nat) (v : Value) (_W : World) : Prop := match i with
  | 0 => v = .pointer (some ⟨g, 5, none⟩)
  | 1 => v = .slice A n c
  | 2 => v = .pointer (some ⟨b, o, none⟩)
  | 3 => v = .agg x1.toArray
  | 4 => v = .pointer (some ⟨g, 5, none⟩)
  | 5 => v = .slice A n c
  | 6 => v = .pointer (some ⟨b, o + 6, none⟩)
  | 7 => v = .agg y1.toArray
  | _ => True
theorem y_undef : (match (some undef : Option Value) with | some (.bool b) => some b | _ => none) = none := rfl
theorem inB_ge (b : Bool) (s : List UInt8) : s.length ≤ (inB b s).length := by
  cases b
  · simp [inB]
  · simp only [inB, if_true, List.length_append, List.length_cons, List.length_nil]; omega
theorem rightE_parts {k : Nat} {e : GExp} (h0 : ¬ e.op = 0) (h : rightE k e = true) : ∃ k' a b, k = k' + 1 ∧ e.kids = [a, b] ∧ 1 ≤ e.op ∧ e.op ≤ 3 ∧ rightE k' a = true ∧ rightE k' b = true := by
  cases k with
  | zero => rw [rightE_flat h0] at h; cases h
  | succ k =>
    by_cases h2 : opE e = true
    · match hk : e.kids with
      | [a, b] =>
        rw [rightE_two h0 h2 hk] at h
        simp only [Bool.and_eq_true] at h
        unfold opE at h2
        simp only [Bool.and_eq_true, decide_eq_true_eq] at h2
        exact ⟨k, a, b, rfl, rfl, h2.1.1, h2.1.2, h.1, h.2⟩
      | [] => rw [rightE_kids h0 (by rw [hk]; simp)] at h; cases h
      | [a] => rw [rightE_kids h0 (by rw [hk]; simp)] at h; cases h
      | a :: b :: c :: r => rw [rightE_kids h0 (by rw [hk]; simp)] at h; cases h
    · rw [rightE_bad h0 (by simpa using h2)] at h; cases h

set_option maxRecDepth 100000 in
set_option maxHeartbeats 4000000 in
theorem exp2_any : ∀ (k : Nat) (e : GExp) (A : Option Addr) (n c d : Nat) (w : World), rightE k e = true → SliceIs (Enc.exp d) w w.heap.size A n c e.kids → fits e.t.v.n → ShowW w → (expS k e).length ≤ 1000000000 →
    Calls Tryz.prog 74 #[expV e A n c] w (RetV (.string (bytes (expS k e))) w) := by
  intro k
  induction k using Nat.strongRecOn with
  | ind k ih =>
    intro e A n c d w hr hk hv hW hlen
    obtain ⟨o, t, ks⟩ := e
    replace hk : SliceIs (Enc.exp d) w w.heap.size A n c ks := hk
    replace hv : fits t.v.n := hv
    show Calls Tryz.prog 74 #[.agg #[.int .i64 o, .string t.x, .int .i64 t.v.k, .int .i64 t.v.n, .string t.v.s, .slice A n c]] w (RetV (.string (bytes (expS k (.mk o t ks)))) w)
    have mixed : Tryz.prog.follows .mixedOrders = true := by kernel_rfl
    have IH := Lib.hid ih
    obtain ⟨S, HS⟩ : ∃ S, Hid (S = expS k (.mk o t ks)) := ⟨_, rfl⟩
    rw [← HS.out]
    have hrb : (w.alloc (.cells #[.int .i64 o, .string t.x, .int .i64 t.v.k, .int .i64 t.v.n, .string t.v.s, .slice A n c] 36)).heap[w.heap.size]? = some (.cells #[.int .i64 o, .string t.x, .int .i64 t.v.k, .int .i64 t.v.n, .string t.v.s, .slice A n c] 36 (0, 0)) := heapNew rfl
    have hba : Below w.heap.size w (w.alloc (.cells #[.int .i64 o, .string t.x, .int .i64 t.v.k, .int .i64 t.v.n, .string t.v.s, .slice A n c] 36)) := belowA (Below.refl _ _) _
    have HW := Lib.hid (hW.on hba)
    have HK := Lib.hid (hk.keep hba)
    have HN := Lib.hid hk.1
    obtain ⟨c0, c1, c2, c3, c4, c5⟩ := facts6 hrb
    have Hrb := Lib.hid hrb
    have Hba := Lib.hid hba
    clear ih hk hW hrb hba
    by_cases h0 : o = 0
    · have e0 : (o == 0) = true := by simp [h0]
      have HE : Hid (S = shownT t) := by show _ = _; rw [HS.out, expS_leaf (e := .mk o t ks) h0]; rfl
      have HC := Lib.hid (shown_any t hv _ HW.out.tab)
      clear HS h0 hr hlen HK HN IH HW
      go_enter Tryz.func74, Tryz.ntmps74
      go_wp2_with fail
      refine HC.out.mono ?_
      rintro r w1 ⟨rfl, hb⟩
      have Hb := Lib.hid hb
      clear hb HC
      go_wp2_with fail
      go_ret
      exact ⟨by rw [HE.out]; rfl, below_next Hba.out Hb.out⟩
    have hkids0 := rightE_parts (e := .mk o t ks) h0 hr
    obtain ⟨k, ka, kb, rfl, hkids, ho1, ho3, hra, hrb⟩ := hkids0
    replace ho1 : 1 ≤ o := ho1
    replace ho3 : o ≤ 3 := ho3
    replace hkids : ks = [ka, kb] := hkids
    have e0 : (o == 0) = false := by simp [h0]
    obtain ⟨j, hj⟩ : ∃ j : Nat, o = (j : Int) := ⟨o.toNat, by omega⟩
    subst hj
    have hn2 : n = 2 := by have := HN.out; rw [hkids] at this; simpa using this.symm
    subst hn2
    obtain ⟨b1, o1, kx, cs1, hA1, _, h1, ok1, hc1⟩ := HK.out.at_ (show 0 < 2 by omega)
    obtain ⟨b2, o2, ky, cs2, hA2, _, h2, ok2, hc2⟩ := HK.out.at_ (show 1 < 2 by omega)
    obtain rfl : kx = ka := by have := h1.out; rw [hkids] at this; simpa using this.symm
    obtain rfl : ky = kb := by have := h2.out; rw [hkids] at this; simpa using this.symm
    obtain rfl : A = _ := hA1
    obtain ⟨rfl, rfl⟩ : b1 = b2 ∧ o1 = o2 := by injection hA2 with h; injection h with h h'; exact ⟨h, h'⟩
    rw [Enc.exp_sz] at hc1 hc2
    obtain ⟨g, rfl⟩ : ∃ g, d = g + 1 := by cases d with
      | zero => exact ok1.elim
      | succ g => exact ⟨g, rfl⟩
    obtain ⟨A1, n1, a1, rfl, -, -, hv1, k1⟩ := ok1
    obtain ⟨A2, n2, a2, rfl, -, -, hv2, k2⟩ := ok2
    have hS : expS (k + 1) (.mk (j : Int) t ks) = inB (decide ((j : Int) = 3) && sumB kx) (expS k kx) ++ [32] ++ opS (j : Int) ++ [32] ++ inB (sumB ky || (decide ((j : Int) = 3) && decide (ky.op = 3))) (expS k ky) := expS_two (e := .mk (j : Int) t ks) h0 hkids
    have hl0 := hlen
    rw [hS] at hl0
    have hla : (expS k kx).length ≤ 1000000000 := by
      have : (expS k kx).length ≤ (inB (decide ((j : Int) = 3) && sumB kx) (expS k kx)).length := inB_ge _ _
      simp only [List.length_append] at hl0
      omega
    have hlb : (expS k ky).length ≤ 1000000000 := by
      have : (expS k ky).length ≤ (inB (sumB ky || (decide ((j : Int) = 3) && decide (ky.op = 3))) (expS k ky)).length := inB_ge _ _
      simp only [List.length_append] at hl0
      omega
    have HC1 := Lib.hid (fun (W : World) (hb : Below (w.alloc (.cells #[.int .i64 (j : Int), .string t.x, .int .i64 t.v.k, .int .i64 t.v.n, .string t.v.s, .slice (some ⟨b1, o1, none⟩) 2 c] 36)).heap.size (w.alloc (.cells #[.int .i64 (j : Int), .string t.x, .int .i64 t.v.k, .int .i64 t.v.n, .string t.v.s, .slice (some ⟨b1, o1, none⟩) 2 c] 36)) W) => IH.out k (by omega) kx A1 n1 a1 g W hra (k1.keep hb) hv1.2.1 (HW.out.on hb) hla)
    have HC2 := Lib.hid (fun (W : World) (hb : Below (w.alloc (.cells #[.int .i64 (j : Int), .string t.x, .int .i64 t.v.k, .int .i64 t.v.n, .string t.v.s, .slice (some ⟨b1, o1, none⟩) 2 c] 36)).heap.size (w.alloc (.cells #[.int .i64 (j : Int), .string t.x, .int .i64 t.v.k, .int .i64 t.v.n, .string t.v.s, .slice (some ⟨b1, o1, none⟩) 2 c] 36)) W) => IH.out k (by omega) ky A2 n2 a2 g W hrb (k2.keep hb) hv2.2.1 (HW.out.on hb) hlb)
    have Hc1 : Hid ((w.alloc (.cells #[.int .i64 (j : Int), .string t.x, .int .i64 t.v.k, .int .i64 t.v.n, .string t.v.s, .slice (some ⟨b1, o1, none⟩) 2 c] 36)).rangeAt b1 o1 (expC kx A1 n1 a1)) := fun j v hj => by simpa using hc1 j v hj
    have Hc2 : Hid ((w.alloc (.cells #[.int .i64 (j : Int), .string t.x, .int .i64 t.v.k, .int .i64 t.v.n, .string t.v.s, .slice (some ⟨b1, o1, none⟩) 2 c] 36)).rangeAt b1 (o1 + 6) (expC ky A2 n2 a2)) := fun j v hj => by simpa using hc2 j v hj
    clear h1 h2 hc1 hc2 k1 k2 hA2 hra hrb HK HN IH hr hv hv1 hv2
    generalize hwb : (w.alloc (.cells #[.int .i64 (j : Int), .string t.x, .int .i64 t.v.k, .int .i64 t.v.n, .string t.v.s, .slice (some ⟨b1, o1, none⟩) 2 c] 36)) = wb at *
    have Hwb := Lib.hid hwb
    go_enter Tryz.func74, Tryz.ntmps74
    go_wp2_with fail
    try simp only [hwb]
    clear hwb
    go_wp2_with fail
    refine drawnJ3 mixed 11 54 [13, 14, 15, 16, 17, 18, 19, 20, 3, 4] (fun _ W => Below wb.heap.size wb W) (sxF (some ⟨b1, o1, none⟩) 2 c b1 o1 (expC kx A1 n1 a1) (expC ky A2 n2 a2) w.heap.size) (fun _ W W' => Below wb.heap.size W W')
      (twoJ wb.heap.size 36 8 9 10 3 4 (expC kx A1 n1 a1).toArray zxC.toArray) rfl (by kernel_rfl) (by kernel_rfl) rfl ⟨0, 0, (fun h => by cases h), (fun h => by cases h), (fun h => by cases h), (fun h => by cases h)⟩ (fun j _ => below_drewN _ 1 _) (fun i j v W W' _ _ _ h _ => by unfold sxF at h ⊢; exact h) (fun _ _ _ _ _ _ _ _ h h' => h.trans h') ?_ ?_
    · intro l i o2' fa W hJ hli hlw hi ho hd hsz hold hG _ hw
      have hr1 : fa.tmps[1]? = some (.pointer (some ⟨w.heap.size, 0, none⟩)) := hold 1 (by kernel_rfl)
      have hgX := (hG.block _ (Array.getElem?_eq_some_iff.1 Hrb.out).1).trans Hrb.out
      have f5 : W.cell? ⟨w.heap.size, 5, none⟩ = some (.slice (some ⟨b1, o1, none⟩) 2 c) := (cell_of_row _ _ 5 _ _ _ hgX).trans rfl
      clear hold
      match i, hi, ho with
      | 0, _, ho =>
        injection ho with ho; subst ho
        exact op_val _ (by simp [execOp, Act.eval, hr1, go_sem]) ⟨_, rfl, Below.refl _ _, rfl, fun l' h1 h2 => twoJ_val hJ (by decide) (by decide) (by decide) (by decide) (by decide) h1 h2⟩
      | 1, _, ho =>
        injection ho with ho; subst ho
        obtain ⟨v0, h0, e0'⟩ := hw 0 13 (by kernel_rfl)
        obtain rfl : v0 = _ := e0'
        exact op_val _ (by simp [execOp, Act.eval, h0, run_load1 Tryz.underlying34 f5]) ⟨_, rfl, Below.refl _ _, rfl, fun l' h1 h2 => twoJ_val hJ (by decide) (by decide) (by decide) (by decide) (by decide) h1 h2⟩
      | 2, _, ho =>
        injection ho with ho; subst ho
        obtain ⟨v0, h0, e0'⟩ := hw 1 14 (by kernel_rfl)
        obtain rfl : v0 = _ := e0'
        exact op_val _ (by simp [execOp, Act.eval, h0, go_sem]) ⟨_, rfl, Below.refl _ _, rfl, fun l' h1 h2 => twoJ_val hJ (by decide) (by decide) (by decide) (by decide) (by decide) h1 h2⟩
      | 3, _, ho =>
        injection ho with ho; subst ho
        obtain ⟨v0, h0, e0'⟩ := hw 2 15 (by kernel_rfl)
        obtain rfl : v0 = _ := e0'
        exact wp_load_mid 36 (.tmp 15) rfl _ _ (eval_tmp h0) (expC kx A1 n1 a1) _ (range_on Hc1.out hG) Tryz.underlying36 rfl (exp_size _ _ _ _) ⟨_, rfl, Below.refl _ _, rfl, fun l' h1 h2 => twoJ_val hJ (by decide) (by decide) (by decide) (by decide) (by decide) h1 h2⟩
      | 4, _, ho =>
        injection ho with ho; subst ho
        exact op_val _ (by simp [execOp, Act.eval, hr1, go_sem]) ⟨_, rfl, Below.refl _ _, rfl, fun l' h1 h2 => twoJ_val hJ (by decide) (by decide) (by decide) (by decide) (by decide) h1 h2⟩
      | 5, _, ho =>
        injection ho with ho; subst ho
        obtain ⟨v0, h0, e0'⟩ := hw 4 17 (by kernel_rfl)
        obtain rfl : v0 = _ := e0'
        exact op_val _ (by simp [execOp, Act.eval, h0, run_load1 Tryz.underlying34 f5]) ⟨_, rfl, Below.refl _ _, rfl, fun l' h1 h2 => twoJ_val hJ (by decide) (by decide) (by decide) (by decide) (by decide) h1 h2⟩
      | 6, _, ho =>
        injection ho with ho; subst ho
        obtain ⟨v0, h0, e0'⟩ := hw 5 18 (by kernel_rfl)
        obtain rfl : v0 = _ := e0'
        exact op_val _ (by simp [execOp, Act.eval, h0, go_sem]) ⟨_, rfl, Below.refl _ _, rfl, fun l' h1 h2 => twoJ_val hJ (by decide) (by decide) (by decide) (by decide) (by decide) h1 h2⟩
      | 7, _, ho =>
        injection ho with ho; subst ho
        obtain ⟨v0, h0, e0'⟩ := hw 6 19 (by kernel_rfl)
        obtain rfl : v0 = _ := e0'
        exact wp_load_mid 36 (.tmp 19) rfl _ _ (eval_tmp h0) (expC ky A2 n2 a2) _ (range_on Hc2.out hG) Tryz.underlying36 rfl (exp_size _ _ _ _) ⟨_, rfl, Below.refl _ _, rfl, fun l' h1 h2 => twoJ_val hJ (by decide) (by decide) (by decide) (by decide) (by decide) h1 h2⟩
      | 8, _, ho =>
        injection ho with ho; subst ho
        exact op_alloc 36 rfl zxC.toArray 6 (by kernel_rfl) ⟨_, rfl, below_al (Below.refl _ _) hG.size _, trivial, fun l' h1 h2 => twoJ_a0 hJ (by decide) (by decide) (by decide) (by rw [hsz]; decide) hG.size hli h1 h2⟩
      | 9, _, ho =>
        injection ho with ho; subst ho
        exact op_alloc 36 rfl zxC.toArray 6 (by kernel_rfl) ⟨_, rfl, below_al (Below.refl _ _) hG.size _, trivial, fun l' h1 h2 => twoJ_a1 hJ (by decide) (by decide) (by decide) (by rw [hsz]; decide) hG.size h1 h2⟩
      | 10, _, ho =>
        injection ho with ho; subst ho
        have hl8 : l 8 = true := hlw ⟨8, .data⟩ (by simp) rfl
        obtain ⟨v0, h0, e0'⟩ := hw 3 16 (by kernel_rfl)
        obtain rfl : v0 = _ := e0'
        obtain ⟨g, h, j1, j2, j3, j4⟩ := id hJ
        obtain ⟨t6, hBg, hgz, cs, hcs, hrow, -⟩ := j1 hl8
        exact wp_store_row 36 (.tmp 3) (.tmp 16) rfl g (expC kx A1 n1 a1).toArray (eval_tmp t6) (eval_tmp h0) 36 cs hrow (by kernel_rfl) (by rw [hcs]; rfl) (by simp [Value.oneCell']) ⟨undef, rfl, below_set (Below.refl _ _) hBg _, trivial, fun l' h1 h2 => twoJ_s hJ (by decide) (by decide) t6 rfl hl8 h1 h2⟩
      | n + 11, hi, _ => omega
    · intro l o2' u W tt hJ ht hlL ho hG hw
      have q0 := hw 7 20 (by decide) (by kernel_rfl)
      obtain ⟨g, h, t6', t7', hBg, hBh, hgh, hrow, cs2, hcs2, hrow2⟩ := twoJ_fin hJ (hlL 8 (by decide)) (hlL 9 (by decide)) (hlL 10 (by decide)) (ht 3 (by decide) (by decide)) (ht 4 (by decide) (by decide))
      injection ho with ho; subst ho
      clear hJ hlL ht
      simp only [List.foldl_cons, List.foldl_nil, Act.put, List.setIfInBounds_toArray, List.set_cons_zero, List.set_cons_succ]
      rw [show u 20 = Value.agg (expC ky A2 n2 a2).toArray from q0, t6', t7']
      refine wp_store_row 36 (.tmp 4) (.tmp 20) rfl h (expC ky A2 n2 a2).toArray rfl rfl 36 cs2 hrow2 (by kernel_rfl) (by rw [hcs2]; rfl) (by simp [Value.oneCell']) ?_
      have rX := Lib.hid ((setRow_ne (cs' := (expC ky A2 n2 a2).toArray) hgh).trans hrow)
      have rY := Lib.hid (setRow_at (cs' := (expC ky A2 n2 a2).toArray) hrow2)
      have hBW : Below wb.heap.size wb (W.setRow h (expC ky A2 n2 a2).toArray) := below_set hG hBh _
      have HBW := Lib.hid hBW
      clear hw q0 Hc1 Hc2 hG t6' t7' hrow hrow2 hcs2 hBW hBg hBh hgh
      generalize W.setRow _ _ = W2 at *
      simp only [Act.put]
      have HO := Lib.hid ((HBW.out.block _ (Array.getElem?_eq_some_iff.1 Hrb.out).1).trans Hrb.out)
      have D1 := Lib.hid (fun (V : World) (hb : Below W2.heap.size W2 V) (b : Bool) => within_any kx A1 n1 a1 b (expS k kx) V hla (fun V' hb' => HC1.out V' (below_next (below_next HBW.out hb) hb')))
      have D2 := Lib.hid (fun (V : World) (hb : Below W2.heap.size W2 V) (b : Bool) => within_any ky A2 n2 a2 b (expS k ky) V hlb (fun V' hb' => HC2.out V' (below_next (below_next HBW.out hb) hb')))
      obtain ⟨L, HL⟩ : ∃ L, Hid (L = inB (decide ((j : Int) = 3) && sumB kx) (expS k kx)) := ⟨_, rfl⟩
      obtain ⟨R, HR⟩ : ∃ R, Hid (R = inB (sumB ky || (decide ((j : Int) = 3) && decide (ky.op = 3))) (expS k ky)) := ⟨_, rfl⟩
      have HSS : Hid (S = L ++ [32] ++ opS (j : Int) ++ [32] ++ R) := by show _ = _; rw [HS.out, hS, HL.out, HR.out]
      have HLL : Hid (L.length ≤ 1000000002 ∧ R.length ≤ 1000000002) := by
        have h1 := inB_len (decide ((j : Int) = 3) && sumB kx) (expS k kx)
        have h2 := inB_len (sumB ky || (decide ((j : Int) = 3) && decide (ky.op = 3))) (expS k ky)
        rw [← HL.out] at h1
        rw [← HR.out] at h2
        exact ⟨by omega, by omega⟩
      have HJ := Lib.hid (And.intro ho1 ho3)
      have HDL := Lib.hid HL.out
      clear hS hl0 hlen hla hlb HS HC1 HC2 h0 e0 hkids ho1 ho3 c0 c1 c2 c3 c4 c5
      go_wp2_with fail
      go_cut [5] (fun v W => v = .string (bytes L) ∧ Below W2.heap.size W2 W)
      case first =>
        have HL2 := Lib.hid HL.out
        have k0 := (cell_of_row _ _ 0 _ _ _ HO.out).trans rfl
        have k1 := facts6 rX.out
        have Hk := Lib.hid (fun (V : World) (hb : Below W2.heap.size W2 V) => And.intro (below_cell hb k0) (And.intro (below_cell hb k1.1) (And.intro (below_cell hb k1.2.1) (And.intro (below_cell hb k1.2.2.1) (And.intro (below_cell hb k1.2.2.2.1) (And.intro (below_cell hb k1.2.2.2.2.1) (below_cell hb k1.2.2.2.2.2)))))))
        obtain ⟨m0, m1, m2, m3, m4, m5⟩ := k1
        have hb1 := Below.refl W2.heap.size W2
        have HS1 := Lib.hid (fun V => sum_any kx A1 n1 a1 V)
        clear HR HSS HLL HBW HW rX rY HO D2 HDL HL
        by_cases h3 : (j : Int) = 3
        · have q3 : ((j : Int) == 3) = true := by simp [h3]
          have HL3 : Hid (L = inB (sumB kx) (expS k kx)) := by show _ = _; rw [HL2.out, decide_eq_true h3]; rfl
          clear HL2 h3
          generalize sumB kx = sx at *
          go_region_held3 (fun w' => w'.cell? ⟨w.heap.size, 0, none⟩ = some (.int .i64 (j : Int)) ∧ w'.cell? ⟨g, 0, none⟩ = some (.int .i64 kx.op) ∧ w'.cell? ⟨g, 1, none⟩ = some (.string kx.t.x) ∧ w'.cell? ⟨g, 2, none⟩ = some (.int .i64 kx.t.v.k) ∧ w'.cell? ⟨g, 3, none⟩ = some (.int .i64 kx.t.v.n) ∧ w'.cell? ⟨g, 4, none⟩ = some (.string kx.t.v.s) ∧ w'.cell? ⟨g, 5, none⟩ = some (.slice A1 n1 a1))
            (first
          | (refine Hk.out _ ?_; (repeat (first | with_reducible exact Below.refl _ _ | with_reducible assumption | with_reducible refine Below.drew ?_ | with_reducible refine belowA ?_ _)); done)
          | go_keep)
            ((first
              | (go_at_call 117
                 refine (HS1.out _).mono ?_
                 rintro r wN ⟨rfl, hq1⟩
                 have hb1 : Below W2.heap.size W2 wN := by
                   refine below_next ?_ hq1
                   repeat (first | with_reducible exact Below.refl _ _ | with_reducible assumption | with_reducible refine Below.drew ?_ | with_reducible refine belowA ?_ _)
                 clear hq1)
              | (go_at_call 116
                 refine (D1.out _ (by repeat (first | with_reducible exact Below.refl _ _ | with_reducible assumption | with_reducible refine Below.drew ?_ | with_reducible refine belowA ?_ _)) _).mono ?_
                 rintro r wN ⟨rfl, hq1⟩
                 have hb1 : Below W2.heap.size W2 wN := by
                   refine below_next ?_ hq1
                   repeat (first | with_reducible exact Below.refl _ _ | with_reducible assumption | with_reducible refine Below.drew ?_ | with_reducible refine belowA ?_ _)
                 clear hq1)))
          go_wp2_with fail
          go_meet
          exact ⟨by rw [HL3.out], hb1⟩
        · have q3 : ((j : Int) == 3) = false := by simp [h3]
          have HL3 : Hid (L = inB false (expS k kx)) := by show _ = _; rw [HL2.out, decide_eq_false h3]; rfl
          clear HL2 h3
          first
          | (go_region_with ((first
               | (go_at_call 117
                  refine (HS1.out _).mono ?_
                  rintro r wN ⟨rfl, hq1⟩
                  have hb1 : Below W2.heap.size W2 wN := below_next (Below.drew (Below.refl _ _)) hq1
                  have k9 := Hk.out _ hb1
                  obtain ⟨n9, n0, n1, n2, n3, n4, n5⟩ := k9
                  clear hq1)
               | (go_at_call 116
                  refine (D1.out _ (by repeat (first | with_reducible assumption | with_reducible refine Below.drew ?_)) _).mono ?_
                  rintro r wM ⟨rfl, hq2⟩
                  have hb2 : Below W2.heap.size W2 wM := by
                    refine below_next ?_ hq2
                    repeat (first | with_reducible assumption | with_reducible refine Below.drew ?_)
                  clear hq2))))
          | fail
          all_goals
            go_wp2_with fail
            go_meet
            exact ⟨by rw [HL3.out], by assumption⟩
      case rest =>
        obtain ⟨rfl, hb5⟩ := hcut
        have HB5 := Lib.hid (below_next HBW.out hb5)
        have rYc := Lib.hid ((hb5.block _ (Array.getElem?_eq_some_iff.1 rY.out).1).trans rY.out)
        have HOc := Lib.hid ((hb5.block _ (Array.getElem?_eq_some_iff.1 HO.out).1).trans HO.out)
        have D3 := Lib.hid (fun (V : World) (hb : Below wc.heap.size wc V) (b : Bool) => D2.out V (below_next hb5 hb) b)
        clear D1 D2 rX rY HO HBW hb5 HL HDL
        go_wp2_with fail
        go_cut [6] (fun v W => v = .string (bytes R) ∧ Below wc.heap.size wc W)
        case first =>
          have HR2 := Lib.hid HR.out
          have k0 := (cell_of_row _ _ 0 _ _ _ HOc.out).trans rfl
          have k1 := facts6 rYc.out
          have Hk := Lib.hid (fun (V : World) (hb : Below wc.heap.size wc V) => And.intro (below_cell hb k0) (And.intro (below_cell hb k1.1) (And.intro (below_cell hb k1.2.1) (And.intro (below_cell hb k1.2.2.1) (And.intro (below_cell hb k1.2.2.2.1) (And.intro (below_cell hb k1.2.2.2.2.1) (below_cell hb k1.2.2.2.2.2)))))))
          obtain ⟨m0, m1, m2, m3, m4, m5⟩ := k1
          have hb1 := Below.refl wc.heap.size wc
          have HS1 := Lib.hid (fun V => sum_any ky A2 n2 a2 V)
          clear HR HSS HLL HW rYc HOc
          cases hsy : sumB ky with
          | true =>
            have HL3 : Hid (R = inB true (expS k ky)) := by show _ = _; rw [HR2.out, hsy]; rfl
            rw [hsy] at HS1
            clear HR2 hsy
            have hyu : undef = Value.tuple #[] := rfl
            first
            | (go_region_with ((first
                 | (go_at_call 117
                    refine (HS1.out _).mono ?_
                    rintro r wN ⟨rfl, hq1⟩
                    have hb1 : Below wc.heap.size wc wN := below_next (Below.drew (Below.refl _ _)) hq1
                    have k9 := Hk.out _ hb1
                    obtain ⟨n9, n0, n1, n2, n3, n4, n5⟩ := k9
                    clear hq1)
                 | (go_at_call 116
                    refine (D3.out _ (by repeat (first | with_reducible assumption | with_reducible refine Below.drew ?_)) _).mono ?_
                    rintro r wM ⟨rfl, hq2⟩
                    have hb2 : Below wc.heap.size wc wM := by
                      refine below_next ?_ hq2
                      repeat (first | with_reducible assumption | with_reducible refine Below.drew ?_)
                    clear hq2))))
            | fail
            all_goals
              go_wp2_with fail
              go_meet
              exact ⟨by rw [HL3.out], by assumption⟩
          | false =>
            rw [hsy] at HS1
            by_cases h3 : (j : Int) = 3
            · have q3 : ((j : Int) == 3) = true := by simp [h3]
              by_cases h4 : ky.op = 3
              · have q4 : (ky.op == 3) = true := by simp [h4]
                have HL3 : Hid (R = inB true (expS k ky)) := by show _ = _; rw [HR2.out, hsy, decide_eq_true h3, decide_eq_true h4]; rfl
                clear HR2 hsy h3 h4
                first
                | (go_region_with ((first
                     | (go_at_call 117
                        refine (HS1.out _).mono ?_
                        rintro r wN ⟨rfl, hq1⟩
                        have hb1 : Below wc.heap.size wc wN := below_next (Below.drew (Below.refl _ _)) hq1
                        have k9 := Hk.out _ hb1
                        obtain ⟨n9, n0, n1, n2, n3, n4, n5⟩ := k9
                        clear hq1)
                     | (go_at_call 116
                        refine (D3.out _ (by repeat (first | with_reducible assumption | with_reducible refine Below.drew ?_)) _).mono ?_
                        rintro r wM ⟨rfl, hq2⟩
                        have hb2 : Below wc.heap.size wc wM := by
                          refine below_next ?_ hq2
                          repeat (first | with_reducible assumption | with_reducible refine Below.drew ?_)
                        clear hq2))))
                | fail
                all_goals
                  go_wp2_with fail
                  go_meet
                  exact ⟨by rw [HL3.out], by assumption⟩
              · have q4 : (ky.op == 3) = false := by simp [h4]
                have HL3 : Hid (R = inB false (expS k ky)) := by show _ = _; rw [HR2.out, hsy, decide_eq_true h3, decide_eq_false h4]; rfl
                clear HR2 hsy h3 h4
                first
                | (go_region_with ((first
                     | (go_at_call 117
                        refine (HS1.out _).mono ?_
                        rintro r wN ⟨rfl, hq1⟩
                        have hb1 : Below wc.heap.size wc wN := below_next (Below.drew (Below.refl _ _)) hq1
                        have k9 := Hk.out _ hb1
                        obtain ⟨n9, n0, n1, n2, n3, n4, n5⟩ := k9
                        clear hq1)
                     | (go_at_call 116
                        refine (D3.out _ (by repeat (first | with_reducible assumption | with_reducible refine Below.drew ?_)) _).mono ?_
                        rintro r wM ⟨rfl, hq2⟩
                        have hb2 : Below wc.heap.size wc wM := by
                          refine below_next ?_ hq2
                          repeat (first | with_reducible assumption | with_reducible refine Below.drew ?_)
                        clear hq2))))
                | fail
                all_goals
                  go_wp2_with fail
                  go_meet
                  exact ⟨by rw [HL3.out], by assumption⟩
            · have q3 : ((j : Int) == 3) = false := by simp [h3]
              have HL3 : Hid (R = inB false (expS k ky)) := by show _ = _; rw [HR2.out, hsy, decide_eq_false h3]; rfl
              clear HR2 hsy h3
              first
              | (go_region_with ((first
                   | (go_at_call 117
                      refine (HS1.out _).mono ?_
                      rintro r wN ⟨rfl, hq1⟩
                      have hb1 : Below wc.heap.size wc wN := below_next (Below.drew (Below.refl _ _)) hq1
                      have k9 := Hk.out _ hb1
                      obtain ⟨n9, n0, n1, n2, n3, n4, n5⟩ := k9
                      clear hq1)
                   | (go_at_call 116
                      refine (D3.out _ (by repeat (first | with_reducible assumption | with_reducible refine Below.drew ?_)) _).mono ?_
                      rintro r wM ⟨rfl, hq2⟩
                      have hb2 : Below wc.heap.size wc wM := by
                        refine below_next ?_ hq2
                        repeat (first | with_reducible assumption | with_reducible refine Below.drew ?_)
                      clear hq2))))
              | fail
              all_goals
                go_wp2_with fail
                go_meet
                exact ⟨by rw [HL3.out], by assumption⟩
        case rest =>
          obtain ⟨rfl, hb6⟩ := hcut
          have HB6 := Lib.hid (below_next HB5.out hb6)
          have HO2 := (hb6.block _ (Array.getElem?_eq_some_iff.1 HOc.out).1).trans HOc.out
          have k0 := (cell_of_row _ _ 0 _ _ _ HO2).trans rfl
          have kO := (HW.out.on HB6.out).ops
          obtain ⟨hl1, hl2⟩ := HLL.out
          have e1 : (bytes L).size = L.length := rfl
          have e2 : (bytes R).size = R.length := rfl
          obtain ⟨hj1, hj3⟩ := HJ.out
          have i0 : (0 : Int) ≤ (j : Int) := by omega
          have i1 : (j : Int) < 4 := by omega
          obtain ⟨P, hP, hPl⟩ : ∃ P : List UInt8, opsL[j]? = some P ∧ P = opS (j : Int) := by
            have : j = 1 ∨ j = 2 ∨ j = 3 := by omega
            rcases this with rfl | rfl | rfl <;> exact ⟨_, rfl, rfl⟩
          have hp1 : P.length ≤ 1 := by rw [hPl]; exact Nat.le_of_eq (opS_len _)
          have kO2 := kO.cell hP
          have e3 : (bytes P).size = P.length := rfl
          have HSE : Hid (bytes S = bytes L ++ ⟨#[32]⟩ ++ bytes P ++ ⟨#[32]⟩ ++ bytes R) := by
            show _ = bytes L ++ bytes [32] ++ bytes P ++ bytes [32] ++ bytes R
            rw [HSS.out, bytes_app, bytes_app, bytes_app, bytes_app, hPl]
          generalize bytes L = sl at *
          generalize bytes R = sr at *
          generalize bytes P = sp at *
          have z1 : ¬ (9223372036854775807 < sl.size + 1) := by omega
          have z2 : ¬ (9223372036854775807 < sl.size + 1 + sp.size) := by omega
          have z3 : ¬ (9223372036854775807 < sl.size + 1 + sp.size + 1) := by omega
          have z4 : ¬ (9223372036854775807 < sl.size + 1 + sp.size + 1 + sr.size) := by omega
          clear HSS HLL hl1 hl2 e1 e2 e3 hp1 hPl hP kO HO2 HOc rYc HB5 hb6 HR HW D3
          go_wp2_with fail
          go_ret
          exact ⟨by rw [HSE.out]; rfl, below_next Hba.out HB6.out⟩
end Go.Proofs.YtplekbpmfaghbaaGreatDoor

/- The frame of the rows on shown texts: the three tables and two errors of the library, the lists of packages lex and show. -/
namespace Go.Proofs.YtplekbpmfaghbaaGreatDoor
open Go.ChangeShapes Go.WideShapes Go.ChangeAt Go.RowKit
set_option linter.unusedVariables false

def laidS {H : Type} : List (String × DataW H) := [("math/bits.deBruijn32tab", Rows.laid_math_bits_deBruijn32tab), ("math/bits.deBruijn64tab", Rows.laid_math_bits_deBruijn64tab), ("internal/strconv.uint64pow10", Rows.laid_internal_strconv_uint64pow10), ("strconv.ErrRange", Rows.laid_strconv_ErrRange), ("strconv.ErrSyntax", Rows.laid_strconv_ErrSyntax), ("corollary/lex.keys", Rows.laid_corollary_lex_keys), ("corollary/lex.signs", Rows.laid_corollary_lex_signs), ("corollary/show.aggs", Rows.laid_corollary_show_aggs), ("corollary/show.signs", Rows.laid_corollary_show_signs), ("corollary/show.ops", Rows.laid_corollary_show_ops)]
/-- the first seven of a laid list -/
theorem lexW_of_seven {W : World} {rest : List (String × DataW Unit)} (h : laidMet Tryz.prog (("math/bits.deBruijn32tab", Rows.laid_math_bits_deBruijn32tab) :: ("math/bits.deBruijn64tab", Rows.laid_math_bits_deBruijn64tab) :: ("internal/strconv.uint64pow10", Rows.laid_internal_strconv_uint64pow10) :: ("strconv.ErrRange", Rows.laid_strconv_ErrRange) :: ("strconv.ErrSyntax", Rows.laid_strconv_ErrSyntax) :: ("corollary/lex.keys", Rows.laid_corollary_lex_keys) :: ("corollary/lex.signs", Rows.laid_corollary_lex_signs) :: rest) W) : LexW W := by
  have h3 := laidMet.tail (laidMet.tail (laidMet.tail h))
  have h5 := laidMet.tail (laidMet.tail h3)
  have h6 := laidMet.tail h5
  refine ⟨TabW.of (Lib.tabIs_of_head gP gPT Tryz.underlying291 Tryz.underlying277 (by kernel_rfl) (by kernel_rfl) (rest := ("strconv.ErrRange", Rows.laid_strconv_ErrRange) :: ("strconv.ErrSyntax", Rows.laid_strconv_ErrSyntax) :: ("corollary/lex.keys", Rows.laid_corollary_lex_keys) :: ("corollary/lex.signs", Rows.laid_corollary_lex_signs) :: rest) (by rw [← pow_eq]; exact laidMet.tail (laidMet.tail h))), ?_, ?_, ?_⟩
  · obtain ⟨a0, s0, hv0, -, -, -⟩ := laid_sentinel h3 gER gERT Tryz.underlying57 rowES Tryz.underlying303 Tryz.underlying305 rfl rfl Tryz.underlying9 cellsES cellsStr
    obtain ⟨a1, s1, hv1, -, -, -⟩ := laid_sentinel (laidMet.tail h3) gES gEST Tryz.underlying57 rowES Tryz.underlying303 Tryz.underlying305 rfl rfl Tryz.underlying9 cellsES cellsStr
    exact ⟨⟨_, _, by have h0 := World.var?_cell gES hv1 0; simpa using h0⟩, ⟨_, _, by have h0 := World.var?_cell gER hv0 0; simpa using h0⟩⟩
  · rw [keys_eq] at h5
    exact strs_of_head gK gKT Tryz.underlying275 Tryz.underlying9 (by kernel_rfl) (by kernel_rfl) h5
  · rw [signs_eq] at h6
    exact strs_of_head gS gST Tryz.underlying271 Tryz.underlying9 (by kernel_rfl) (by kernel_rfl) h6
theorem saggs_eq {H : Type} : (Rows.laid_corollary_show_aggs : DataW H) = strsData aggsL := rfl
theorem ssigns_eq {H : Type} : (Rows.laid_corollary_show_signs : DataW H) = strsData sgnsL := rfl
theorem sops_eq {H : Type} : (Rows.laid_corollary_show_ops : DataW H) = strsData opsL := rfl
theorem gSA : Tryz.prog.globalNamed "corollary/show.aggs" = some 2 := by kernel_rfl
theorem gSAT : (Tryz.prog.globals[2]?).map (·.type) = some 227 := by kernel_rfl
theorem gSS : Tryz.prog.globalNamed "corollary/show.signs" = some 0 := by kernel_rfl
theorem gSST : (Tryz.prog.globals[0]?).map (·.type) = some 193 := by kernel_rfl
theorem gSO : Tryz.prog.globalNamed "corollary/show.ops" = some 1 := by kernel_rfl
theorem gSOT : (Tryz.prog.globals[1]?).map (·.type) = some 196 := by kernel_rfl
theorem lexW_of_laidS {W : World} (h : laidMet Tryz.prog laidS W) : LexW W := lexW_of_seven h
theorem showW_of_laidS {W : World} (h : laidMet Tryz.prog laidS W) : ShowW W := by
  have hL := lexW_of_laidS h
  have h7 := laidMet.tail (laidMet.tail (laidMet.tail (laidMet.tail (laidMet.tail (laidMet.tail (laidMet.tail h))))))
  have h8 := laidMet.tail h7
  have h9 := laidMet.tail h8
  rw [saggs_eq] at h7
  rw [ssigns_eq] at h8
  rw [sops_eq] at h9
  exact ⟨hL.tab, strs_of_head gSO gSOT Tryz.underlying196 Tryz.underlying9 (by kernel_rfl) (by kernel_rfl) h9, strs_of_head gSS gSST Tryz.underlying193 Tryz.underlying9 (by kernel_rfl) (by kernel_rfl) h8, strs_of_head gSA gSAT Tryz.underlying227 Tryz.underlying9 (by kernel_rfl) (by kernel_rfl) h7⟩
theorem u_rule : ∃ fs, Tryz.prog.underlying 27 = some (.struct fs) := ⟨_, Tryz.underlying27⟩
theorem u_lit : ∃ fs, Tryz.prog.underlying 38 = some (.struct fs) := ⟨_, Tryz.underlying38⟩
noncomputable def laidWorldS (os : Os) : World :=
  let w0 := World.holding Tryz.prog os ⟨#[.cells #[.string synS] 305, .cells #[.string rngS] 305], #[], []⟩
  let put (h : Array Obj) (g : Nat) (cs : Array Value) : Array Obj := h.modify g fun
    | .cells _ t frozen => .cells cs t frozen
    | o => o
  let tab (d : DataW Unit) : Array Value := match d with
    | .agg l => (l.map fun | .lit (.int k n) => Value.int k n | .lit (.string s) => Value.string ⟨s.toArray⟩ | _ => undef).toArray
    | _ => #[]
  let h1 := put w0.heap 11 (tab Rows.laid_math_bits_deBruijn32tab)
  let h2 := put h1 12 (tab Rows.laid_math_bits_deBruijn64tab)
  let h3 := put h2 8 (tab Rows.laid_internal_strconv_uint64pow10)
  let h4 := put h3 9 #[.iface 303 (.pointer (some ⟨low, 0, none⟩))]
  let h5 := put h4 10 #[.iface 303 (.pointer (some ⟨low + 1, 0, none⟩))]
  let h6 := put h5 7 (tab Rows.laid_corollary_lex_keys)
  let h7 := put h6 5 (tab Rows.laid_corollary_lex_signs)
  let h8 := put h7 2 (tab Rows.laid_corollary_show_aggs)
  let h9 := put h8 0 (tab Rows.laid_corollary_show_signs)
  let h10 := put h9 1 (tab Rows.laid_corollary_show_ops)
  { w0 with heap := h10 }
set_option maxRecDepth 100000 in
theorem laidWorldS_met (os : Os) (args : Array Value) : laidMet Tryz.prog laidS ((laidWorldS os).forCall (fun _ _ => 0) ⟨#[], args, []⟩).memory :=
  laidMet_of_run' 8 (by kernel_rfl) (by kernel_rfl)
end Go.Proofs.YtplekbpmfaghbaaGreatDoor

/- show.things: terms with commas between, one of them aggregated. -/
namespace Go.Proofs.YtplekbpmfaghbaaGreatDoor
open Go.RowKit

theorem sumLen_mem {x : List UInt8} : ∀ {xs : List (List UInt8)}, x ∈ xs → x.length ≤ sumLen xs
  | y :: ys, h => by
    rw [sumLen]
    rcases List.mem_cons.1 h with rfl | h
    · omega
    · have := sumLen_mem h; omega
theorem join_ge : ∀ (xs : List (List UInt8)) (x : List UInt8), x ∈ xs → x.length ≤ (Lib.join xs sep2).length
  | [a], x, h => by rw [join_one]; simp at h; rw [h]; exact Nat.le_refl _
  | a :: b :: r, x, h => by
    rw [join_two]
    simp only [List.length_append]
    rcases List.mem_cons.1 h with rfl | h
    · omega
    · have := join_ge (b :: r) x h; omega
theorem aggL_at {g : Nat} (h1 : 1 ≤ g) (h4 : g ≤ 4) : aggsL[g]? = some (aggS (g : Int)) := by
  have : g = 1 ∨ g = 2 ∨ g = 3 ∨ g = 4 := by omega
  rcases this with rfl | rfl | rfl | rfl <;> rfl

set_option maxRecDepth 100000 in
set_option maxHeartbeats 4000000 in
theorem things_any (g : Nat) (col : Int) (A : Option Addr) (n c : Nat) (l : List GTold) (w : World) (ht : SliceIs Enc.told w w.heap.size A n c l) (hW : ShowW w) (hg : g ≤ 4) (hn : n ≤ 100000) (hlen : (thingsS (g : Int) col l).length ≤ 1000000000) :
    Calls Tryz.prog 111 #[.slice A n c, .int .i64 (g : Int), .int .i64 col] w (RetV (.string (bytes (thingsS (g : Int) col l))) w) := by
  have Hlen := Lib.hid ht.1
  have HT := Lib.hid ht
  have HW := Lib.hid hW
  obtain ⟨S, HS⟩ : ∃ S, Hid (S = thingsS (g : Int) col l) := ⟨_, rfl⟩
  rw [← HS.out]
  have HE : Hid (S = [40] ++ Lib.join (thingsL (g : Int) col 0 l) sep2 ++ [41]) := by rw [HS.out]; rfl
  have HL : Hid ((Lib.join (thingsL (g : Int) col 0 l) sep2).length ≤ 1000000000) := by
    show _ ≤ _
    have h := hlen
    unfold thingsS at h
    simp only [List.length_append] at h
    omega
  have HLt : Hid (∀ (i : Nat) (t : GTold), l[i]? = some t → (thing (g : Int) col i t).length ≤ 1000000000) := fun i t hi => by
    have h1 := thingsL_get (g : Int) col l 0 i t hi
    rw [Nat.zero_add] at h1
    exact Nat.le_trans (join_ge _ _ (List.mem_of_getElem? h1)) HL.out
  clear ht hW hlen HS
  go_enter Tryz.func111, Tryz.ntmps111
  go_wp2_with fail
  go_loopw [7, 8, 9, 10, 13] (fun v _ _ _ i wr => ∃ k A' c', k ≤ n ∧ v = .slice A' k c' ∧ i = .int .i64 k ∧ Hid (wr.ownsRow w.heap.size 9 1 (.slice A' k c') k ((thingsL (g : Int) col 0 (l.take k)).map fun s => .string (bytes s))) ∧ Below w.heap.size w wr) (fun _ _ _ _ i _ => n - (intOf i).toNat)
  case atStart => exact ⟨0, none, 0, by omega, rfl, rfl, World.ownsRow_nil _ _ _ _, Below.refl _ _⟩
  case round =>
    obtain ⟨k, A', c', hk, rfl, rfl, how, hbr⟩ := hrel
    have i0 : (0 : Int) ≤ (k : Int) := by omega
    by_cases hlt : k < n
    · have i1 : (k : Int) < (n : Int) := by omega
      obtain ⟨b, o, x, rfl, _, hx, x0, x1, x2, x3, hxo, hxv⟩ := (HT.out.below hbr).told_at hlt
      have HC := Lib.hid (fun (W : World) (hb : Below w.heap.size w W) => shown_any x hxv.2.1 W (HW.out.on hb).tab)
      have HAg := Lib.hid (fun (W : World) (hb : Below w.heap.size w W) => (HW.out.on hb).aggs)
      have HSt : Hid ((thingsL (g : Int) col 0 (l.take (k + 1))).map (fun s => Value.string (bytes s)) = (thingsL (g : Int) col 0 (l.take k)).map (fun s => .string (bytes s)) ++ [.string (bytes (thing (g : Int) col k x))]) := by
        show _ = _
        rw [thingsL_take _ _ hx.out]; simp
      have HTh := Lib.hid (HLt.out k x hx.out)
      have hbx := belowA hbr (.cells #[.string x.x, .int .i64 x.v.k, .int .i64 x.v.n, .string x.v.s] 33)
      have HOw := Lib.hid (how.out.alloc (.cells #[.string x.x, .int .i64 x.v.k, .int .i64 x.v.n, .string x.v.s] 33))
      have HBx := Lib.hid hbx
      clear hx hxo hxv how hbr hbx
      go_wp2_with fail
      refine (HC.out _ HBx.out).mono ?_
      rintro r w2 ⟨rfl, hq2⟩
      have HBw := Lib.hid (below_next HBx.out hq2)
      have HO2 := Lib.hid (own_below HOw.out hq2)
      have HPu : Hid (∀ (s : List UInt8), ∃ A2 c2 w', (∀ ty, (Builtin.append_ #[81, 81] ty #[.slice A' k c', .slice (some ⟨w2.heap.size, 0, none⟩) 1 1]).run Tryz.prog (w2.alloc (.cells #[.string (bytes s)] 9)) = .ok (.slice A2 (k + 1) c2) w') ∧ w'.ownsRow w.heap.size 9 1 (.slice A2 (k + 1) c2) (k + 1) (((thingsL (g : Int) col 0 (l.take k)).map fun s => .string (bytes s)) ++ [.string (bytes s)]) ∧ Below w.heap.size w w') := fun s => by
        obtain ⟨v', w', h1, h2, h3⟩ := str_push (bytes s) (by omega) HBw.out HO2.out
        obtain ⟨A2, c2, rfl⟩ := own_form h2
        exact ⟨A2, c2, w', h1, h2, h3⟩
      clear HC HOw HBx hq2 HO2 x0 x1 x2 x3
      by_cases hc : 0 < (g : Int) ∧ (k : Int) = col
      · obtain ⟨q1, q2'⟩ := hc
        have q2 : ((k : Int) == col) = true := by simp [q2']
        have j0 : (0 : Int) ≤ (g : Int) := by omega
        have j1 : (g : Int) < 5 := by omega
        have HAc := (HAg.out _ HBw.out).cell (aggL_at (by omega) hg)
        have hthl := HTh.out
        have HTe : Hid (bytes (thing (g : Int) col k x) = bytes (aggS (g : Int)) ++ ⟨#[40]⟩ ++ bytes (shownT x) ++ ⟨#[41]⟩) := by
          show _ = bytes (aggS (g : Int)) ++ bytes [40] ++ bytes (shownT x) ++ bytes [41]
          rw [bytes_app, bytes_app, bytes_app]
          unfold thing
          rw [if_pos ⟨q1, q2'⟩]
        obtain ⟨A2, c2, w', hrun, hown', hb'⟩ := HPu.out (thing (g : Int) col k x)
        rw [← HSt.out] at hown'
        rw [HTe.out] at hrun
        have e1 := congrArg ByteArray.size HTe.out
        simp only [ByteArray.size_append, bytes_size] at e1
        have e2 : (bytes (aggS (g : Int))).size = (aggS (g : Int)).length := rfl
        have e3 : (bytes (shownT x)).size = (shownT x).length := rfl
        have e4 : (⟨#[40]⟩ : ByteArray).size = 1 := rfl
        have e5 : (⟨#[41]⟩ : ByteArray).size = 1 := rfl
        rw [e4, e5] at e1
        have hz1 : ¬ (9223372036854775807 < (bytes (aggS (g : Int))).size + 1) := by omega
        have hz2 : ¬ (9223372036854775807 < (bytes (aggS (g : Int))).size + 1 + (bytes (shownT x)).size) := by omega
        have hz3 : ¬ (9223372036854775807 < (bytes (aggS (g : Int))).size + 1 + (bytes (shownT x)).size + 1) := by omega
        have HRun := Lib.hid hrun
        have HOn := Lib.hid hown'
        have HBn := Lib.hid hb'
        clear hrun hown' hb' HPu HTe e1 e2 e3 e4 e5 hthl HTh HSt HAg q2'
        generalize bytes (aggS (g : Int)) = sa at *
        generalize bytes (shownT x) = sx at *
        go_wp2_with (at_builtin; refine wpList_append_run rfl _ _ _ rfl _ _ rfl rfl (HRun.out _) ?_)
        go_roundw
        case rel => exact ⟨k + 1, A2, c2, by omega, rfl, by go_num, HOn.out, HBn.out⟩
        case measure => simp [intOf]; omega
      · have HTe : Hid (thing (g : Int) col k x = shownT x) := by show _ = _; unfold thing; rw [if_neg hc]
        obtain ⟨A2, c2, w', hrun, hown', hb'⟩ := HPu.out (shownT x)
        have hs := HSt.out
        rw [HTe.out] at hs
        rw [← hs] at hown'
        have HRun := Lib.hid hrun
        have HOn := Lib.hid hown'
        have HBn := Lib.hid hb'
        clear hrun hown' hb' HPu HTe hs HTh HSt HAg
        generalize bytes (shownT x) = sx at *
        by_cases q1 : 0 < (g : Int)
        · have q2 : ((k : Int) == col) = false := by
            rw [beq_eq_false_iff_ne]; exact fun e => hc ⟨q1, e⟩
          clear hc
          go_wp2_with (at_builtin; refine wpList_append_run rfl _ _ _ rfl _ _ rfl rfl (HRun.out _) ?_)
          go_roundw
          case rel => exact ⟨k + 1, A2, c2, by omega, rfl, by go_num, HOn.out, HBn.out⟩
          case measure => simp [intOf]; omega
        · clear hc
          go_wp2_with (at_builtin; refine wpList_append_run rfl _ _ _ rfl _ _ rfl rfl (HRun.out _) ?_)
          go_roundw
          case rel => exact ⟨k + 1, A2, c2, by omega, rfl, by go_num, HOn.out, HBn.out⟩
          case measure => simp [intOf]; omega
    · have i1 : ¬ (k : Int) < (n : Int) := by omega
      obtain rfl : k = n := by omega
      have hown := how.out
      rw [List.take_of_length_le (by have := Hlen.out; omega)] at hown
      have HJ := Lib.hid (sjoin_any A' k c' (thingsL (g : Int) col 0 l) wr (by rw [thingsL_len]; exact Hlen.out) (by have := HL.out; omega) (by omega) hown)
      have hjl := HL.out
      generalize Lib.join (thingsL (g : Int) col 0 l) sep2 = jl at HJ HE hjl
      clear how hown HL HLt HW
      go_wp2_with fail
      refine HJ.out.mono ?_
      rintro r w2 ⟨rfl, hq2⟩
      have hbw := below_next hbr hq2
      clear hq2 HJ
      have HSE : Hid (bytes S = ⟨#[40]⟩ ++ bytes jl ++ ⟨#[41]⟩) := by
        show _ = bytes [40] ++ bytes jl ++ bytes [41]
        rw [HE.out, bytes_app, bytes_app]
      have hsz : (bytes jl).size ≤ 1000000000 := hjl
      generalize bytes jl = js at *
      have hz1 : ¬ (9223372036854775807 < 1 + js.size) := by omega
      have hz2 : ¬ (9223372036854775807 < js.size + 1) := by omega
      have hz3 : ¬ (9223372036854775806 < js.size) := by omega
      have hz4 : ¬ (9223372036854775807 < 1 + js.size + 1) := by omega
      go_wp2_with fail
      go_ret
      exact ⟨by rw [HSE.out]; rfl, hbw⟩
end Go.Proofs.YtplekbpmfaghbaaGreatDoor

/- The document's Term and Exp: texts. -/
namespace Go.Proofs.YtplekbpmfaghbaaGreatDoor
open Go.RowKit

set_option maxRecDepth 100000 in
set_option maxHeartbeats 1000000 in
theorem refShown_any (t : GTold) (hv : t.v.ok) (hx : t.x.size ≤ reachN) (w : World) : Calls Tryz.prog 79 #[toldV t] w (RetV (.string (bytes (shownT t))) w) := by
  obtain ⟨S, HS⟩ : ∃ S, Hid (S = shownT t) := ⟨_, rfl⟩
  rw [← HS.out]
  have hrb : (w.alloc (.cells #[.string t.x, .int .i64 t.v.k, .int .i64 t.v.n, .string t.v.s] 48)).heap[w.heap.size]? = some (.cells #[.string t.x, .int .i64 t.v.k, .int .i64 t.v.n, .string t.v.s] 48 (0, 0)) := heapNew rfl
  have hba : Below w.heap.size w (w.alloc (.cells #[.string t.x, .int .i64 t.v.k, .int .i64 t.v.n, .string t.v.s] 48)) := belowA (Below.refl _ _) _
  have HR := Lib.hid (fun W => refText_any t.v hv W)
  have hx' : t.x.size ≤ 140737488351232 := hx
  obtain ⟨b0, b1, b2, b3⟩ := facts4 hrb
  by_cases h0 : t.x.size = 0
  · have e0 : ¬ (0 : Int) < (t.x.size : Int) := by omega
    have HE : Hid (S = textOf t.v) := by show _ = _; rw [HS.out]; simp [shownT, h0]
    clear h0 HS hx hx' hv
    go_enter Tryz.func79, Tryz.ntmps79
    go_wp2_with fail
    refine (HR.out _).mono ?_
    rintro e w1 ⟨rfl, hb⟩
    have Hb := Lib.hid hb
    clear hb
    go_wp2_with fail
    go_ret
    exact ⟨by rw [HE.out]; rfl, below_next hba Hb.out⟩
  · have e0 : (0 : Int) < (t.x.size : Int) := by omega
    have HE : Hid (bytes S = t.x) := by show _ = _; rw [HS.out]; simp only [shownT, if_neg h0]; exact bytes_of _
    clear h0 HS HR hx hx' hv
    go_enter Tryz.func79, Tryz.ntmps79
    go_wp2_with fail
    go_ret
    exact ⟨by rw [HE.out]; rfl, hba⟩

theorem sum_eq (e : GExp) : sumB e = ((e.op == 1) || (e.op == 2)) := by
  unfold sumB
  by_cases h1 : e.op = 1
  · simp [h1]
  · by_cases h2 : e.op = 2
    · simp [h2]
    · have : ¬ (0 < e.op ∧ e.op < 3) := by omega
      simp only [Bool.or_self, beq_eq_false_iff_ne.2 h1, beq_eq_false_iff_ne.2 h2]
      simp only [Bool.and_eq_false_iff, decide_eq_false_iff_not]
      omega

set_option maxRecDepth 100000 in
set_option maxHeartbeats 4000000 in
theorem refExp2_any : ∀ (k : Nat) (e : GExp) (A : Option Addr) (n c d : Nat) (w : World), rightE k e = true → SliceIs (Enc.exp d) w w.heap.size A n c e.kids → e.t.v.ok → e.t.x.size ≤ reachN → (expS k e).length ≤ 1000000000 →
    Calls Tryz.prog 29 #[expV e A n c] w (RetV (.string (bytes (expS k e))) w) := by
  intro k
  induction k using Nat.strongRecOn with
  | ind k ih =>
    intro e A n c d w hr hk hv hx hlen
    obtain ⟨o, t, ks⟩ := e
    replace hk : SliceIs (Enc.exp d) w w.heap.size A n c ks := hk
    replace hv : t.v.ok := hv
    replace hx : t.x.size ≤ reachN := hx
    show Calls Tryz.prog 29 #[.agg #[.int .i64 o, .string t.x, .int .i64 t.v.k, .int .i64 t.v.n, .string t.v.s, .slice A n c]] w (RetV (.string (bytes (expS k (.mk o t ks)))) w)
    have mixed : Tryz.prog.follows .mixedOrders = true := by kernel_rfl
    have IH := Lib.hid ih
    obtain ⟨S, HS⟩ : ∃ S, Hid (S = expS k (.mk o t ks)) := ⟨_, rfl⟩
    rw [← HS.out]
    have hrb : (w.alloc (.cells #[.int .i64 o, .string t.x, .int .i64 t.v.k, .int .i64 t.v.n, .string t.v.s, .slice A n c] 51)).heap[w.heap.size]? = some (.cells #[.int .i64 o, .string t.x, .int .i64 t.v.k, .int .i64 t.v.n, .string t.v.s, .slice A n c] 51 (0, 0)) := heapNew rfl
    have hba : Below w.heap.size w (w.alloc (.cells #[.int .i64 o, .string t.x, .int .i64 t.v.k, .int .i64 t.v.n, .string t.v.s, .slice A n c] 51)) := belowA (Below.refl _ _) _
    have HK := Lib.hid (hk.keep hba)
    have HN := Lib.hid hk.1
    obtain ⟨c0, c1, c2, c3, c4, c5⟩ := facts6 hrb
    have Hrb := Lib.hid hrb
    have Hba := Lib.hid hba
    clear ih hk hrb hba
    by_cases h0 : o = 0
    · have e0 : (o == 0) = true := by simp [h0]
      have HE : Hid (S = shownT t) := by show _ = _; rw [HS.out, expS_leaf (e := .mk o t ks) h0]; rfl
      have HC := Lib.hid (fun W => refShown_any t hv hx W)
      clear HS h0 hr hlen HK HN IH hx hv
      go_enter Tryz.func29, Tryz.ntmps29
      go_wp2_with fail
      refine (HC.out _).mono ?_
      rintro r w1 ⟨rfl, hb⟩
      have Hb := Lib.hid hb
      clear hb HC
      go_wp2_with fail
      go_ret
      exact ⟨by rw [HE.out]; rfl, below_next Hba.out Hb.out⟩
    have hkids0 := rightE_parts (e := .mk o t ks) h0 hr
    obtain ⟨k, ka, kb, rfl, hkids, ho1, ho3, hra, hrb⟩ := hkids0
    replace ho1 : 1 ≤ o := ho1
    replace ho3 : o ≤ 3 := ho3
    replace hkids : ks = [ka, kb] := hkids
    have e0 : (o == 0) = false := by simp [h0]
    obtain ⟨j, hj⟩ : ∃ j : Nat, o = (j : Int) := ⟨o.toNat, by omega⟩
    subst hj
    have hn2 : n = 2 := by have := HN.out; rw [hkids] at this; simpa using this.symm
    subst hn2
    obtain ⟨b1, o1, kx, cs1, hA1, _, h1, ok1, hc1⟩ := HK.out.at_ (show 0 < 2 by omega)
    obtain ⟨b2, o2, ky, cs2, hA2, _, h2, ok2, hc2⟩ := HK.out.at_ (show 1 < 2 by omega)
    obtain rfl : kx = ka := by have := h1.out; rw [hkids] at this; simpa using this.symm
    obtain rfl : ky = kb := by have := h2.out; rw [hkids] at this; simpa using this.symm
    obtain rfl : A = _ := hA1
    obtain ⟨rfl, rfl⟩ : b1 = b2 ∧ o1 = o2 := by injection hA2 with h; injection h with h h'; exact ⟨h, h'⟩
    rw [Enc.exp_sz] at hc1 hc2
    obtain ⟨g, rfl⟩ : ∃ g, d = g + 1 := by cases d with
      | zero => exact ok1.elim
      | succ g => exact ⟨g, rfl⟩
    obtain ⟨A1, n1, a1, rfl, -, hx1, hv1, k1⟩ := ok1
    obtain ⟨A2, n2, a2, rfl, -, hx2, hv2, k2⟩ := ok2
    have hS : expS (k + 1) (.mk (j : Int) t ks) = inB (decide ((j : Int) = 3) && sumB kx) (expS k kx) ++ [32] ++ opS (j : Int) ++ [32] ++ inB (sumB ky || (decide ((j : Int) = 3) && decide (ky.op = 3))) (expS k ky) := expS_two (e := .mk (j : Int) t ks) h0 hkids
    have hl0 := hlen
    rw [hS] at hl0
    have hla : (expS k kx).length ≤ 1000000000 := by
      have : (expS k kx).length ≤ (inB (decide ((j : Int) = 3) && sumB kx) (expS k kx)).length := inB_ge _ _
      simp only [List.length_append] at hl0
      omega
    have hlb : (expS k ky).length ≤ 1000000000 := by
      have : (expS k ky).length ≤ (inB (sumB ky || (decide ((j : Int) = 3) && decide (ky.op = 3))) (expS k ky)).length := inB_ge _ _
      simp only [List.length_append] at hl0
      omega
    have HC1 := Lib.hid (fun (W : World) (hb : Below (w.alloc (.cells #[.int .i64 (j : Int), .string t.x, .int .i64 t.v.k, .int .i64 t.v.n, .string t.v.s, .slice (some ⟨b1, o1, none⟩) 2 c] 51)).heap.size (w.alloc (.cells #[.int .i64 (j : Int), .string t.x, .int .i64 t.v.k, .int .i64 t.v.n, .string t.v.s, .slice (some ⟨b1, o1, none⟩) 2 c] 51)) W) => IH.out k (by omega) kx A1 n1 a1 g W hra (k1.keep hb) hv1 hx1 hla)
    have HC2 := Lib.hid (fun (W : World) (hb : Below (w.alloc (.cells #[.int .i64 (j : Int), .string t.x, .int .i64 t.v.k, .int .i64 t.v.n, .string t.v.s, .slice (some ⟨b1, o1, none⟩) 2 c] 51)).heap.size (w.alloc (.cells #[.int .i64 (j : Int), .string t.x, .int .i64 t.v.k, .int .i64 t.v.n, .string t.v.s, .slice (some ⟨b1, o1, none⟩) 2 c] 51)) W) => IH.out k (by omega) ky A2 n2 a2 g W hrb (k2.keep hb) hv2 hx2 hlb)
    obtain ⟨L, HL⟩ : ∃ L, Hid (L = inB (decide ((j : Int) = 3) && sumB kx) (expS k kx)) := ⟨_, rfl⟩
    obtain ⟨R, HR⟩ : ∃ R, Hid (R = inB (sumB ky || (decide ((j : Int) = 3) && decide (ky.op = 3))) (expS k ky)) := ⟨_, rfl⟩
    have HSS : Hid (S = L ++ [32] ++ opS (j : Int) ++ [32] ++ R) := by show _ = _; rw [HS.out, hS, HL.out, HR.out]
    have HLL : Hid (L.length ≤ 1000000002 ∧ R.length ≤ 1000000002 ∧ (expS k kx).length ≤ 1000000000 ∧ (expS k ky).length ≤ 1000000000) := by
      have h1 := inB_len (decide ((j : Int) = 3) && sumB kx) (expS k kx)
      have h2 := inB_len (sumB ky || (decide ((j : Int) = 3) && decide (ky.op = 3))) (expS k ky)
      rw [← HL.out] at h1
      rw [← HR.out] at h2
      exact ⟨by omega, by omega, hla, hlb⟩
    have HJ := Lib.hid (And.intro ho1 ho3)
    have x0 := hc1 0 _ rfl
    have x1 := hc1 1 _ rfl
    have x2 := hc1 2 _ rfl
    have x3 := hc1 3 _ rfl
    have x4 := hc1 4 _ rfl
    have x5 := hc1 5 _ rfl
    have y0 := hc2 0 _ rfl
    have y1 := hc2 1 _ rfl
    have y2 := hc2 2 _ rfl
    have y3 := hc2 3 _ rfl
    have y4 := hc2 4 _ rfl
    have y5 := hc2 5 _ rfl
    simp only [Nat.zero_mul, Nat.one_mul, Nat.add_zero] at x0 x1 x2 x3 x4 x5 y0 y1 y2 y3 y4 y5
    clear h1 h2 hc1 hc2 k1 k2 hA2 hra hrb HK HN IH hr hv hv1 hv2 hx hx1 hx2 hS hl0 hlen hla hlb HS hkids ho1 ho3
    generalize hwb : (w.alloc (.cells #[.int .i64 (j : Int), .string t.x, .int .i64 t.v.k, .int .i64 t.v.n, .string t.v.s, .slice (some ⟨b1, o1, none⟩) 2 c] 51)) = wb at *
    go_enter Tryz.func29, Tryz.ntmps29
    go_wp2_with fail
    try simp only [hwb]
    clear hwb
    go_wp2_with fail
    have Hk := Lib.hid (fun (V : World) (hb : Below wb.heap.size wb V) => And.intro (below_cell hb c0) (And.intro (below_cell hb c5) (And.intro (below_cell hb x0) (And.intro (below_cell hb x1) (And.intro (below_cell hb x2) (And.intro (below_cell hb x3) (And.intro (below_cell hb x4) (And.intro (below_cell hb x5) (And.intro (below_cell hb y0) (And.intro (below_cell hb y1) (And.intro (below_cell hb y2) (And.intro (below_cell hb y3) (And.intro (below_cell hb y4) (below_cell hb y5))))))))))))))
    have hb1 := Below.refl wb.heap.size wb
    go_region_held3 (fun w' => w'.cell? ⟨w.heap.size, 0, none⟩ = some (.int .i64 (j : Int)) ∧ w'.cell? ⟨w.heap.size, 5, none⟩ = some (.slice (some ⟨b1, o1, none⟩) 2 c) ∧ w'.cell? ⟨b1, o1, none⟩ = some (.int .i64 kx.op) ∧ w'.cell? ⟨b1, o1 + 1, none⟩ = some (.string kx.t.x) ∧ w'.cell? ⟨b1, o1 + 2, none⟩ = some (.int .i64 kx.t.v.k) ∧ w'.cell? ⟨b1, o1 + 3, none⟩ = some (.int .i64 kx.t.v.n) ∧ w'.cell? ⟨b1, o1 + 4, none⟩ = some (.string kx.t.v.s) ∧ w'.cell? ⟨b1, o1 + 5, none⟩ = some (.slice A1 n1 a1) ∧ w'.cell? ⟨b1, o1 + 6, none⟩ = some (.int .i64 ky.op) ∧ w'.cell? ⟨b1, o1 + 6 + 1, none⟩ = some (.string ky.t.x) ∧ w'.cell? ⟨b1, o1 + 6 + 2, none⟩ = some (.int .i64 ky.t.v.k) ∧ w'.cell? ⟨b1, o1 + 6 + 3, none⟩ = some (.int .i64 ky.t.v.n) ∧ w'.cell? ⟨b1, o1 + 6 + 4, none⟩ = some (.string ky.t.v.s) ∧ w'.cell? ⟨b1, o1 + 6 + 5, none⟩ = some (.slice A2 n2 a2))
      (first
        | (refine Hk.out _ ?_; (repeat (first | with_reducible exact Below.refl _ _ | with_reducible assumption | with_reducible refine Below.drew ?_ | with_reducible refine belowA ?_ _)); done)
        | go_keep)
      ((first
        | (go_at_call 29
           first
             | (have hS2 := hS1
                refine (HC2.out _ (by repeat (first | with_reducible exact Below.refl _ _ | with_reducible assumption | with_reducible refine Below.drew ?_ | with_reducible refine belowA ?_ _))).mono ?_
                rintro r wN ⟨rfl, hq1⟩
                have hb1 : Below wb.heap.size wb wN := by
                  refine below_next ?_ hq1
                  repeat (first | with_reducible exact Below.refl _ _ | with_reducible assumption | with_reducible refine Below.drew ?_ | with_reducible refine belowA ?_ _)
                clear hq1)
             | (refine (HC1.out _ (by repeat (first | with_reducible exact Below.refl _ _ | with_reducible assumption | with_reducible refine Below.drew ?_ | with_reducible refine belowA ?_ _))).mono ?_
                rintro r wN ⟨rfl, hq1⟩
                have hb1 : Below wb.heap.size wb wN := by
                  refine below_next ?_ hq1
                  repeat (first | with_reducible exact Below.refl _ _ | with_reducible assumption | with_reducible refine Below.drew ?_ | with_reducible refine belowA ?_ _)
                clear hq1
                have hS1 : True := trivial))))
    go_wp2_with fail
    go_region_held3 (fun w' => w'.cell? ⟨w.heap.size, 0, none⟩ = some (.int .i64 (j : Int)) ∧ w'.cell? ⟨w.heap.size, 5, none⟩ = some (.slice (some ⟨b1, o1, none⟩) 2 c) ∧ w'.cell? ⟨b1, o1, none⟩ = some (.int .i64 kx.op) ∧ w'.cell? ⟨b1, o1 + 6, none⟩ = some (.int .i64 ky.op))
      (first
        | (have hk9 := Hk.out _ (by repeat (first | with_reducible exact Below.refl _ _ | with_reducible assumption | with_reducible refine Below.drew ?_ | with_reducible refine belowA ?_ _)); exact ⟨hk9.1, hk9.2.1, hk9.2.2.1, hk9.2.2.2.2.2.2.2.2.1⟩)
        | go_keep)
      (fail)
    have HB2 := Lib.hid hb1
    have HXk := Lib.hid Hk
    clear hb1 x0 x1 x2 x3 x4 x5 y0 y1 y2 y3 y4 y5 c0 c1 c2 c3 c4 c5 Hk HC1 HC2
    have HD := Lib.hid (Below.drew (Below.refl wN.heap.size wN))
    have c0 := ((HXk.out).out _ HB2.out).1
    have HLk := Lib.hid (HLL.out.2.2)
    obtain ⟨sx, hsx⟩ : ∃ sx, Hid (sx = expS k kx) := ⟨_, rfl⟩
    obtain ⟨sy, hsy⟩ : ∃ sy, Hid (sy = expS k ky) := ⟨_, rfl⟩
    rw [← hsx.out] at HL HLk
    rw [← hsy.out] at HR HLk
    simp only [← hsx.out, ← hsy.out]
    have Hb4 := Lib.hid (below_next HB2.out HD.out)
    generalize hw4 : wN.drew = w4 at *
    clear hw4
    have hl1 := HLk.out.1
    have hl2 := HLk.out.2
    obtain ⟨cc, HC⟩ : ∃ cc, Hid (cc = (((j : Int) == 3) && ((kx.op == 1) || (kx.op == 2)))) := ⟨_, rfl⟩
    obtain ⟨dd, HD2⟩ : ∃ dd, Hid (dd = (((ky.op == 1) || (ky.op == 2)) || (((j : Int) == 3) && (ky.op == 3)))) := ⟨_, rfl⟩
    have HL3 : Hid (L = inB cc sx) := by show _ = _; rw [HL.out, HC.out, sum_eq]; rfl
    have HR3 : Hid (R = inB dd sy) := by show _ = _; rw [HR.out, HD2.out, sum_eq]; rfl
    clear HL HR
    go_upto_region 5 with fail
    go_cut [43] (fun v W => v = .bool cc ∧ W = w4)
    case first =>
      clear HD2 HL3 HR3 HSS HLL HXk
      by_cases h3 : (j : Int) = 3
      · have q3 : ((j : Int) == 3) = true := by simp [h3]
        by_cases h1 : kx.op = 1
        · have q1 : (kx.op == 1) = true := by simp [h1]
          clear h1 h3
          go_wp2_with fail
          go_meet
          exact ⟨by rw [HC.out]; simp [*], rfl⟩
        · have q1 : (kx.op == 1) = false := by simp [h1]
          by_cases h2 : kx.op = 2
          · have q2 : (kx.op == 2) = true := by simp [h2]
            clear h1 h2 h3
            go_wp2_with fail
            go_meet
            exact ⟨by rw [HC.out]; simp [*], rfl⟩
          · have q2 : (kx.op == 2) = false := by simp [h2]
            clear h1 h2 h3
            go_wp2_with fail
            go_meet
            exact ⟨by rw [HC.out]; simp [*], rfl⟩
      · have q3 : ((j : Int) == 3) = false := by simp [h3]
        clear h3
        go_wp2_with fail
        go_meet
        exact ⟨by rw [HC.out]; simp [*], rfl⟩
    case rest =>
    obtain ⟨rfl, rfl⟩ := hcut
    go_upto_if 43 with fail
    go_cut [3] (fun v W => v = .string (bytes L) ∧ W = wc)
    case first =>
      clear HD2 HC HR3 HSS HLL HXk
      cases cc with
      | false =>
        go_wp2_with fail
        go_meet
        exact ⟨by rw [HL3.out]; rfl, rfl⟩
      | true =>
        have HI := Lib.hid (bytes_in sx)
        have hz : (bytes sx).size ≤ 1000000000 := hl1
        generalize bytes sx = sb at *
        have hz1 : ¬ (9223372036854775807 < 1 + sb.size) := by omega
        have hz2 : ¬ (9223372036854775807 < 1 + sb.size + 1) := by omega
        have hz4 : ¬ (9223372036854775807 < sb.size + 1) := by omega
        have hz3 : ¬ (9223372036854775806 < sb.size) := by omega
        go_wp2_with fail
        go_meet
        exact ⟨by rw [HL3.out, ← HI.out], rfl⟩
    case rest =>
    obtain ⟨rfl, rfl⟩ := hcut
    go_upto_region 7 with fail
    go_cut [61] (fun v W => v = .bool dd ∧ W = wc)
    case first =>
      clear HC HL3 HR3 HSS HLL HXk
      by_cases h1 : ky.op = 1
      · have q1 : (ky.op == 1) = true := by simp [h1]
        have hyu : undef = Value.tuple #[] := rfl
        clear h1
        go_wp2_with fail
        go_meet
        exact ⟨by rw [HD2.out]; simp [*], rfl⟩
      · have q1 : (ky.op == 1) = false := by simp [h1]
        by_cases h2 : ky.op = 2
        · have q2 : (ky.op == 2) = true := by simp [h2]
          have hyu : undef = Value.tuple #[] := rfl
          clear h1 h2
          go_wp2_with fail
          go_meet
          exact ⟨by rw [HD2.out]; simp [*], rfl⟩
        · have q2 : (ky.op == 2) = false := by simp [h2]
          by_cases h3 : (j : Int) = 3
          · have q3 : ((j : Int) == 3) = true := by simp [h3]
            by_cases h4 : ky.op = 3
            · have q4 : (ky.op == 3) = true := by simp [h4]
              clear h1 h2 h3 h4
              go_wp2_with fail
              go_meet
              exact ⟨by rw [HD2.out]; simp [*], rfl⟩
            · have q4 : (ky.op == 3) = false := by simp [h4]
              clear h1 h2 h3 h4
              go_wp2_with fail
              go_meet
              exact ⟨by rw [HD2.out]; simp [*], rfl⟩
          · have q3 : ((j : Int) == 3) = false := by simp [h3]
            have hyu : undef = Value.tuple #[] := rfl
            clear h1 h2 h3
            go_wp2_with fail
            go_meet
            exact ⟨by rw [HD2.out]; simp [*], rfl⟩
    case rest =>
    obtain ⟨rfl, rfl⟩ := hcut
    go_upto_if 61 with fail
    go_cut [4] (fun v W => v = .string (bytes R) ∧ W = wc)
    case first =>
      clear HD2 HC HL3 HSS HLL HXk
      cases dd with
      | false =>
        go_wp2_with fail
        go_meet
        exact ⟨by rw [HR3.out]; rfl, rfl⟩
      | true =>
        have HI := Lib.hid (bytes_in sy)
        have hz : (bytes sy).size ≤ 1000000000 := hl2
        generalize bytes sy = sb at *
        have hz1 : ¬ (9223372036854775807 < 1 + sb.size) := by omega
        have hz2 : ¬ (9223372036854775807 < 1 + sb.size + 1) := by omega
        have hz4 : ¬ (9223372036854775807 < sb.size + 1) := by omega
        have hz3 : ¬ (9223372036854775806 < sb.size) := by omega
        go_wp2_with fail
        go_meet
        exact ⟨by rw [HR3.out, ← HI.out], rfl⟩
    case rest =>
    obtain ⟨rfl, rfl⟩ := hcut
    obtain ⟨hj1, hj3⟩ := HJ.out
    obtain ⟨hm1, hm2, -, -⟩ := HLL.out
    have e1 : (bytes L).size = L.length := rfl
    have e2 : (bytes R).size = R.length := rfl
    have HSE : Hid (bytes S = bytes L ++ bytes ([32] ++ opS (j : Int) ++ [32]) ++ bytes R) := by
      show _ = _
      rw [HSS.out, bytes_app, bytes_app]
      congr 1
      simp
    generalize bytes L = sl at *
    generalize bytes R = sr at *
    have z1 : ¬ (9223372036854775807 < sl.size + 3) := by omega
    have z2 : ¬ (9223372036854775807 < sl.size + 3 + sr.size) := by omega
    have c0 := ((HXk.out).out _ Hb4.out).1
    clear HSS HLL HXk HR3 HL3 hm1 hm2 hl1 hl2 HLk HC HD2
    have hj : j = 1 ∨ j = 2 ∨ j = 3 := by omega
    rcases hj with rfl | rfl | rfl
    · have e : ((1 : Nat) : Int) = 1 := rfl
      simp only [e] at c0 ⊢
      have c1 := cellA (o := .cells #[.string ⟨#[]⟩, .string ⟨#[32, 43, 32]⟩, .string ⟨#[32, 45, 32]⟩, .string ⟨#[32, 42, 32]⟩] 9) c0
      go_wp2_with fail
      go_ret
      exact ⟨by rw [HSE.out]; rfl, below_next Hba.out (belowA Hb4.out _)⟩
    · have e : ((2 : Nat) : Int) = 2 := rfl
      simp only [e] at c0 ⊢
      have c1 := cellA (o := .cells #[.string ⟨#[]⟩, .string ⟨#[32, 43, 32]⟩, .string ⟨#[32, 45, 32]⟩, .string ⟨#[32, 42, 32]⟩] 9) c0
      go_wp2_with fail
      go_ret
      exact ⟨by rw [HSE.out]; rfl, below_next Hba.out (belowA Hb4.out _)⟩
    · have e : ((3 : Nat) : Int) = 3 := rfl
      simp only [e] at c0 ⊢
      have c1 := cellA (o := .cells #[.string ⟨#[]⟩, .string ⟨#[32, 43, 32]⟩, .string ⟨#[32, 45, 32]⟩, .string ⟨#[32, 42, 32]⟩] 9) c0
      go_wp2_with fail
      go_ret
      exact ⟨by rw [HSE.out]; rfl, below_next Hba.out (belowA Hb4.out _)⟩
end Go.Proofs.YtplekbpmfaghbaaGreatDoor

/- The document's Atom: a text. -/
namespace Go.Proofs.YtplekbpmfaghbaaGreatDoor
open Go.RowKit

theorem join_step {l : List GTold} {g col : Int} {k : Nat} {t : GTold} (h : l[k]? = some t) : Lib.join (thingsL g col 0 (l.take (k + 1))) sep2 = Lib.join (thingsL g col 0 (l.take k)) sep2 ++ (if k = 0 then [] else sep2) ++ thing g col k t := by
  rw [thingsL_take _ _ h]
  by_cases hk : k = 0
  · subst hk
    rw [List.take_zero]
    simp only [thingsL, List.nil_append, if_true, List.append_nil]
    rw [join_one]
    simp [Lib.join, List.intercalate]
  · rw [if_neg hk, join_snoc]
    intro e
    have h1 := congrArg List.length e
    have hkl : k < l.length := (List.getElem?_eq_some_iff.1 h).1
    rw [thingsL_len, List.length_take] at h1
    simp only [List.length_nil] at h1
    omega
theorem join_grow {l : List GTold} {g col : Int} : ∀ (k : Nat), (Lib.join (thingsL g col 0 (l.take k)) sep2).length ≤ (Lib.join (thingsL g col 0 l) sep2).length := by
  intro k
  by_cases hk : l.length ≤ k
  · rw [List.take_of_length_le hk]; exact Nat.le_refl _
  · have : ∀ d, k + d ≤ l.length → (Lib.join (thingsL g col 0 (l.take k)) sep2).length ≤ (Lib.join (thingsL g col 0 (l.take (k + d))) sep2).length := by
      intro d
      induction d with
      | zero => intro _; exact Nat.le_refl _
      | succ d ih =>
        intro hd
        have h1 := ih (by omega)
        have h2 := join_step (g := g) (col := col) (List.getElem?_eq_getElem (l := l) (i := k + d) (by omega))
        rw [show k + (d + 1) = k + d + 1 from rfl, h2]
        simp only [List.length_append]
        omega
    have h := this (l.length - k) (by omega)
    rwa [show k + (l.length - k) = l.length by omega, List.take_length] at h

def raF (g k n c b o H : Nat) (s1 sa sx : ByteArray) (t : GTold) (i : Nat) (v : Value) (W : World) : Prop := match i with
  | 0 => v = .string s1
  | 1 => ∃ h, v = .slice (some ⟨h, 0, none⟩) 5 5 ∧ W.cell? ⟨h, g, none⟩ = some (.string sa)
  | 2 => v = .int .i64 g
  | 3 => ∃ h, v = .pointer (some ⟨h, g, none⟩) ∧ W.cell? ⟨h, g, none⟩ = some (.string sa)
  | 4 => v = .string sa
  | 5 => v = .string (s1 ++ sa)
  | 6 => v = .string (s1 ++ sa ++ ⟨#[40]⟩)
  | 7 => v = .pointer (some ⟨H, 1, none⟩)
  | 8 => v = .slice (some ⟨b, o, none⟩) n c
  | 9 => v = .int .i64 k
  | 10 => v = .pointer (some ⟨b, o + k * 4, none⟩)
  | 11 => v = .agg #[.string t.x, .int .i64 t.v.k, .int .i64 t.v.n, .string t.v.s]
  | 12 => v = .string sx
  | 13 => v = .string (s1 ++ sa ++ ⟨#[40]⟩ ++ sx)
  | 14 => v = .string (s1 ++ sa ++ ⟨#[40]⟩ ++ sx ++ ⟨#[41]⟩)
  | _ => True
theorem raF_keep {g k n c b o H : Nat} {s1 sa sx : ByteArray} {t : GTold} {i : Nat} {v : Value} {W W' : World} (h : raF g k n c b o H s1 sa sx t i v W) (hb : Below W.heap.size W W') : raF g k n c b o H s1 sa sx t i v W' := by
  match i, h with
  | 0, h => exact h
  | 1, ⟨q, h1, h2⟩ => exact ⟨q, h1, below_cell hb h2⟩
  | 2, h => exact h
  | 3, ⟨q, h1, h2⟩ => exact ⟨q, h1, below_cell hb h2⟩
  | 4, h => exact h
  | 5, h => exact h
  | 6, h => exact h
  | 7, h => exact h
  | 8, h => exact h
  | 9, h => exact h
  | 10, h => exact h
  | 11, h => exact h
  | 12, h => exact h
  | 13, h => exact h
  | 14, h => exact h
  | _ + 15, _ => exact trivial
set_option maxRecDepth 100000 in
set_option maxHeartbeats 4000000 in
theorem refAtom_any (g : Nat) (col : Int) (x : GAtom) (A : Option Addr) (n c : Nat) (w : World) (ht : SliceIs Enc.told w w.heap.size A n c x.args) (hg : g ≤ 4) (hlen : (atomS x (g : Int) col).length ≤ 1000000000) :
    Calls Tryz.prog 76 #[.agg #[.string x.rel, .slice A n c], .int .i64 (g : Int), .int .i64 col] w (RetV (.string (bytes (atomS x (g : Int) col))) w) := by
  have mixed : Tryz.prog.follows .mixedOrders = true := by kernel_rfl
  have hn := ht.bound
  have Hlen := Lib.hid ht.1
  have hrb : (w.alloc (.cells #[.string x.rel, .slice A n c] 43)).heap[w.heap.size]? = some (.cells #[.string x.rel, .slice A n c] 43 (0, 0)) := heapNew rfl
  have hba : Below w.heap.size w (w.alloc (.cells #[.string x.rel, .slice A n c] 43)) := belowA (Below.refl _ _) _
  have HT := Lib.hid (ht.keep hba)
  obtain ⟨S, HS⟩ : ∃ S, Hid (S = atomS x (g : Int) col) := ⟨_, rfl⟩
  rw [← HS.out]
  have HE : Hid (S = x.rel.toList ++ [40] ++ Lib.join (thingsL (g : Int) col 0 x.args) sep2 ++ [41]) := by show _ = _; rw [HS.out]; unfold atomS thingsS; simp only [List.append_assoc]
  have HL : Hid (x.rel.size + (Lib.join (thingsL (g : Int) col 0 x.args) sep2).length + 2 ≤ 1000000000) := by
    show _ ≤ _
    rw [← HS.out, HE.out] at hlen
    simp only [List.length_append, List.length_cons, List.length_nil, ba_len] at hlen
    omega
  have HLt : Hid (∀ (i : Nat) (t : GTold), x.args[i]? = some t → (thing (g : Int) col i t).length ≤ 1000000000) := fun i t hi => by
    have h1 := thingsL_get (g : Int) col x.args 0 i t hi
    rw [Nat.zero_add] at h1
    have := join_ge _ _ (List.mem_of_getElem? h1)
    have := HL.out
    omega
  obtain ⟨b0, b1⟩ := facts2 hrb
  have hxs : x.rel.size ≤ 1000000000 := by have := HL.out; omega
  have hz1 : ¬ (9223372036854775807 < x.rel.size + 1) := by omega
  have hz3 : ¬ (9223372036854775806 < x.rel.size) := by omega
  have HR0 := Lib.hid hrb
  have HB0 := Lib.hid hba
  have HS0 : Hid (x.rel ++ ⟨#[40]⟩ = bytes (x.rel.toList ++ [40] ++ Lib.join (thingsL (g : Int) col 0 (x.args.take 0)) sep2)) := by
    show _ = _
    rw [List.take_zero]
    simp only [thingsL, show Lib.join ([] : List (List UInt8)) sep2 = [] from rfl, List.append_nil]
    rw [← bytes_app, bytes_of]
    rfl
  clear ht hlen HS hrb hba
  generalize hwb : w.alloc (.cells #[.string x.rel, .slice A n c] 43) = wb at *
  go_enter Tryz.func76, Tryz.ntmps76
  go_wp2_with fail
  try simp only [hwb]
  clear hwb
  go_wp2_with fail
  clear b0 b1 hz1 hz3
  go_loopw [7, 8] (fun v i wr => ∃ (k : Nat) (s : ByteArray), k ≤ n ∧ v = .string s ∧ i = .int .i64 k ∧ Hid (s = bytes (x.rel.toList ++ [40] ++ Lib.join (thingsL (g : Int) col 0 (x.args.take k)) sep2)) ∧ Hid (Below wb.heap.size wb wr)) (fun _ i _ => n - (intOf i).toNat)
  case atStart => exact ⟨0, _, by omega, rfl, rfl, HS0, Below.refl _ _⟩
  case round =>
    clear HS0
    obtain ⟨k, s, hk, rfl, rfl, Hs, HBr⟩ := hrel
    have i0 : (0 : Int) ≤ (k : Int) := by omega
    have hrX := (HBr.out.block _ (Array.getElem?_eq_some_iff.1 HR0.out).1).trans HR0.out
    obtain ⟨f0, f1⟩ := facts2 hrX
    have hss : s.size ≤ 1000000000 := by
      have h1 := Hs.out
      have h2 := join_grow (l := x.args) (g := (g : Int)) (col := col) k
      have h3 := HL.out
      have h4 := congrArg ByteArray.size h1
      rw [bytes_size] at h4
      simp only [List.length_append, List.length_cons, List.length_nil, ba_len] at h4
      omega
    by_cases hlt : k < n
    · have i1 : (k : Int) < (n : Int) := by omega
      obtain ⟨b, o, t, rfl, _, hx, x0, x1, x2, x3, hxo, hxv⟩ := (HT.out.keep HBr.out).told_at hlt
      have HC := Lib.hid (fun (W : World) => refShown_any t hxv hxo W)
      have HTh := Lib.hid (HLt.out k t hx.out)
      obtain ⟨s1, Hs1⟩ : ∃ s1, Hid (s1 = s ++ bytes (if k = 0 then [] else sep2)) := ⟨_, rfl⟩
      have hs1s : s1.size ≤ 1000000002 := by
        have h4 := congrArg ByteArray.size Hs1.out
        rw [ByteArray.size_append, bytes_size] at h4
        split at h4
        · simp at h4; omega
        · have : sep2.length = 2 := rfl
          omega
      have HNx : Hid (s1 ++ bytes (thing (g : Int) col k t) = bytes (x.rel.toList ++ [40] ++ Lib.join (thingsL (g : Int) col 0 (x.args.take (k + 1))) sep2)) := by
        show _ = _
        rw [join_step hx.out, Hs1.out, Hs.out, bytes_app, bytes_app]
        congr 1
        simp only [List.append_assoc]
      clear hx hxo hxv Hs
      go_upto_if 20 with fail
      go_cut [7] (fun v W => v = .string s1 ∧ W = wr)
      case first =>
        by_cases hk0 : k = 0
        · have i2 : ¬ (0 : Int) < (k : Int) := by omega
          have HS1 : Hid (s1 = s) := by show _ = _; rw [Hs1.out, if_pos hk0, ← toList_inj, ba_app, bytes_list, List.append_nil]
          clear hk0
          go_wp2_with fail
          go_meet
          exact ⟨by rw [HS1.out], rfl⟩
        · have i2 : (0 : Int) < (k : Int) := by omega
          have HS1 : Hid (s1 = s ++ ⟨#[44, 32]⟩) := by show _ = _; rw [Hs1.out, if_neg hk0]; rfl
          have hz1 : ¬ (9223372036854775807 < s.size + 2) := by omega
          have hz3 : ¬ (9223372036854775805 < s.size) := by omega
          clear hk0
          go_wp2_with fail
          go_meet
          exact ⟨by rw [HS1.out], rfl⟩
      case rest =>
        obtain ⟨rfl, rfl⟩ := hcut
        clear Hs1 hss
        by_cases hc : 0 < (g : Int) ∧ (k : Int) = col
        · obtain ⟨q1, q2'⟩ := hc
          have q2 : ((k : Int) == col) = true := by simp [q2']
          have hTe : thing (g : Int) col k t = aggS (g : Int) ++ [40] ++ shownT t ++ [41] := by unfold thing; rw [if_pos ⟨q1, q2'⟩]
          have HTe : Hid (s1 ++ bytes (thing (g : Int) col k t) = s1 ++ bytes (aggS (g : Int)) ++ ⟨#[40]⟩ ++ bytes (shownT t) ++ ⟨#[41]⟩) := by
            show _ = s1 ++ bytes (aggS (g : Int)) ++ bytes [40] ++ bytes (shownT t) ++ bytes [41]
            rw [hTe, ← bytes_app, ← bytes_app, ← bytes_app, ← ByteArray.append_assoc, ← ByteArray.append_assoc, ← ByteArray.append_assoc]
          have e1 : (thing (g : Int) col k t).length = (aggS (g : Int)).length + 1 + (shownT t).length + 1 := by rw [hTe]; simp only [List.length_append, List.length_cons, List.length_nil]
          have e0 := HTh.out
          have e2 : (bytes (aggS (g : Int))).size = (aggS (g : Int)).length := rfl
          have e3 : (bytes (shownT t)).size = (shownT t).length := rfl
          have hag := aggS_len (g : Int)
          have j0 : (0 : Int) ≤ (g : Int) := by omega
          have j1 : (g : Int) < 5 := by omega
          clear hTe HTh q2'
          have hg4 : g = 1 ∨ g = 2 ∨ g = 3 ∨ g = 4 := by omega
          have hsx : (bytes (shownT t)).size ≤ 1000000000 := by omega
          have hsa : (bytes (aggS (g : Int))).size ≤ 5 := by omega
          have kW : ∀ W : World, (W.alloc (.cells #[.string ⟨#[]⟩, .string ⟨#[99, 111, 117, 110, 116]⟩, .string ⟨#[115, 117, 109]⟩, .string ⟨#[109, 105, 110]⟩, .string ⟨#[109, 97, 120]⟩] 9)).cell? ⟨W.heap.size, g, none⟩ = some (.string (bytes (aggS (g : Int)))) := fun W => by
            rcases hg4 with rfl | rfl | rfl | rfl
            · exact (cell_of_row _ _ 1 _ _ _ (heapNew rfl)).trans rfl
            · exact (cell_of_row _ _ 2 _ _ _ (heapNew rfl)).trans rfl
            · exact (cell_of_row _ _ 3 _ _ _ (heapNew rfl)).trans rfl
            · exact (cell_of_row _ _ 4 _ _ _ (heapNew rfl)).trans rfl
          clear e0 e1 e2 e3 hag hg4
          generalize bytes (shownT t) = sx at *
          generalize bytes (aggS (g : Int)) = sa at *
          have y1 : ¬ (9223372036854775807 < s1.size + sa.size) := by omega
          have y2 : ¬ (9223372036854775807 < s1.size + sa.size + 1) := by omega
          have y6 : ¬ (9223372036854775807 < s1.size + sa.size + 1 + sx.size) := by omega
          have y8 : ¬ (9223372036854775807 < s1.size + sa.size + 1 + sx.size + 1) := by omega
          go_upto_region 8 with fail
          refine drawn2 mixed 15 55 [30, 31, 32, 33, 34, 35, 36, 37, 38, 39, 40, 41, 42, 43, 44] (fun _ W => Below wc.heap.size wc W) (raF g k n c b o w.heap.size s1 sa sx t) (fun _ W W' => Below W.heap.size W W') rfl (by kernel_rfl) (by kernel_rfl) rfl (fun j _ => below_drewN _ 1 _) (fun i j v W W' _ _ _ h h' => raF_keep h h') (fun _ _ _ _ _ _ _ _ h h' => below_next h h') ?_ ?_
          · intro i o2' a2 W hi ho hd hold hG _ hw
            have hr1 : a2.tmps[1]? = some (.int .i64 g) := hold 1 (by kernel_rfl)
            have hr3 : a2.tmps[3]? = some (.pointer (some ⟨w.heap.size, 0, none⟩)) := hold 3 (by kernel_rfl)
            have hr7 : a2.tmps[7]? = some (.string s1) := hold 7 (by kernel_rfl)
            have hr8 : a2.tmps[8]? = some (.int .i64 k) := hold 8 (by kernel_rfl)
            clear hold
            match i, hi, ho with
            | 0, _, ho =>
              injection ho with ho; subst ho
              exact op_val _ (by simp [execOp, Act.eval, hr7, go_sem]) ⟨_, rfl, Below.refl _ _, rfl⟩
            | 1, _, ho =>
              injection ho with ho; subst ho
              exact op_bslice 81 9 5 _ rfl 1 [.string ⟨#[]⟩, .string ⟨#[99, 111, 117, 110, 116]⟩, .string ⟨#[115, 117, 109]⟩, .string ⟨#[109, 105, 110]⟩, .string ⟨#[109, 97, 120]⟩] Tryz.underlying81 (by kernel_rfl) (by decide) rfl (by decide) (by decide) (by simp [Act.eval]) (fun v hv => by simp at hv; rcases hv with rfl | rfl | rfl | rfl | rfl <;> rfl) ⟨_, rfl, belowA (Below.refl _ _) _, _, rfl, kW W⟩
            | 2, _, ho =>
              injection ho with ho; subst ho
              exact op_val _ (by simp [execOp, Act.eval, hr1, go_sem]) ⟨_, rfl, Below.refl _ _, rfl⟩
            | 3, _, ho =>
              injection ho with ho; subst ho
              obtain ⟨v1, h1, e1⟩ := hw 1 31 (by kernel_rfl)
              obtain ⟨q1, rfl, kc1⟩ := e1
              obtain ⟨v2, h2, e2⟩ := hw 2 32 (by kernel_rfl)
              obtain rfl : v2 = _ := e2
              exact op_val _ (by simp [execOp, Act.eval, h1, h2, go_sem, j0, j1]) ⟨_, rfl, Below.refl _ _, _, rfl, kc1⟩
            | 4, _, ho =>
              injection ho with ho; subst ho
              obtain ⟨v3, h3, e3⟩ := hw 3 33 (by kernel_rfl)
              obtain ⟨q3, rfl, kc3⟩ := e3
              exact op_val _ (by simp [execOp, Act.eval, h3, go_sem, kc3]) ⟨_, rfl, Below.refl _ _, rfl⟩
            | 5, _, ho =>
              injection ho with ho; subst ho
              obtain ⟨v0, h0, e0⟩ := hw 0 30 (by kernel_rfl)
              obtain rfl : v0 = _ := e0
              obtain ⟨v4, h4, e4⟩ := hw 4 34 (by kernel_rfl)
              obtain rfl : v4 = _ := e4
              exact op_val _ (by simp [execOp, Act.eval, h0, h4, go_sem, y1]) ⟨_, rfl, Below.refl _ _, rfl⟩
            | 6, _, ho =>
              injection ho with ho; subst ho
              obtain ⟨v5, h5, e5⟩ := hw 5 35 (by kernel_rfl)
              obtain rfl : v5 = _ := e5
              exact op_val _ (by simp [execOp, Act.eval, h5, go_sem, y2]) ⟨_, rfl, Below.refl _ _, rfl⟩
            | 7, _, ho =>
              injection ho with ho; subst ho
              exact op_val _ (by simp [execOp, Act.eval, hr3, go_sem]) ⟨_, rfl, Below.refl _ _, rfl⟩
            | 8, _, ho =>
              injection ho with ho; subst ho
              obtain ⟨v7, h7, e7⟩ := hw 7 37 (by kernel_rfl)
              obtain rfl : v7 = _ := e7
              exact op_val _ (by simp [execOp, Act.eval, h7, run_load1 Tryz.underlying41 (below_cell hG f1)]) ⟨_, rfl, Below.refl _ _, rfl⟩
            | 9, _, ho =>
              injection ho with ho; subst ho
              exact op_val _ (by simp [execOp, Act.eval, hr8, go_sem]) ⟨_, rfl, Below.refl _ _, rfl⟩
            | 10, _, ho =>
              injection ho with ho; subst ho
              obtain ⟨v8, h8, e8⟩ := hw 8 38 (by kernel_rfl)
              obtain rfl : v8 = _ := e8
              obtain ⟨v9, h9, e9⟩ := hw 9 39 (by kernel_rfl)
              obtain rfl : v9 = _ := e9
              exact op_val _ (by simp [execOp, Act.eval, h8, h9, go_sem, i0, i1]) ⟨_, rfl, Below.refl _ _, rfl⟩
            | 11, _, ho =>
              injection ho with ho; subst ho
              obtain ⟨v10, h10, e10⟩ := hw 10 40 (by kernel_rfl)
              obtain rfl : v10 = _ := e10
              have z0 := below_cell hG x0; have z1 := below_cell hG x1; have z2 := below_cell hG x2; have z3 := below_cell hG x3
              exact op_val _ (by simp [execOp, Act.eval, h10, go_sem, z0, z1, z2, z3]) ⟨_, rfl, Below.refl _ _, rfl⟩
            | 12, _, ho =>
              injection ho with ho; subst ho
              obtain ⟨v11, h11, e11⟩ := hw 11 41 (by kernel_rfl)
              obtain rfl : v11 = _ := e11
              refine op_call 79 _ rfl rfl #[.agg #[.string t.x, .int .i64 t.v.k, .int .i64 t.v.n, .string t.v.s]] (by simp [Act.eval, h11]) _ Tryz.func79 (by kernel_rfl) (by kernel_rfl) ((HC.out W).mono ?_)
              rintro r w' ⟨rfl, hb⟩
              exact ⟨_, rfl, _, rfl, hb, rfl⟩
            | 13, _, ho =>
              injection ho with ho; subst ho
              obtain ⟨v6, h6, e6⟩ := hw 6 36 (by kernel_rfl)
              obtain rfl : v6 = _ := e6
              obtain ⟨v12, h12, e12⟩ := hw 12 42 (by kernel_rfl)
              obtain rfl : v12 = _ := e12
              exact op_val _ (by simp [execOp, Act.eval, h6, h12, go_sem, y6]) ⟨_, rfl, Below.refl _ _, rfl⟩
            | 14, _, ho =>
              injection ho with ho; subst ho
              obtain ⟨v13, h13, e13⟩ := hw 13 43 (by kernel_rfl)
              obtain rfl : v13 = _ := e13
              exact op_val _ (by simp [execOp, Act.eval, h13, go_sem, y8]) ⟨_, rfl, Below.refl _ _, rfl⟩
            | n + 15, hi, _ => omega
          · intro o2' u W ho hG hw
            have e0 := hw 14 44 (by decide) (by kernel_rfl)
            injection ho with ho; subst ho
            simp only [List.foldl_cons, List.foldl_nil, Act.put, List.setIfInBounds_toArray, List.set_cons_zero, List.set_cons_succ]
            rw [show u 44 = Value.string (s1 ++ sa ++ ⟨#[40]⟩ ++ sx ++ ⟨#[41]⟩) from e0]
            have HBn := Lib.hid (below_next HBr.out hG)
            refine op_assign (.tmp 44) (.inl rfl) (.string (s1 ++ sa ++ ⟨#[40]⟩ ++ sx ++ ⟨#[41]⟩)) (by simp [Act.eval]) ?_
            clear hw e0 HC hG x0 x1 x2 x3 f0 f1 y1 y2 y6 y8 kW
            simp only [Act.put, List.setIfInBounds_toArray]
            go_wp2_with fail
            go_roundw
            case rel => exact ⟨k + 1, _, by omega, rfl, by go_num, by show _ = _; rw [← HTe.out]; exact HNx.out, HBn⟩
            case measure => simp [intOf]; omega
        · have HTe : Hid (thing (g : Int) col k t = shownT t) := by show _ = _; unfold thing; rw [if_neg hc]
          have hth := HTh.out
          rw [HTe.out] at HNx hth
          have e3 : (bytes (shownT t)).size = (shownT t).length := rfl
          clear HTe HTh
          generalize bytes (shownT t) = sx at *
          have hz1 : ¬ (9223372036854775807 < s1.size + sx.size) := by omega
          by_cases q1 : 0 < (g : Int)
          · have q2 : ((k : Int) == col) = false := by
              rw [beq_eq_false_iff_ne]; exact fun e => hc ⟨q1, e⟩
            clear hc
            go_wp2_with fail
            refine (HC.out _).mono ?_
            rintro r w2 ⟨rfl, hq2⟩
            have HBn := Lib.hid (below_next HBr.out hq2)
            clear hq2 x0 x1 x2 x3 f0 f1
            go_wp2_with fail
            go_roundw
            case rel => exact ⟨k + 1, _, by omega, rfl, by go_num, HNx, HBn⟩
            case measure => simp [intOf]; omega
          · clear hc
            go_wp2_with fail
            refine (HC.out _).mono ?_
            rintro r w2 ⟨rfl, hq2⟩
            have HBn := Lib.hid (below_next HBr.out hq2)
            clear hq2 x0 x1 x2 x3 f0 f1
            go_wp2_with fail
            go_roundw
            case rel => exact ⟨k + 1, _, by omega, rfl, by go_num, HNx, HBn⟩
            case measure => simp [intOf]; omega
    · have i1 : ¬ (k : Int) < (n : Int) := by omega
      have hkn : k = n := by omega
      have HSE : Hid (bytes S = s ++ ⟨#[41]⟩) := by
        show _ = s ++ bytes [41]
        have h1 := Hs.out
        rw [hkn, List.take_of_length_le (by have := Hlen.out; omega)] at h1
        rw [HE.out, h1, bytes_app]
      have HBn := Lib.hid (below_next HB0.out HBr.out)
      have hz1 : ¬ (9223372036854775807 < s.size + 1) := by omega
      have hz3 : ¬ (9223372036854775806 < s.size) := by omega
      clear Hs
      go_wp2_with fail
      go_ret
      exact ⟨by rw [HSE.out]; rfl, HBn.out⟩
end Go.Proofs.YtplekbpmfaghbaaGreatDoor
