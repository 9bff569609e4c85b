/- My own texts LexR1, as far as this claim needs them. -/
import Derived.Test.YtgphngjniplonaaGreatDoorZp7
import Derived.Test.YtgphngjniplonaaGreatDoorZpa1
set_option linter.unusedVariables false
set_option linter.unusedSimpArgs false
set_option maxRecDepth 1000000
set_option maxHeartbeats 16000000
namespace Go.Proofs.YtgphngjniplonaaGreatDoor
open Go.RowKit
set_option linter.unusedSimpArgs false in
theorem inside_any (c : UInt8) (w : World) : Calls Tryz.prog 178 #[.int .u8 c.toNat] w (RetSameB (insB c) w) := by
  have HE : Hid (insB c = ((decide (97 ≤ c.toNat) && decide (c.toNat ≤ 122)) || (decide (65 ≤ c.toNat) && decide (c.toNat ≤ 90)) || (decide (48 ≤ c.toNat) && decide (c.toNat ≤ 57)) || decide (c.toNat = 95))) := rfl
  rw [HE.out]
  clear HE
  generalize c.toNat = r
  by_cases h1 : (97 : Int) ≤ r <;> by_cases h2 : (r : Int) ≤ 122 <;> by_cases h3 : (65 : Int) ≤ r <;> by_cases h4 : (r : Int) ≤ 90 <;> by_cases h5 : (48 : Int) ≤ r <;> by_cases h6 : (r : Int) ≤ 57 <;> by_cases h7 : (r : Int) = 95 <;> (try (exfalso; omega))
  all_goals
    have z7 : ((r : Int) == 95) = decide ((r : Int) = 95) := by rw [Bool.eq_iff_iff]; simp
    simp only [h7, decide_true, decide_false] at z7
    have g1 : (97 ≤ r) = (97 ≤ r) := rfl
    have e : ((decide (97 ≤ r) && decide (r ≤ 122)) || (decide (65 ≤ r) && decide (r ≤ 90)) || (decide (48 ≤ r) && decide (r ≤ 57)) || decide (r = 95)) = (((decide ((97 : Int) ≤ r) && decide ((r : Int) ≤ 122)) || (decide ((65 : Int) ≤ r) && decide ((r : Int) ≤ 90)) || (decide ((48 : Int) ≤ r) && decide ((r : Int) ≤ 57)) || decide ((r : Int) = 95))) := by
      rw [Bool.eq_iff_iff]; simp; omega
    simp only [h1, h2, h3, h4, h5, h6, h7, decide_true, decide_false, Bool.and_true, Bool.true_and, Bool.and_false, Bool.false_and, Bool.or_true, Bool.true_or, Bool.or_false, Bool.false_or] at e
    rw [e]
    clear e g1
    go_enter Tryz.func178, Tryz.ntmps178
    go_wp2
    go_ret
    exact ⟨rfl, rfl⟩
theorem mem_take_succ5 {l : List ByteArray} {k : Nat} {s x : ByteArray} (hx : l[k]? = some x) : s ∈ l.take (k + 1) ↔ s ∈ l.take k ∨ x = s := by
  rw [List.take_add_one, hx]
  simp [eq_comm]
set_option linter.unusedSimpArgs false in
theorem in_any (A : Option Addr) (n c : Nat) (l : List ByteArray) (s : ByteArray) (w : World) (hl : SliceIs Enc.str w w.heap.size A n c l) :
    Calls Tryz.prog 180 #[.slice A n c, .string s] w (RetSameB (decide (s ∈ l)) w) := by
  have hn := hl.bound
  have hlen := Lib.hid hl.1
  go_enter Tryz.func180, Tryz.ntmps180
  go_wp2
  go_loop [5] (fun i => ∃ k : Nat, k ≤ n ∧ i = .int .i64 k ∧ Hid (s ∉ l.take k)) (fun i => n - (intOf i).toNat)
  case atStart => exact ⟨0, by omega, rfl, by simp [Hid]⟩
  case round =>
    obtain ⟨k, hk, rfl, hpre⟩ := hrel
    by_cases hlt : k < n
    · obtain ⟨b, o, x, rfl, _, hx, hc, hs⟩ := hl.str_at hlt
      have i0 : (0 : Int) ≤ (k : Int) := by omega
      have i1 : (k : Int) < (n : Int) := by omega
      have hb := World.block_lt_of_cell? w _ hc
      clear hl
      by_cases h1 : x = s
      · have h1' : (x.toList == s.toList) = true := by simp [h1]
        have HR : Hid (decide (s ∈ l) = true) := by show decide (s ∈ l) = true; rw [← h1]; simpa using List.mem_of_getElem? hx.out
        clear h1
        go_wp2
        go_ret
        exact ⟨by rw [HR.out]; rfl, rfl⟩
      · have h1' : (x.toList == s.toList) = false := by simp [toList_inj, h1]
        have HN : Hid (s ∉ l.take (k + 1)) := by
          show ¬ _
          rw [mem_take_succ5 hx.out]; intro h; rcases h with h | h
          · exact hpre.out h
          · exact h1 h
        clear h1
        go_wp2
        go_round
        case rel => exact ⟨k + 1, by omega, by go_num, HN⟩
        case measure => simp [intOf]; omega
    · have HR : Hid (decide (s ∈ l) = false) := by
        show decide (s ∈ l) = false
        have h := hpre.out
        rw [List.take_of_length_le (by have := hlen.out; omega)] at h
        simpa using h
      have i1 : ¬ (k : Int) < (n : Int) := by omega
      go_wp2
      go_ret
      exact ⟨by rw [HR.out]; rfl, rfl⟩
theorem strs_new {w : World} {L : List (List UInt8)} (o : Obj) (ho : o = .cells (L.map fun l => Value.string (bytes l)).toArray 9) (hl : L.length ≤ 1000) (hb : ∀ l ∈ L, l.length ≤ 1000) :
    SliceIs Enc.str (w.alloc o) (w.alloc o).heap.size (some ⟨w.heap.size, 0, none⟩) L.length L.length (L.map bytes) := by
  have h : StrsW w.heap.size L (w.alloc o) := ⟨9, (0, 0), by rw [ho]; exact heapNew rfl⟩
  exact h.is hl hb
set_option linter.unusedSimpArgs false in
theorem wordR_any (s : ByteArray) (hs : s.size ≤ 140737488351232) (h1 : 1 ≤ s.size) (w : World) : Calls Tryz.prog 179 #[.string s] w (RetInt (wordK s.toList) w) := by
  have HI := Lib.hid (in_any _ _ _ _ s _ (strs_new (w := w) (L := keysL) (.cells #[.string ⟨#[114, 101, 108]⟩, .string ⟨#[105, 110, 116]⟩, .string ⟨#[115, 121, 109]⟩, .string ⟨#[110, 111, 116]⟩, .string ⟨#[99, 111, 117, 110, 116]⟩, .string ⟨#[115, 117, 109]⟩, .string ⟨#[109, 105, 110]⟩, .string ⟨#[109, 97, 120]⟩] 9) rfl (by decide) (by decide)))
  have Hn := Lib.hid (fun w => refName_any s hs w)
  have HPa := Lib.hid (fun w => refParse_any s hs w)
  have e0 : headN s.toList = (s[0]'h1).toNat := by
    have := ba_head h1
    cases hl : s.toList with
    | nil => rw [hl] at this; cases this
    | cons c r => rw [hl] at this; simp at this; simp [headN, this]
  have e1 : nameOk ⟨s.toList.toArray⟩ = nameOk s := by rw [bytes_back]
  have e2 : s.toList.length = s.size := ba_len s
  have HQ : Hid (wordK s.toList = if decide (s ∈ keysL.map bytes) then (1 : Int) else if nameOk s then (2 : Int) else if greatB (s[0]'h1).toNat && decide (s.size ≤ 32) then (3 : Int) else if (refNum s.toList).isSome then (4 : Int) else (0 : Int)) := by
    show _ = _
    unfold wordK
    rw [e0, e1, e2, mem_bytes]
    simp
  have h1n : (0 : Int) < (s.size : Int) := by omega
  rw [HQ.out]
  clear e0 e1 e2 HQ
  cases hk : decide (s ∈ keysL.map bytes) with
  | true =>
    rw [hk] at HI
    simp only [if_true]
    go_enter Tryz.func179, Tryz.ntmps179
    go_wp2_with fail
    refine HI.out.mono ?_
    rintro e w1 ⟨rfl, rfl⟩
    go_wp2_with fail
    go_ret
    exact ⟨rfl, belowA (Below.refl _ _) _⟩
  | false =>
  rw [hk] at HI
  clear hk
  simp only [Bool.false_eq_true, if_false]
  cases hN : nameOk s with
  | true =>
    rw [hN] at Hn
    simp only [if_true]
    go_enter Tryz.func179, Tryz.ntmps179
    go_wp2_with fail
    refine HI.out.mono ?_
    rintro e w1 ⟨rfl, rfl⟩
    go_wp2_with fail
    refine (Hn.out _).mono ?_
    rintro e w2 ⟨rfl, hb2⟩
    go_wp2_with fail
    go_ret
    exact ⟨rfl, below_next (belowA (Below.refl _ _) _) hb2⟩
  | false =>
  rw [hN] at Hn
  simp only [Bool.false_eq_true, if_false]
  have HP2 : Hid (∃ kk nn tt, (kk = 1 ↔ (refNum s.toList).isSome = true) ∧ (parseG s).v = .agg #[.int .i64 kk, .int .i64 nn, .string tt] ∧ (parseO s).isSome = (refNum s.toList).isSome) := by
    cases hr : refNum s.toList with
    | none => exact ⟨0, 0, ⟨#[]⟩, by simp, by simp [parseG, parse_none hN hr, gv0], by simp [parse_none hN hr]⟩
    | some n => exact ⟨1, n, ⟨#[]⟩, by simp, by simp [parseG, parse_some hN hr], by simp [parse_some hN hr]⟩
  obtain ⟨kk, nn, tt, hkk, hpv, hpo⟩ := HP2.out
  rw [hpv, hpo] at HPa
  have Hkk := Lib.hid hkk
  generalize (refNum s.toList).isSome = ok at *
  clear hpv hpo HP2 hN hkk
  by_cases hg1 : (65 : Int) ≤ ((s[0]'h1).toNat : Int) <;> by_cases hg2 : ((s[0]'h1).toNat : Int) ≤ 90 <;> by_cases h32 : (s.size : Int) ≤ 32 <;> (try (exfalso; omega))
  all_goals
    have hG : greatB (s[0]'h1).toNat = (decide ((65 : Int) ≤ ((s[0]'h1).toNat : Int)) && decide (((s[0]'h1).toNat : Int) ≤ 90)) := by unfold greatB; rw [Bool.eq_iff_iff]; simp; omega
    have hS : decide (s.size ≤ 32) = decide ((s.size : Int) ≤ 32) := by rw [Bool.eq_iff_iff]; simp; omega
    rw [hG, hS]
    simp only [hg1, hg2, h32, decide_true, decide_false, Bool.and_true, Bool.and_false, Bool.false_and, Bool.and_self, Bool.false_eq_true, if_true, if_false]
    clear hG hS
  · go_enter Tryz.func179, Tryz.ntmps179
    go_wp2_with fail
    refine HI.out.mono ?_
    rintro e w1 ⟨rfl, rfl⟩
    go_wp2_with fail
    refine (Hn.out _).mono ?_
    rintro e w2 ⟨rfl, hb2⟩
    go_wp2_with fail
    go_ret
    exact ⟨rfl, below_next (belowA (Below.refl _ _) _) hb2⟩
  all_goals
    cases ok with
    | false =>
      go_enter Tryz.func179, Tryz.ntmps179
      go_wp2_with fail
      refine HI.out.mono ?_
      rintro e w1 ⟨rfl, rfl⟩
      go_wp2_with fail
      refine (Hn.out _).mono ?_
      rintro e w2 ⟨rfl, hb2⟩
      go_wp2_with fail
      refine (HPa.out _).mono ?_
      rintro e w3 ⟨rfl, hb3⟩
      go_wp2_with fail
      go_ret
      exact ⟨rfl, belowA (below_next (below_next (belowA (Below.refl _ _) _) hb2) hb3) _⟩
    | true =>
      have hk1 : kk = 1 := Hkk.out.2 rfl
      subst hk1
      go_enter Tryz.func179, Tryz.ntmps179
      go_wp2_with fail
      refine HI.out.mono ?_
      rintro e w1 ⟨rfl, rfl⟩
      go_wp2_with fail
      refine (Hn.out _).mono ?_
      rintro e w2 ⟨rfl, hb2⟩
      go_wp2_with fail
      refine (HPa.out _).mono ?_
      rintro e w3 ⟨rfl, hb3⟩
      have hra : (w3.alloc (.cells #[.int .i64 1, .int .i64 nn, .string tt] 89)).heap[w3.heap.size]? = some (.cells #[.int .i64 1, .int .i64 nn, .string tt] 89 (0, 0)) := heapNew rfl
      obtain ⟨x0, x1, x2, -, -, -⟩ := three_facts hra
      clear hra
      go_wp2_with fail
      go_ret
      exact ⟨rfl, belowA (below_next (below_next (belowA (Below.refl _ _) _) hb2) hb3) _⟩
end Go.Proofs.YtgphngjniplonaaGreatDoor
