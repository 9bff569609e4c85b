/- My own texts LexS, Has, LexW, LFrame, Exp, as far as this claim needs them. -/
import Derived.Test.YtfklheagafffmaaGreatDoorZo2
import Derived.Test.YtfklheagafffmaaGreatDoorZo3
set_option linter.unusedVariables false
set_option linter.unusedSimpArgs false
namespace Go.Proofs.YtfklheagafffmaaGreatDoor
open Go.RowKit
theorem idx_byte (c : UInt8) : ∀ l : List UInt8, Lib.indexByte l c = if c ∈ l then ((l.takeWhile (· != c)).length : Int) else -1
  | [] => by simp [Lib.indexByte]
  | d :: l => by
    have ih := idx_byte c l
    unfold Lib.indexByte
    by_cases h : d = c
    · subst h; simp
    · have h1 : (d == c) = false := by simpa using h
      have h2 : (d != c) = true := by simpa using h
      rw [h1, ih, List.takeWhile_cons, h2]
      by_cases hm : c ∈ l
      · have h3 : ¬ (((l.takeWhile (· != c)).length : Int) == -1) = true := by simp
        simp [hm, h3]
      · have h4 : ¬ c ∈ d :: l := by simp [hm, Ne.symm h]
        simp [hm, h4]
theorem idx_blank (c : UInt8) : decide (0 ≤ Lib.indexByte [9, 10, 13, 32] c) = blankB c := by
  rw [idx_byte]
  unfold blankB
  by_cases h : c = 9 ∨ c = 10 ∨ c = 13 ∨ c = 32
  · rcases h with rfl | rfl | rfl | rfl <;> simp
  · simp only [not_or] at h
    simp [h]
theorem take_ne (l : List UInt8) (h : (10 : UInt8) ∉ l) : l.takeWhile (· != 10) = l := by
  induction l with
  | nil => rfl
  | cons d l ih =>
    simp only [List.mem_cons, not_or] at h
    rw [List.takeWhile_cons]
    have : (d != 10) = true := by simpa using Ne.symm h.1
    rw [this, if_pos rfl, ih h.2]
theorem take_lt (l : List UInt8) (h : (10 : UInt8) ∈ l) : (l.takeWhile (· != 10)).length + 1 ≤ l.length := by
  induction l with
  | nil => cases h
  | cons d l ih =>
    rw [List.takeWhile_cons]
    by_cases hd : d = 10
    · subst hd; simp
    · have : (d != 10) = true := by simpa using hd
      rw [this, if_pos rfl]
      have := ih (by simpa [Ne.symm hd] using h)
      simp only [List.length_cons]; omega
set_option maxRecDepth 100000 in
set_option maxHeartbeats 1000000 in
theorem idx10_any (s : ByteArray) (hne : (([10] : List UInt8) == s.toList) = false) (w : World) : Calls Tryz.prog 177 #[.string s, .string ⟨#[10]⟩] w (RetSame' (Lib.indexByte s.toList 10) w) := by
  have HI : Hid (∀ w, Calls Tryz.prog 161 #[.string s, .int .u8 10] w (RetSame' (Lib.indexByte s.toList 10) w)) := by
    intro w
    have h := Any.stringslite_IndexByte { Tryz.lays137 with } s 10 w
    rw [← ByteArray.toList_eq] at h
    exact h
  generalize Lib.indexByte s.toList 10 = R at HI ⊢
  go_enter Tryz.func177, Tryz.ntmps177
  go_wp2_with (go_at_call 161; refine (HI.out _).mono ?_; rintro e w1 ⟨rfl, rfl⟩)
  go_ret
  exact ⟨rfl, rfl⟩
def CutPost (s : ByteArray) (w : World) (e : Ending) (w' : World) : Prop := ∃ (a : ByteArray) (b c : Value), e = .returned (.tuple #[.string a, b, c]) ∧ a.size = (s.toList.takeWhile (· != 10)).length ∧ Below w.heap.size w w'
set_option maxRecDepth 100000 in
set_option maxHeartbeats 1000000 in
theorem cutL_any (s : ByteArray) (hs : s.size ≤ 140737488351232) (hne : (([10] : List UInt8) == s.toList) = false) (w : World) : Calls Tryz.prog 162 #[.string s, .string ⟨#[10]⟩] w (CutPost s w) := by
  have HI := Lib.hid (idx10_any s hne)
  have Hlen := Lib.hid (ba_len s)
  by_cases hm : (10 : UInt8) ∈ s.toList
  · have hlt := take_lt _ hm
    have e1 : Lib.indexByte s.toList 10 = ((s.toList.takeWhile (· != 10)).length : Int) := by rw [idx_byte, if_pos hm]
    rw [e1] at HI
    obtain ⟨k, hk⟩ : ∃ k, Hid (k = (s.toList.takeWhile (· != 10)).length) := ⟨_, rfl⟩
    have hks : k + 1 ≤ s.size := by have := hk.out; have := Hlen.out; omega
    rw [← hk.out] at HI
    have c1 : (0 : Int) ≤ (k : Int) := by omega
    have c2 : (k : Int) ≤ (s.size : Int) := by omega
    have c3 : (0 : Int) ≤ (k : Int) + 1 := by omega
    have c4 : (k : Int) + 1 ≤ (s.size : Int) := by omega
    have c5 : IntKind.i64.wrap ((k : Int) + 1) = (k : Int) + 1 := by simp [IntKind.wrap, IntKind.signed, IntKind.bits]; omega
    clear hm hlt e1 hne
    go_enter Tryz.func162, Tryz.ntmps162
    go_wp2_with (go_at_call 177; refine (HI.out _).mono ?_; rintro e w1 ⟨rfl, rfl⟩)
    go_quiet (fail)
    go_wp2_with fail
    go_ret3
    refine ⟨_, _, _, rfl, ?_, below_drewN _ _ _⟩
    show ByteArray.size (s.extract 0 k) = _
    rw [← hk.out]
    simp; omega
  · have e1 : Lib.indexByte s.toList 10 = -1 := by rw [idx_byte, if_neg hm]
    rw [e1] at HI
    have hl : Hid (s.size = (s.toList.takeWhile (· != 10)).length) := by show _ = _; rw [take_ne _ hm, Hlen.out]
    clear hm e1 hne
    go_enter Tryz.func162, Tryz.ntmps162
    go_wp2_with (go_at_call 177; refine (HI.out _).mono ?_; rintro e w1 ⟨rfl, rfl⟩)
    go_ret3
    exact ⟨_, _, _, rfl, hl.out, Below.refl _ _⟩
set_option maxRecDepth 100000 in
set_option maxHeartbeats 1000000 in
theorem cut_any (s : ByteArray) (hs : s.size ≤ 140737488351232) (hne : (([10] : List UInt8) == s.toList) = false) (w : World) : Calls Tryz.prog 149 #[.string s, .string ⟨#[10]⟩] w (CutPost s w) := by
  have HI := Lib.hid (cutL_any s hs hne)
  clear hne
  go_enter Tryz.func149, Tryz.ntmps149
  go_wp2_with fail
  refine (HI.out _).mono ?_
  rintro e w1 ⟨a, b, c, rfl, ha, hb⟩
  have Ha := Lib.hid ha
  clear ha
  go_wp2_with fail
  go_ret3
  exact ⟨_, _, _, rfl, Ha.out, hb⟩
set_option maxRecDepth 100000 in
set_option maxHeartbeats 2000000 in
theorem skip_any (s : ByteArray) (hs : s.size ≤ 140737488351232) (a : Nat) (ha : a ≤ s.size) (w : World) : Calls Tryz.prog 135 #[.string s, .int .i64 a] w (RetInt ((a + skipG false (s.toList.drop a) : Nat) : Int) w) := by
  have Hlen := Lib.hid (ba_len s)
  have HB : Hid (∀ (c : UInt8) w, Calls Tryz.prog 148 #[.string ⟨#[9, 10, 13, 32]⟩, .int .u8 c.toNat] w (fun e w' => ∃ n : Int, e = .returned (.int .i64 n) ∧ decide (0 ≤ n) = blankB c ∧ w' = w)) := by
    intro c w
    refine (Tryz.strings_IndexByte ⟨#[9, 10, 13, 32]⟩ c.toNat w).mono ?_
    rintro e w1 ⟨rfl, rfl⟩
    refine ⟨_, rfl, ?_, rfl⟩
    have h := idx_blank c
    simpa using h
  obtain ⟨R, HR⟩ : ∃ R : Nat, Hid (R = a + skipG false (s.toList.drop a)) := ⟨_, rfl⟩
  rw [← HR.out]
  go_enter Tryz.func135, Tryz.ntmps135
  go_wp2
  go_loopw [1, 5, 6, 7, 8, 17, 23] (fun i _ _ _ _ _ _ wr => ∃ k : Nat, k ≤ s.size ∧ i = .int .i64 k ∧ Hid (R = k + skipG false (s.toList.drop k)) ∧ Below w.heap.size w wr) (fun i _ _ _ _ _ _ _ => s.size - (intOf i).toNat)
  case atStart => exact ⟨a, ha, rfl, HR, Below.refl _ _⟩
  case round =>
    obtain ⟨k, hk, rfl, HK, hbr⟩ := hrel
    have i0 : (0 : Int) ≤ (k : Int) := by omega
    by_cases hlt : k < s.size
    · have i1 : (k : Int) < (s.size : Int) := by omega
      have i2 : (k : Int) ≤ (s.size : Int) := by omega
      have HD : Hid (s.toList.drop k = (s[k]'hlt) :: s.toList.drop (k + 1)) := by
        show _ = _
        have h1 := ba_get hlt
        obtain ⟨h2, h3⟩ := List.getElem?_eq_some_iff.1 h1
        rw [List.drop_eq_getElem_cons h2, h3]
      have HC := Lib.hid (HB.out (s[k]'hlt) wr)
      cases hbl : blankB (s[k]'hlt) with
      | true =>
        have HK2 : Hid (R = k + 1 + skipG false (s.toList.drop (k + 1))) := by
          show _ = _; rw [HK.out, HD.out, skip_one hbl]; omega
        clear HK HR ha
        go_wp2_with fail
        refine HC.out.mono ?_
        rintro e w1 ⟨n, rfl, hn, rfl⟩
        rw [hbl] at hn
        go_wp2_with fail
        go_roundw
        case rel => exact ⟨k + 1, by omega, by go_num, HK2, hbr⟩
        case measure => simp [intOf]; omega
      | false =>
        by_cases hp : (s[k]'hlt) = 37
        · have z0 : (((s[k]'hlt).toNat : Int) == 37) = true := by rw [hp]; decide
          obtain ⟨m, Hm⟩ : ∃ m, Hid (m = ((s.toList.drop k).takeWhile (· != 10)).length) := ⟨_, rfl⟩
          have hk1 : 1 ≤ m := by
            rw [Hm.out, HD.out, hp]
            simp
          have HT : Hid (m ≤ s.size - k) := by
            show _ ≤ _
            rw [Hm.out]
            have h1 : ((s.toList.drop k).takeWhile (· != 10)).length ≤ (s.toList.drop k).length := List.Sublist.length_le (List.takeWhile_sublist _)
            rw [List.length_drop, Hlen.out] at h1; exact h1
          have HK2 : Hid (R = k + m + skipG false (s.toList.drop (k + m))) := by
            show _ = _
            rw [HK.out, Hm.out]
            conv => lhs; rw [HD.out, hp, skip_per]
            rw [← hp, ← HD.out, List.drop_drop]; omega
          have hne : (([10] : List UInt8) == (s.extract k s.size).toList) = false := by
            rw [ba_drop, HD.out, hp]
            simp
          have HCut := Lib.hid (cut_any (s.extract k s.size) (by simp; omega) hne)
          rw [hbl] at HC
          have ht := HT.out
          clear HK HR ha hne hp
          go_wp2_with fail
          refine HC.out.mono ?_
          rintro e w1 ⟨n, rfl, hn, rfl⟩
          go_wp2_with fail
          refine (HCut.out _).mono ?_
          rintro e w2 ⟨x, b, c, rfl, hx, hbx⟩
          have Hx : Hid (x.size = m) := by show _ = _; rw [hx, Hm.out, ba_drop]
          have hxx := Hx.out
          clear hx
          go_wp2_with fail
          go_roundw
          case rel => exact ⟨k + m, by omega, by go_num, HK2, below_next hbr hbx⟩
          case measure => simp [intOf]; omega
        · have z0 : (((s[k]'hlt).toNat : Int) == 37) = false := by
            simp only [beq_eq_false_iff_ne, ne_eq]
            intro h; apply hp
            have h2 : (s[k]'hlt).toNat = 37 := by omega
            exact UInt8.toNat_inj.1 (by rw [h2]; rfl)
          have HK2 : Hid (R = k) := by show _ = _; rw [HK.out, HD.out, skip_zero hbl hp]; rfl
          rw [hbl] at HC
          clear HK HR ha hp
          go_wp2_with fail
          refine HC.out.mono ?_
          rintro e w1 ⟨n, rfl, hn, rfl⟩
          go_wp2_with fail
          go_ret
          exact ⟨by rw [HK2.out]; rfl, hbr⟩
    · have i1 : ¬ (k : Int) < (s.size : Int) := by omega
      have HK2 : Hid (R = k) := by
        show _ = _
        rw [HK.out, List.drop_eq_nil_of_le (by rw [Hlen.out]; omega)]; rfl
      clear HK HR ha
      go_wp2_with fail
      go_ret
      exact ⟨by rw [HK2.out]; rfl, hbr⟩
end Go.Proofs.YtfklheagafffmaaGreatDoor

namespace Go.Proofs.YtfklheagafffmaaGreatDoor
open Go.RowKit
theorem mem_take_succ {l : List ByteArray} {k : Nat} {s x : ByteArray} (hx : l[k]? = some x) : s ∈ l.take (k + 1) ↔ s ∈ l.take k ∨ x = s := by
  rw [List.take_add_one, hx]
  simp [eq_comm]
set_option maxRecDepth 100000 in
set_option maxHeartbeats 400000 in
theorem has_any (A : Option Addr) (n c : Nat) (l : List ByteArray) (s : ByteArray) (w : World) (hl : SliceIs Enc.str w w.heap.size A n c l) :
    Calls Tryz.prog 40 #[.slice A n c, .string s] w (RetBool (decide (s ∈ l)) w) := by
  have hn := hl.bound
  have hlen := Lib.hid hl.1
  go_enter Tryz.func40, Tryz.ntmps40
  go_wp2
  go_loop [5] (fun i => ∃ k : Nat, k ≤ n ∧ i = .int .i64 k ∧ Hid (s ∉ l.take k)) (fun i => n - (intOf i).toNat)
  case atStart => exact ⟨0, by omega, rfl, by simp [Hid]⟩
  case round =>
    obtain ⟨k, hk, rfl, hpre⟩ := hrel
    by_cases hlt : k < n
    · obtain ⟨b, o, x, rfl, _, hx, hc, hs⟩ := hl.str_at hlt
      have i0 : (0 : Int) ≤ (k : Int) := by omega
      have i1 : (k : Int) < (n : Int) := by omega
      have hb := World.block_lt_of_cell? w _ hc
      clear hl
      by_cases h1 : x = s
      · have h1' : (x.toList == s.toList) = true := by simp [h1]
        have HR : Hid (decide (s ∈ l) = true) := by show decide (s ∈ l) = true; rw [← h1]; simpa using List.mem_of_getElem? hx.out
        clear h1
        go_wp2
        go_ret
        exact ⟨by rw [HR.out]; rfl, Below.refl _ _⟩
      · have h1' : (x.toList == s.toList) = false := by simp [toList_inj, h1]
        have HN : Hid (s ∉ l.take (k + 1)) := by
          show ¬ _
          rw [mem_take_succ hx.out]; intro h; rcases h with h | h
          · exact hpre.out h
          · exact h1 h
        clear h1
        go_wp2
        go_round
        case rel => exact ⟨k + 1, by omega, by go_num, HN⟩
        case measure => simp [intOf]; omega
    · have HR : Hid (decide (s ∈ l) = false) := by
        show decide (s ∈ l) = false
        have h := hpre.out
        rw [List.take_of_length_le (by have := hlen.out; omega)] at h
        simpa using h
      have i1 : ¬ (k : Int) < (n : Int) := by omega
      go_wp2
      go_ret
      exact ⟨by rw [HR.out]; rfl, Below.refl _ _⟩
def IdxMem (b : Bool) (w : World) (e : Ending) (w' : World) : Prop := ∃ k : Int, e = .returned (.int .i64 k) ∧ decide (0 ≤ k) = b ∧ Below w.heap.size w w'
set_option maxRecDepth 100000 in
set_option maxHeartbeats 400000 in
theorem index_any (A : Option Addr) (n c : Nat) (l : List ByteArray) (s : ByteArray) (w : World) (hl : SliceIs Enc.str w w.heap.size A n c l) :
    Calls Tryz.prog 100 #[.slice A n c, .string s] w (IdxMem (decide (s ∈ l)) w) := by
  have hn := hl.bound
  have hlen := Lib.hid hl.1
  go_enter Tryz.func100, Tryz.ntmps100
  go_wp2
  go_loop [5, 8] (fun _ i => ∃ k : Nat, k ≤ n ∧ i = .int .i64 k ∧ Hid (s ∉ l.take k)) (fun _ i => n - (intOf i).toNat)
  case atStart => exact ⟨0, by omega, rfl, by simp [Hid]⟩
  case round =>
    obtain ⟨k, hk, rfl, hpre⟩ := hrel
    by_cases hlt : k < n
    · obtain ⟨b, o, x, rfl, _, hx, hc, hs⟩ := hl.str_at hlt
      have i0 : (0 : Int) ≤ (k : Int) := by omega
      have i1 : (k : Int) < (n : Int) := by omega
      have hb := World.block_lt_of_cell? w _ hc
      clear hl
      by_cases h1 : x = s
      · have h1' : (s.toList == x.toList) = true := by simp [h1]
        have HR : Hid (decide (s ∈ l) = true) := by show decide (s ∈ l) = true; rw [← h1]; simpa using List.mem_of_getElem? hx.out
        clear h1
        go_wp2
        go_ret
        exact ⟨_, rfl, by rw [HR.out]; simp, Below.refl _ _⟩
      · have h1' : (s.toList == x.toList) = false := by simp [toList_inj, Ne.symm h1]
        have HN : Hid (s ∉ l.take (k + 1)) := by
          show ¬ _
          rw [mem_take_succ hx.out]; intro h; rcases h with h | h
          · exact hpre.out h
          · exact h1 h
        clear h1
        go_wp2
        go_round
        case rel => exact ⟨k + 1, by omega, by go_num, HN⟩
        case measure => simp [intOf]; omega
    · have HR : Hid (decide (s ∈ l) = false) := by
        show decide (s ∈ l) = false
        have h := hpre.out
        rw [List.take_of_length_le (by have := hlen.out; omega)] at h
        simpa using h
      have i1 : ¬ (k : Int) < (n : Int) := by omega
      go_wp2
      go_ret
      exact ⟨_, rfl, by rw [HR.out]; rfl, Below.refl _ _⟩
set_option maxRecDepth 100000 in
theorem contains_any (A : Option Addr) (n c : Nat) (l : List ByteArray) (s : ByteArray) (w : World) (hl : SliceIs Enc.str w w.heap.size A n c l) :
    Calls Tryz.prog 73 #[.slice A n c, .string s] w (RetBool (decide (s ∈ l)) w) := by
  have hi := Lib.hid (index_any A n c l s w hl)
  clear hl
  go_enter Tryz.func73, Tryz.ntmps73
  go_wp2_with fail
  refine hi.out.mono ?_
  rintro e w1 ⟨k, rfl, hk, hb⟩
  have Hk := Lib.hid hk
  clear hk
  go_wp2_with fail
  go_ret
  exact ⟨by rw [← Hk.out]; rfl, hb⟩
end Go.Proofs.YtfklheagafffmaaGreatDoor

namespace Go.Proofs.YtfklheagafffmaaGreatDoor
open Go.RowKit
def keysL : List (List UInt8) := [[114, 101, 108], [105, 110, 116], [115, 121, 109], [110, 111, 116], [99, 111, 117, 110, 116], [115, 117, 109], [109, 105, 110], [109, 97, 120]]
def headN (l : List UInt8) : Nat := (l.headD 0).toNat
/-- what a word is -/
def wordK (l : List UInt8) : Int := if l ∈ keysL then 1 else if nameOk ⟨l.toArray⟩ then 2 else if greatB (headN l) && decide (l.length ≤ 32) then 3 else if (refNum l).isSome then 4 else 0
def bytes (l : List UInt8) : ByteArray := ⟨l.toArray⟩
theorem mem_bytes (s : ByteArray) (L : List (List UInt8)) : decide (s ∈ L.map bytes) = decide (s.toList ∈ L) := by
  rw [Bool.eq_iff_iff]
  simp only [decide_eq_true_eq, List.mem_map]
  constructor
  · rintro ⟨l, hl, rfl⟩; unfold bytes; rw [toList_mk]; exact hl
  · intro h; exact ⟨_, h, bytes_back s⟩
/-- an array of texts, laid -/
def StrsW (g : Nat) (L : List (List UInt8)) (W : World) : Prop := ∃ t fr, W.heap[g]? = some (.cells (L.map fun l => Value.string (bytes l)).toArray t fr)
theorem StrsW.on {g : Nat} {L : List (List UInt8)} {w W : World} (h : StrsW g L w) (hb : Below w.heap.size w W) : StrsW g L W := by
  obtain ⟨t, fr, h⟩ := h
  exact ⟨t, fr, (hb.block g (Array.getElem?_eq_some_iff.1 h).1).trans h⟩
theorem StrsW.is {g : Nat} {L : List (List UInt8)} {w : World} (h : StrsW g L w) (hl : L.length ≤ 1000) (hb : ∀ l ∈ L, l.length ≤ 1000) : SliceIs Enc.str w w.heap.size (some ⟨g, 0, none⟩) L.length L.length (L.map bytes) := by
  obtain ⟨t, fr, h⟩ := h
  refine ⟨by simp, Nat.le_refl _, by simp [maxLen]; omega, by simp [reachN]; omega, .inr ⟨g, 0, rfl, (Array.getElem?_eq_some_iff.1 h).1, ?_⟩⟩
  intro i x hx
  rw [List.getElem?_map] at hx
  obtain ⟨l, hl', rfl⟩ := Option.map_eq_some_iff.1 hx
  refine ⟨[.string (bytes l)], ⟨rfl, ?_⟩, ?_⟩
  · have := hb l (List.mem_of_getElem? hl')
    have e : (bytes l).size = l.length := by rw [← ba_len]; unfold bytes; rw [toList_mk]
    rw [e]; simp [reachN]; omega
  · intro j v hj
    match j, hj with
    | 0, hj =>
      simp at hj; subst hj
      rw [cell_of_row _ _ _ _ _ _ h]
      show _ = _
      simp [Enc.str, hl']
    | j + 1, hj => simp at hj
structure LexW (W : World) : Prop where
  tab : TabW W
  err : ErrW W
  keys : StrsW 3 keysL W
  signs : StrsW 2 signsL W
theorem LexW.on {w W : World} (h : LexW w) (hb : Below w.heap.size w W) : LexW W := ⟨h.tab.on hb, h.err.on hb, h.keys.on hb, h.signs.on hb⟩
/-- the program's way to tell a number -/
def numB (l : List UInt8) : Bool := match Lib.atoiAll l with
  | .ok n => decide (n ≤ 2147483647) && decide (Lib.itoa n = l)
  | _ => false
theorem numB_ref (l : List UInt8) (h : l.head? ≠ some 45) : numB l = (refNum l).isSome := by
  rw [← own_eq_ref]
  unfold numB ownNum
  cases Lib.atoiAll l with
  | ok n =>
    by_cases h1 : Lib.itoa n = l
    · have h0 : 0 ≤ n := by
        by_cases hn : 0 ≤ n
        · exact hn
        · exfalso
          apply h
          rw [← h1]
          unfold Lib.itoa
          rw [if_pos (by omega)]; rfl
      by_cases h2 : n ≤ 2147483647
      · have h3 : bnd31 n = true := by simp [bnd31]; omega
        simp [h1, h2, h3]
      · have h3 : bnd31 n = false := by simp [bnd31]; omega
        simp [h1, h2, h3]
    · simp [h1]
  | _ => rfl
set_option maxRecDepth 100000 in
set_option maxHeartbeats 2000000 in
theorem word_any (s : ByteArray) (hs : s.size ≤ 140737488351232) (h1 : 1 ≤ s.size) (hh : s.toList.head? ≠ some 45) (w : World) (hW : LexW w) : Calls Tryz.prog 151 #[.string s] w (RetInt (wordK s.toList) w) := by
  have HW := Lib.hid hW
  have HC := Lib.hid (contains_any _ _ _ _ s w (hW.keys.is (by decide) (by decide)))
  have Hn := Lib.hid (fun w => name_any s w)
  have Hg := Lib.hid (fun w => great_any (s[0]'h1).toNat w)
  have e0 : headN s.toList = (s[0]'h1).toNat := by
    have := ba_head h1
    cases hl : s.toList with
    | nil => rw [hl] at this; cases this
    | cons c r => rw [hl] at this; simp at this; simp [headN, this]
  have e1 : nameOk ⟨s.toList.toArray⟩ = nameOk s := by rw [bytes_back]
  have e2 : s.toList.length = s.size := ba_len s
  have HQ : Hid (wordK s.toList = if decide (s ∈ keysL.map bytes) then (1 : Int) else if nameOk s then (2 : Int) else if greatB (s[0]'h1).toNat && decide (s.size ≤ 32) then (3 : Int) else if numB s.toList then (4 : Int) else (0 : Int)) := by
    show _ = _
    unfold wordK
    rw [e0, e1, e2, mem_bytes, numB_ref _ hh]
    simp
  have HA := Lib.hid (fun (W : World) (hb : Below w.heap.size w W) => atoi_any s hs W (hW.err.on hb))
  have HI := Lib.hid (fun (n : Int) (hn : fits n) (W : World) (hb : Below w.heap.size w W) => itoa_any n hn W (hW.tab.on hb))
  have h1n : (0 : Int) < (s.size : Int) := by omega
  rw [HQ.out]
  clear hh hW e0 e1 e2 HQ
  cases hk : decide (s ∈ keysL.map bytes) with
  | true =>
    rw [hk] at HC
    simp only [if_true]
    go_enter Tryz.func151, Tryz.ntmps151
    go_wp2_with fail
    refine HC.out.mono ?_
    rintro e w1 ⟨rfl, hb⟩
    go_wp2_with fail
    go_ret
    exact ⟨rfl, hb⟩
  | false =>
  rw [hk] at HC
  clear hk
  simp only [Bool.false_eq_true, if_false]
  cases hN : nameOk s with
  | true =>
    rw [hN] at Hn
    simp only [if_true]
    go_enter Tryz.func151, Tryz.ntmps151
    go_wp2_with fail
    refine HC.out.mono ?_
    rintro e w1 ⟨rfl, hb⟩
    go_wp2_with fail
    refine (Hn.out _).mono ?_
    rintro e w2 ⟨rfl, hb2⟩
    go_wp2_with fail
    go_ret
    exact ⟨rfl, below_next hb hb2⟩
  | false =>
  rw [hN] at Hn
  clear hN
  simp only [Bool.false_eq_true, if_false]
  have HAll : Hid (∀ (W : World) (hb : Below w.heap.size w W), Calls Tryz.prog 137 #[.string s] W (AtoiPost s W)) := HA.out
  clear HA
  cases hG : greatB (s[0]'h1).toNat with
  | true =>
    rw [hG] at Hg
    by_cases h32 : s.size ≤ 32
    · have z0 : (s.size : Int) ≤ 32 := by omega
      simp only [h32, decide_true, Bool.and_self, if_true]
      clear h32 hG
      go_enter Tryz.func151, Tryz.ntmps151
      go_wp2_with fail
      refine HC.out.mono ?_
      rintro e w1 ⟨rfl, hb⟩
      go_wp2_with fail
      refine (Hn.out _).mono ?_
      rintro e w2 ⟨rfl, hb2⟩
      go_wp2_with fail
      refine (Hg.out _).mono ?_
      rintro e w3 ⟨rfl, rfl⟩
      go_wp2_with fail
      go_ret
      exact ⟨rfl, below_next hb hb2⟩
    · have z0 : ¬ (s.size : Int) ≤ 32 := by omega
      simp only [h32, decide_false, Bool.and_false, Bool.false_eq_true, if_false]
      clear h32 hG
      obtain ⟨R, HR⟩ : ∃ R : Int, Hid (R = if numB s.toList then 4 else 0) := ⟨_, rfl⟩
      rw [← HR.out]
      go_enter Tryz.func151, Tryz.ntmps151
      go_wp2_with fail
      refine HC.out.mono ?_
      rintro e w1 ⟨rfl, hb⟩
      go_wp2_with fail
      refine (Hn.out _).mono ?_
      rintro e w2 ⟨rfl, hb2⟩
      replace hb := below_next hb hb2
      go_wp2_with fail
      refine (Hg.out _).mono ?_
      rintro e w3 ⟨rfl, rfl⟩
      go_wp2_with fail
      refine (HAll.out _ hb).mono ?_
      rintro e w4 ⟨n, ev, hfn, rfl, hb4, hor⟩
      replace hb := below_next hb hb4
      rcases hor with ⟨ha, rfl⟩ | ⟨ha, T, q, rfl⟩
      rotate_left
      · have HR2 : Hid (R = 0) := by
          show _ = _
          rw [HR.out]; unfold numB
          cases h : Lib.atoiAll s.toList with
          | ok m => exact absurd h (ha m)
          | _ => rfl
        clear ha HR
        go_wp2_with fail
        go_ret
        exact ⟨by rw [HR2.out]; rfl, hb⟩
      by_cases hn : n ≤ 2147483647
      · have HT := Lib.hid (HI.out n hfn _ hb)
        by_cases hi : Lib.itoa n = s.toList
        · have HR2 : Hid (R = 4) := by show _ = _; rw [HR.out]; simp [numB, ha, hn, hi]
          have Hi := Lib.hid hi
          clear ha HR hi HI
          go_wp2_with fail
          refine HT.out.mono ?_
          rintro e w5 ⟨t, ht, -, rfl, hb5⟩
          have z1 : (t.toList == s.toList) = true := by rw [ht.out, toList_mk, Hi.out]; simp
          go_wp2_with fail
          go_ret
          exact ⟨by rw [HR2.out]; rfl, below_next hb hb5⟩
        · have HR2 : Hid (R = 0) := by show _ = _; rw [HR.out]; simp [numB, ha, hi]
          have Hi := Lib.hid hi
          clear ha HR hi HI
          go_wp2_with fail
          refine HT.out.mono ?_
          rintro e w5 ⟨t, ht, -, rfl, hb5⟩
          have z1 : (t.toList == s.toList) = false := by rw [ht.out, toList_mk]; simpa using Hi.out
          go_wp2_with fail
          go_ret
          exact ⟨by rw [HR2.out]; rfl, below_next hb hb5⟩
      · have HR2 : Hid (R = 0) := by show _ = _; rw [HR.out]; simp [numB, ha, hn]
        clear ha HR HI
        go_wp2_with fail
        go_ret
        exact ⟨by rw [HR2.out]; rfl, hb⟩
  | false =>
    rw [hG] at Hg
    simp only [Bool.false_and, Bool.false_eq_true, if_false]
    clear hG
    obtain ⟨R, HR⟩ : ∃ R : Int, Hid (R = if numB s.toList then 4 else 0) := ⟨_, rfl⟩
    rw [← HR.out]
    go_enter Tryz.func151, Tryz.ntmps151
    go_wp2_with fail
    refine HC.out.mono ?_
    rintro e w1 ⟨rfl, hb⟩
    go_wp2_with fail
    refine (Hn.out _).mono ?_
    rintro e w2 ⟨rfl, hb2⟩
    replace hb := below_next hb hb2
    go_wp2_with fail
    refine (Hg.out _).mono ?_
    rintro e w3 ⟨rfl, rfl⟩
    go_wp2_with fail
    refine (HAll.out _ hb).mono ?_
    rintro e w4 ⟨n, ev, hfn, rfl, hb4, hor⟩
    replace hb := below_next hb hb4
    rcases hor with ⟨ha, rfl⟩ | ⟨ha, T, q, rfl⟩
    rotate_left
    · have HR2 : Hid (R = 0) := by
        show _ = _
        rw [HR.out]; unfold numB
        cases h : Lib.atoiAll s.toList with
        | ok m => exact absurd h (ha m)
        | _ => rfl
      clear ha HR
      go_wp2_with fail
      go_ret
      exact ⟨by rw [HR2.out]; rfl, hb⟩
    by_cases hn : n ≤ 2147483647
    · have HT := Lib.hid (HI.out n hfn _ hb)
      by_cases hi : Lib.itoa n = s.toList
      · have HR2 : Hid (R = 4) := by show _ = _; rw [HR.out]; simp [numB, ha, hn, hi]
        have Hi := Lib.hid hi
        clear ha HR hi HI
        go_wp2_with fail
        refine HT.out.mono ?_
        rintro e w5 ⟨t, ht, -, rfl, hb5⟩
        have z1 : (t.toList == s.toList) = true := by rw [ht.out, toList_mk, Hi.out]; simp
        go_wp2_with fail
        go_ret
        exact ⟨by rw [HR2.out]; rfl, below_next hb hb5⟩
      · have HR2 : Hid (R = 0) := by show _ = _; rw [HR.out]; simp [numB, ha, hi]
        have Hi := Lib.hid hi
        clear ha HR hi HI
        go_wp2_with fail
        refine HT.out.mono ?_
        rintro e w5 ⟨t, ht, -, rfl, hb5⟩
        have z1 : (t.toList == s.toList) = false := by rw [ht.out, toList_mk]; simpa using Hi.out
        go_wp2_with fail
        go_ret
        exact ⟨by rw [HR2.out]; rfl, below_next hb hb5⟩
    · have HR2 : Hid (R = 0) := by show _ = _; rw [HR.out]; simp [numB, ha, hn]
      clear ha HR HI
      go_wp2_with fail
      go_ret
      exact ⟨by rw [HR2.out]; rfl, hb⟩
end Go.Proofs.YtfklheagafffmaaGreatDoor

namespace Go.Proofs.YtfklheagafffmaaGreatDoor
open Go.ChangeShapes Go.WideShapes Go.ChangeAt Go.RowKit
set_option linter.unusedVariables false
/-- a list of texts as laid data -/
def strsData {H : Type} (L : List (List UInt8)) : DataW H := .agg (L.map fun l => .lit (.string l))
theorem cells_of_strs {H : Type} {enc : TypeId × Value → H} {P : Program} {w : World} {base : Nat} {sp : Nat → Bool} {held : Bool} {fuel : Nat} {t e : TypeId} {n : Nat} {cs : List Value} {L : List (List UInt8)} {p : List MemPlace}
    (ht : P.underlying t = some (.array n e)) (he : P.underlying e = some .string) (hce : P.cellsOf e = 1) (hct : P.cellsOf t = n)
    (h : DataW.trod enc P w base sp held fuel t cs = some (strsData L, p)) : cs = L.map fun l => Value.string (bytes l) := by
  cases fuel with
  | zero => simp [DataW.trod] at h
  | succ fuel =>
    simp only [DataW.trod, ht, hce, hct, Nat.mul_one] at h
    split at h
    · rename_i hl
      obtain ⟨xs, hm, hx⟩ := Option.map_eq_some_iff.1 h
      have hxs : xs.map (·.1) = L.map fun l => (DataW.lit (.string l) : DataW H) := by
        have := congrArg Prod.fst hx
        simpa [strsData] using this
      have hxl : xs.length = n := by simpa using Lib.mapM_length hm
      have hzl : L.length = n := by
        have := congrArg List.length hxs
        simp at this
        omega
      apply List.ext_getElem?
      intro i
      by_cases hi : i < n
      · obtain ⟨b, hb, hf⟩ := Lib.mapM_at hm i i (by simp [hi])
        obtain ⟨z, hc, rfl, _⟩ := DataW.trod_string he hf
        have h1 : cs[i]? = some (.string z) := by
          have := congrArg (·[0]?) hc
          simpa [List.getElem?_take, List.getElem?_drop] using this
        have h2 : (xs.map (·.1))[i]? = some (DataW.lit (.string z.data.toList) : DataW H) := by simp [hb]
        rw [hxs] at h2
        simp only [List.getElem?_map, Option.map_eq_some_iff, DataW.lit.injEq, Lit.string.injEq] at h2
        obtain ⟨z', hz', hzz⟩ := h2
        have e1 : bytes z' = z := by rw [hzz]; rfl
        simp [h1, hz', e1]
      · rw [List.getElem?_eq_none (by omega), List.getElem?_eq_none (by simp; omega)]
    · cases h
theorem strs_of_head {P : Program} {W : World} {name : String} {L : List (List UInt8)} {rest : List (String × DataW Unit)} {g : Nat} {t e : TypeId} {n : Nat}
    (hg : P.globalNamed name = some g) (hty : (P.globals[g]?).map (·.type) = some t) (ht : P.underlying t = some (.array n e)) (he : P.underlying e = some .string) (hce : P.cellsOf e = 1) (hct : P.cellsOf t = n)
    (h : laidMet P ((name, strsData L) :: rest) W) : StrsW g L W := by
  obtain ⟨ps, ⟨g', t', cs, fuel, p, q, hg', ht', hvar, hd, _, _⟩, _⟩ := h
  obtain rfl := Option.some.inj (hg.symm.trans hg')
  obtain rfl := Option.some.inj (hty.symm.trans ht')
  have e1 := cells_of_strs ht he hce hct hd
  simp only [World.var?, hg, Option.bind_some] at hvar
  split at hvar
  · rename_i c t2 fr hb
    injection hvar with hvar
    refine ⟨t2, fr, hb.trans ?_⟩
    rw [hvar, ← e1]
  · cases hvar
theorem keys_eq {H : Type} : (Rows.laid_corollary_lex_keys : DataW H) = strsData keysL := rfl
theorem signs_eq {H : Type} : (Rows.laid_corollary_lex_signs : DataW H) = strsData signsL := rfl
theorem gK : Tryz.prog.globalNamed "corollary/lex.keys" = some 3 := by kernel_rfl
theorem gKT : (Tryz.prog.globals[3]?).map (·.type) = some 219 := by kernel_rfl
theorem gS : Tryz.prog.globalNamed "corollary/lex.signs" = some 2 := by kernel_rfl
theorem gST : (Tryz.prog.globals[2]?).map (·.type) = some 215 := by kernel_rfl
end Go.Proofs.YtfklheagafffmaaGreatDoor

namespace Go.Proofs.YtfklheagafffmaaGreatDoor
open Go.RowKit
/-- an expression -/
inductive GExp where
  | mk (op : Int) (t : GTold) (kids : List GExp)
def GExp.op : GExp → Int | .mk o _ _ => o
def GExp.t : GExp → GTold | .mk _ t _ => t
def GExp.kids : GExp → List GExp | .mk _ _ k => k
/-- an expression over kids that lie as E says -/
def Enc.expStep (E : Enc GExp) : Enc GExp where
  sz := 6
  ok := fun w B cs e => ∃ A n c, cs = [.int .i64 e.op, .string e.t.x, .int .i64 e.t.v.k, .int .i64 e.t.v.n, .string e.t.v.s, .slice A n c] ∧ fits e.op ∧ e.t.x.size ≤ reachN ∧ e.t.v.ok ∧ SliceIs E w B A n c e.kids
  mono := fun hB hk ⟨A, n, c, h1, h2, h3, h4, h5⟩ => ⟨A, n, c, h1, h2, h3, h4, h5.mono' hB hk⟩
  len := fun ⟨_, _, _, h, _⟩ => by rw [h]; rfl
def Enc.expNone : Enc GExp where
  sz := 6
  ok := fun _ _ _ _ => False
  mono := fun _ _ h => h
  len := fun h => h.elim
/-- an expression of a depth below d -/
def Enc.exp : Nat → Enc GExp
  | 0 => Enc.expNone
  | d + 1 => Enc.expStep (Enc.exp d)
theorem Enc.exp_sz : ∀ d, (Enc.exp d).sz = 6
  | 0 => rfl
  | _ + 1 => rfl
/-- the cells of the i-th of a list of expressions -/
theorem SliceIs.exp_at {w : World} {B : Nat} {A : Option Addr} {n c d : Nat} {l : List GExp} (h : SliceIs (Enc.exp d) w B A n c l) {i : Nat} (hi : i < n) :
    ∃ b o e A' n' c' d', A = some ⟨b, o, none⟩ ∧ b < B ∧ Hid (l[i]? = some e) ∧ d = d' + 1 ∧ w.cell? ⟨b, o + i * 6, none⟩ = some (.int .i64 e.op) ∧ w.cell? ⟨b, o + i * 6 + 1, none⟩ = some (.string e.t.x) ∧ w.cell? ⟨b, o + i * 6 + 2, none⟩ = some (.int .i64 e.t.v.k) ∧
      w.cell? ⟨b, o + i * 6 + 3, none⟩ = some (.int .i64 e.t.v.n) ∧ w.cell? ⟨b, o + i * 6 + 4, none⟩ = some (.string e.t.v.s) ∧ w.cell? ⟨b, o + i * 6 + 5, none⟩ = some (.slice A' n' c') ∧
      fits e.op ∧ e.t.x.size ≤ reachN ∧ e.t.v.ok ∧ SliceIs (Enc.exp d') w B A' n' c' e.kids := by
  obtain ⟨b, o, e, cs, hA, hb, hx, hok, hc⟩ := h.at_ hi
  cases d with
  | zero => exact hok.elim
  | succ d =>
    obtain ⟨A', n', c', rfl, h1, h2, h3, h4⟩ := hok
    rw [Enc.exp_sz] at hc
    exact ⟨b, o, e, A', n', c', d, hA, hb, hx, rfl, by simpa using hc 0 _ rfl, by simpa using hc 1 _ rfl, by simpa using hc 2 _ rfl, by simpa using hc 3 _ rfl, by simpa using hc 4 _ rfl, by simpa using hc 5 _ rfl, h1, h2, h3, h4⟩
/-- 'Opens', for readings of at most N steps -/
def OpensB {α : Type} (N : Nat) (P : Program) (t : TypeId) (E : Enc α) : Prop :=
  ∀ (H : Type) (enc : TypeId × Value → H) (w : World) (fuel : Nat) (cs : List Value) (x : DataW H × List MemPlace), fuel ≤ N →
    DataW.trod enc P w 0 (fun _ => true) true fuel t cs = some x → (∀ n ∈ x.1.weights P t, n ≤ reachBytes) → ∃ y : α, E.ok w w.heap.size cs y
theorem Opens.bound {α : Type} {P : Program} {t : TypeId} {E : Enc α} (h : Opens P t E) (N : Nat) : OpensB N P t E := fun H enc w fuel cs x _ hx hw => h H enc w fuel cs x hx hw
theorem opensB_slice {α : Type} {N : Nat} {P : Program} {t e : TypeId} {E : Enc α} (h : P.underlying t = some (.slice e)) (he : OpensB N P e E) (hc : P.cellsOf e = E.sz) (hz : 0 < E.sz) (hb : 0 < P.bytesOf e) : OpensB (N + 1) P t (Enc.slice E) := by
  intro H enc w fuel cs x hfu hx hwt
  rcases DataW.trod_slice h hx with ⟨rfl, _⟩ | ⟨a, len, cap, elems, rest, n, rfl, rfl, rfl, -, hl, hm, hel, hi, -, -⟩
  · exact ⟨[], none, 0, 0, rfl, SliceIs.nil⟩
  · have hw0 := hwt ((elems.length + rest.length) * P.bytesOf e) (by simp [DataW.weights, h])
    have hle : len ≤ reachN := by
      rw [reach_eq] at hw0
      have : elems.length + rest.length ≤ (elems.length + rest.length) * P.bytesOf e := Nat.le_mul_of_pos_right _ hb
      omega
    obtain ⟨l, hll, hq⟩ := choose_list (Q := fun i y => ∃ cs', w.cells? 0 (a.add (i * P.cellsOf e)) (P.cellsOf e) = some cs' ∧ E.ok w w.heap.size cs' y) len (fun i hil => by
      have h1 := hi i hil
      rw [List.getElem?_eq_getElem (by omega)] at h1
      obtain ⟨cs', h2, h3⟩ := Option.bind_eq_some_iff.1 h1
      obtain ⟨y, hy⟩ := he H enc w n cs' _ (by omega) h3 (fun q hq => hwt q (by
        simp only [DataW.weights, h, List.mem_cons, List.mem_append]
        exact .inr (.inl (weights_all (List.mem_map.2 ⟨elems[i]'(by omega), List.getElem_mem _, rfl⟩) q hq))))
      exact ⟨y, cs', h2, hy⟩)
    refine ⟨l, some a, len, cap, rfl, hll, hl, hm, hle, ?_⟩
    by_cases h0 : len = 0
    · exact .inl (List.eq_nil_of_length_eq_zero (by omega))
    · right
      have hcell : ∀ i y, l[i]? = some y → ∃ cs', E.ok w w.heap.size cs' y ∧ ∀ j v, cs'[j]? = some v → w.cell? (a.add (i * E.sz + j)) = some v := by
        intro i y hy
        obtain ⟨cs', h1, h2⟩ := hq i y hy
        refine ⟨cs', h2, fun j v hj => ?_⟩
        obtain ⟨_, hcl, hat⟩ := World.cells?_some h1
        have hjl : j < P.cellsOf e := by rw [← hcl]; exact (List.getElem?_eq_some_iff.1 hj).1
        have := hat j hjl
        rw [hj, Go.Deep.add_add, hc] at this
        exact this
      have hex : ∃ y, l[0]? = some y := by
        rw [List.getElem?_eq_getElem (by omega)]
        exact ⟨_, rfl⟩
      obtain ⟨y, hy⟩ := hex
      obtain ⟨cs', h1, h2⟩ := hcell 0 y hy
      have hlen := E.len h1
      obtain ⟨v, hv⟩ : ∃ v, cs'[0]? = some v := by
        rw [List.getElem?_eq_getElem (by omega)]
        exact ⟨_, rfl⟩
      have hc0 := h2 0 v hv
      obtain ⟨b, off, spot⟩ := a
      obtain rfl : spot = none := by simpa [Addr.add] using World.cell?_spot hc0
      refine ⟨b, off, rfl, ?_, fun i y hy => ?_⟩
      · exact World.block_lt_of_cell? w _ (by simpa [Addr.add] using hc0)
      · obtain ⟨cs', h1, h2⟩ := hcell i y hy
        refine ⟨cs', h1, fun j v hj => ?_⟩
        have h3 := h2 j v hj
        rw [Nat.add_assoc]
        unfold Addr.add at h3
        split at h3
        · rename_i h0
          rw [h0]
          exact h3
        · exact h3
theorem open_fieldsB {H : Type} {enc : TypeId × Value → H} {P : Program} {w : World} {t : TypeId} {fuel : Nat} {cs : List Value} {x : DataW H × List MemPlace} {fl : List (TypeId × Nat × Nat)} (hf : fieldsOf P t = fl) (h0 : fl ≠ [])
    (hx : DataW.trod enc P w 0 (fun _ => true) true fuel t cs = some x) (hwt : ∀ n ∈ x.1.weights P t, n ≤ reachBytes) :
    cs.length = P.cellsOf t ∧ ∃ n, fuel = n + 1 ∧ ∀ (j : Nat) (f : TypeId × Nat × Nat), fl[j]? = some f → ∃ y, DataW.trod enc P w 0 (fun _ => true) true n f.1 ((cs.drop f.2.1).take f.2.2) = some y ∧ ∀ n ∈ y.1.weights P f.1, n ≤ reachBytes := by
  unfold fieldsOf at hf
  split at hf
  · rename_i fs hs
    obtain ⟨xs, n, rfl, rfl, hl, hlen, hat⟩ := DataW.trod_struct hs hx
    refine ⟨hl, n, rfl, fun j f hj => ?_⟩
    subst hf
    rw [List.getElem?_map, Option.map_eq_some_iff] at hj
    obtain ⟨fd, hfd, rfl⟩ := hj
    have hfd' : fs[j]? = some fd := by simpa using hfd
    have h1 := hat j fd hfd'
    have hjl : j < fs.size := (Array.getElem?_eq_some_iff.1 hfd').1
    have hxj : xs[j]? = some (xs[j]'(by omega)) := List.getElem?_eq_getElem (by omega)
    refine ⟨_, h1.trans hxj, fun q hq => hwt q ?_⟩
    simp only [DataW.weights, hs]
    exact DataW.weights_mem_each (j := j) (t := fd.type) (d := (xs[j]'(by omega)).1) (by simp [hfd']) (by simp [hxj]) q hq
  · exact absurd hf.symm h0
theorem opens_exp {P : Program} {t a b c : TypeId} (hf : fieldsOf P t = [(a, 0, 1), (b, 1, 4), (c, 5, 1)]) (hz : P.cellsOf t = 6) (hby : 0 < P.bytesOf t) (ha : P.underlying a = some (.int .i64)) (hb : Opens P b Enc.told) (hc : P.underlying c = some (.slice t)) :
    ∀ N, OpensB N P t (Enc.exp (N + 1))
  | 0 => fun H enc w fuel cs x hfu hx _ => by
    obtain rfl : fuel = 0 := by omega
    simp [DataW.trod] at hx
  | N + 1 => by
    have ih := opens_exp hf hz hby ha hb hc N
    have ihs := opensB_slice hc ih (by rw [hz, Enc.exp_sz]) (by rw [Enc.exp_sz]; omega) hby
    intro H enc w fuel cs x hfu hx hwt
    obtain ⟨hl, n, rfl, hat⟩ := open_fieldsB hf (by simp) hx hwt
    rw [hz] at hl
    match cs, hl with
    | [u0, u1, u2, u3, u4, u5], _ =>
      obtain ⟨y, h, hw⟩ := hat 0 _ rfl
      obtain ⟨k, e0, f0⟩ := opens_int ha _ _ _ _ _ _ h hw
      obtain ⟨y, h, hw⟩ := hat 1 _ rfl
      obtain ⟨tt, e1, f1, f2⟩ := hb _ _ _ _ _ _ h hw
      obtain ⟨y, h, hw⟩ := hat 2 _ rfl
      obtain ⟨ks, A, m, d, e2, f3⟩ := ihs _ _ _ _ _ _ (by omega) h hw
      simp at e0 e1 e2
      obtain ⟨rfl, rfl, rfl, rfl⟩ := e1
      subst e0 e2
      exact ⟨.mk k tt ks, A, m, d, rfl, f0, f1, f2, f3⟩
end Go.Proofs.YtfklheagafffmaaGreatDoor
