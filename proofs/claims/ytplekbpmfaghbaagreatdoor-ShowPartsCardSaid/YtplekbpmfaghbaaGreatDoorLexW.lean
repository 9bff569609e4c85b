/- lex.word and lex.next. -/
import Derived.Test.YtplekbpmfaghbaaGreatDoorLexS
import Derived.Test.YtplekbpmfaghbaaGreatDoorHas
namespace Go.Proofs.YtplekbpmfaghbaaGreatDoor
open Go.RowKit

def keysL : List (List UInt8) := [[114, 101, 108], [105, 110, 116], [115, 121, 109], [110, 111, 116], [99, 111, 117, 110, 116], [115, 117, 109], [109, 105, 110], [109, 97, 120]]
def headN (l : List UInt8) : Nat := (l.headD 0).toNat
/-- what a word is -/
def wordK (l : List UInt8) : Int := if l ∈ keysL then 1 else if nameOk ⟨l.toArray⟩ then 2 else if greatB (headN l) && decide (l.length ≤ 32) then 3 else if (refNum l).isSome then 4 else 0
def bytes (l : List UInt8) : ByteArray := ⟨l.toArray⟩
theorem mem_bytes (s : ByteArray) (L : List (List UInt8)) : decide (s ∈ L.map bytes) = decide (s.toList ∈ L) := by
  rw [Bool.eq_iff_iff]
  simp only [decide_eq_true_eq, List.mem_map]
  constructor
  · rintro ⟨l, hl, rfl⟩; unfold bytes; rw [toList_mk]; exact hl
  · intro h; exact ⟨_, h, bytes_back s⟩
/-- an array of texts, laid -/
def StrsW (g : Nat) (L : List (List UInt8)) (W : World) : Prop := ∃ t fr, W.heap[g]? = some (.cells (L.map fun l => Value.string (bytes l)).toArray t fr)
theorem StrsW.on {g : Nat} {L : List (List UInt8)} {w W : World} (h : StrsW g L w) (hb : Below w.heap.size w W) : StrsW g L W := by
  obtain ⟨t, fr, h⟩ := h
  exact ⟨t, fr, (hb.block g (Array.getElem?_eq_some_iff.1 h).1).trans h⟩
theorem StrsW.is {g : Nat} {L : List (List UInt8)} {w : World} (h : StrsW g L w) (hl : L.length ≤ 1000) (hb : ∀ l ∈ L, l.length ≤ 1000) : SliceIs Enc.str w w.heap.size (some ⟨g, 0, none⟩) L.length L.length (L.map bytes) := by
  obtain ⟨t, fr, h⟩ := h
  refine ⟨by simp, Nat.le_refl _, by simp [maxLen]; omega, by simp [reachN]; omega, .inr ⟨g, 0, rfl, (Array.getElem?_eq_some_iff.1 h).1, ?_⟩⟩
  intro i x hx
  rw [List.getElem?_map] at hx
  obtain ⟨l, hl', rfl⟩ := Option.map_eq_some_iff.1 hx
  refine ⟨[.string (bytes l)], ⟨rfl, ?_⟩, ?_⟩
  · have := hb l (List.mem_of_getElem? hl')
    have e : (bytes l).size = l.length := by rw [← ba_len]; unfold bytes; rw [toList_mk]
    rw [e]; simp [reachN]; omega
  · intro j v hj
    match j, hj with
    | 0, hj =>
      simp at hj; subst hj
      rw [cell_of_row _ _ _ _ _ _ h]
      show _ = _
      simp [Enc.str, hl']
    | j + 1, hj => simp at hj
structure LexW (W : World) : Prop where
  tab : TabW W
  err : ErrW W
  keys : StrsW 7 keysL W
  signs : StrsW 5 signsL W
theorem LexW.on {w W : World} (h : LexW w) (hb : Below w.heap.size w W) : LexW W := ⟨h.tab.on hb, h.err.on hb, h.keys.on hb, h.signs.on hb⟩

/-- the program's way to tell a number -/
def numB (l : List UInt8) : Bool := match Lib.atoiAll l with
  | .ok n => decide (n ≤ 2147483647) && decide (Lib.itoa n = l)
  | _ => false
theorem numB_ref (l : List UInt8) (h : l.head? ≠ some 45) : numB l = (refNum l).isSome := by
  rw [← own_eq_ref]
  unfold numB ownNum
  cases Lib.atoiAll l with
  | ok n =>
    by_cases h1 : Lib.itoa n = l
    · have h0 : 0 ≤ n := by
        by_cases hn : 0 ≤ n
        · exact hn
        · exfalso
          apply h
          rw [← h1]
          unfold Lib.itoa
          rw [if_pos (by omega)]; rfl
      by_cases h2 : n ≤ 2147483647
      · have h3 : bnd31 n = true := by simp [bnd31]; omega
        simp [h1, h2, h3]
      · have h3 : bnd31 n = false := by simp [bnd31]; omega
        simp [h1, h2, h3]
    · simp [h1]
  | _ => rfl

set_option maxRecDepth 100000 in
set_option maxHeartbeats 2000000 in
theorem word_any (s : ByteArray) (hs : s.size ≤ 140737488351232) (h1 : 1 ≤ s.size) (hh : s.toList.head? ≠ some 45) (w : World) (hW : LexW w) : Calls Tryz.prog 200 #[.string s] w (RetInt (wordK s.toList) w) := by
  have HW := Lib.hid hW
  have HC := Lib.hid (contains_any _ _ _ _ s w (hW.keys.is (by decide) (by decide)))
  have Hn := Lib.hid (fun w => name_any s w)
  have Hg := Lib.hid (fun w => great_any (s[0]'h1).toNat w)
  have e0 : headN s.toList = (s[0]'h1).toNat := by
    have := ba_head h1
    cases hl : s.toList with
    | nil => rw [hl] at this; cases this
    | cons c r => rw [hl] at this; simp at this; simp [headN, this]
  have e1 : nameOk ⟨s.toList.toArray⟩ = nameOk s := by rw [bytes_back]
  have e2 : s.toList.length = s.size := ba_len s
  have HQ : Hid (wordK s.toList = if decide (s ∈ keysL.map bytes) then (1 : Int) else if nameOk s then (2 : Int) else if greatB (s[0]'h1).toNat && decide (s.size ≤ 32) then (3 : Int) else if numB s.toList then (4 : Int) else (0 : Int)) := by
    show _ = _
    unfold wordK
    rw [e0, e1, e2, mem_bytes, numB_ref _ hh]
    simp
  have HA := Lib.hid (fun (W : World) (hb : Below w.heap.size w W) => atoi_any s hs W (hW.err.on hb))
  have HI := Lib.hid (fun (n : Int) (hn : fits n) (W : World) (hb : Below w.heap.size w W) => itoa_any n hn W (hW.tab.on hb))
  have h1n : (0 : Int) < (s.size : Int) := by omega
  rw [HQ.out]
  clear hh hW e0 e1 e2 HQ
  cases hk : decide (s ∈ keysL.map bytes) with
  | true =>
    rw [hk] at HC
    simp only [if_true]
    go_enter Tryz.func200, Tryz.ntmps200
    go_wp2_with fail
    refine HC.out.mono ?_
    rintro e w1 ⟨rfl, hb⟩
    go_wp2_with fail
    go_ret
    exact ⟨rfl, hb⟩
  | false =>
  rw [hk] at HC
  clear hk
  simp only [Bool.false_eq_true, if_false]
  cases hN : nameOk s with
  | true =>
    rw [hN] at Hn
    simp only [if_true]
    go_enter Tryz.func200, Tryz.ntmps200
    go_wp2_with fail
    refine HC.out.mono ?_
    rintro e w1 ⟨rfl, hb⟩
    go_wp2_with fail
    refine (Hn.out _).mono ?_
    rintro e w2 ⟨rfl, hb2⟩
    go_wp2_with fail
    go_ret
    exact ⟨rfl, below_next hb hb2⟩
  | false =>
  rw [hN] at Hn
  clear hN
  simp only [Bool.false_eq_true, if_false]
  have HAll : Hid (∀ (W : World) (hb : Below w.heap.size w W), Calls Tryz.prog 194 #[.string s] W (AtoiPost s W)) := HA.out
  clear HA
  cases hG : greatB (s[0]'h1).toNat with
  | true =>
    rw [hG] at Hg
    by_cases h32 : s.size ≤ 32
    · have z0 : (s.size : Int) ≤ 32 := by omega
      simp only [h32, decide_true, Bool.and_self, if_true]
      clear h32 hG
      go_enter Tryz.func200, Tryz.ntmps200
      go_wp2_with fail
      refine HC.out.mono ?_
      rintro e w1 ⟨rfl, hb⟩
      go_wp2_with fail
      refine (Hn.out _).mono ?_
      rintro e w2 ⟨rfl, hb2⟩
      go_wp2_with fail
      refine (Hg.out _).mono ?_
      rintro e w3 ⟨rfl, rfl⟩
      go_wp2_with fail
      go_ret
      exact ⟨rfl, below_next hb hb2⟩
    · have z0 : ¬ (s.size : Int) ≤ 32 := by omega
      simp only [h32, decide_false, Bool.and_false, Bool.false_eq_true, if_false]
      clear h32 hG
      obtain ⟨R, HR⟩ : ∃ R : Int, Hid (R = if numB s.toList then 4 else 0) := ⟨_, rfl⟩
      rw [← HR.out]
      go_enter Tryz.func200, Tryz.ntmps200
      go_wp2_with fail
      refine HC.out.mono ?_
      rintro e w1 ⟨rfl, hb⟩
      go_wp2_with fail
      refine (Hn.out _).mono ?_
      rintro e w2 ⟨rfl, hb2⟩
      replace hb := below_next hb hb2
      go_wp2_with fail
      refine (Hg.out _).mono ?_
      rintro e w3 ⟨rfl, rfl⟩
      go_wp2_with fail
      refine (HAll.out _ hb).mono ?_
      rintro e w4 ⟨n, ev, hfn, rfl, hb4, hor⟩
      replace hb := below_next hb hb4
      rcases hor with ⟨ha, rfl⟩ | ⟨ha, T, q, rfl⟩
      rotate_left
      · have HR2 : Hid (R = 0) := by
          show _ = _
          rw [HR.out]; unfold numB
          cases h : Lib.atoiAll s.toList with
          | ok m => exact absurd h (ha m)
          | _ => rfl
        clear ha HR
        go_wp2_with fail
        go_ret
        exact ⟨by rw [HR2.out]; rfl, hb⟩
      by_cases hn : n ≤ 2147483647
      · have HT := Lib.hid (HI.out n hfn _ hb)
        by_cases hi : Lib.itoa n = s.toList
        · have HR2 : Hid (R = 4) := by show _ = _; rw [HR.out]; simp [numB, ha, hn, hi]
          have Hi := Lib.hid hi
          clear ha HR hi HI
          go_wp2_with fail
          refine HT.out.mono ?_
          rintro e w5 ⟨t, ht, -, rfl, hb5⟩
          have z1 : (t.toList == s.toList) = true := by rw [ht.out, toList_mk, Hi.out]; simp
          go_wp2_with fail
          go_ret
          exact ⟨by rw [HR2.out]; rfl, below_next hb hb5⟩
        · have HR2 : Hid (R = 0) := by show _ = _; rw [HR.out]; simp [numB, ha, hi]
          have Hi := Lib.hid hi
          clear ha HR hi HI
          go_wp2_with fail
          refine HT.out.mono ?_
          rintro e w5 ⟨t, ht, -, rfl, hb5⟩
          have z1 : (t.toList == s.toList) = false := by rw [ht.out, toList_mk]; simpa using Hi.out
          go_wp2_with fail
          go_ret
          exact ⟨by rw [HR2.out]; rfl, below_next hb hb5⟩
      · have HR2 : Hid (R = 0) := by show _ = _; rw [HR.out]; simp [numB, ha, hn]
        clear ha HR HI
        go_wp2_with fail
        go_ret
        exact ⟨by rw [HR2.out]; rfl, hb⟩
  | false =>
    rw [hG] at Hg
    simp only [Bool.false_and, Bool.false_eq_true, if_false]
    clear hG
    obtain ⟨R, HR⟩ : ∃ R : Int, Hid (R = if numB s.toList then 4 else 0) := ⟨_, rfl⟩
    rw [← HR.out]
    go_enter Tryz.func200, Tryz.ntmps200
    go_wp2_with fail
    refine HC.out.mono ?_
    rintro e w1 ⟨rfl, hb⟩
    go_wp2_with fail
    refine (Hn.out _).mono ?_
    rintro e w2 ⟨rfl, hb2⟩
    replace hb := below_next hb hb2
    go_wp2_with fail
    refine (Hg.out _).mono ?_
    rintro e w3 ⟨rfl, rfl⟩
    go_wp2_with fail
    refine (HAll.out _ hb).mono ?_
    rintro e w4 ⟨n, ev, hfn, rfl, hb4, hor⟩
    replace hb := below_next hb hb4
    rcases hor with ⟨ha, rfl⟩ | ⟨ha, T, q, rfl⟩
    rotate_left
    · have HR2 : Hid (R = 0) := by
        show _ = _
        rw [HR.out]; unfold numB
        cases h : Lib.atoiAll s.toList with
        | ok m => exact absurd h (ha m)
        | _ => rfl
      clear ha HR
      go_wp2_with fail
      go_ret
      exact ⟨by rw [HR2.out]; rfl, hb⟩
    by_cases hn : n ≤ 2147483647
    · have HT := Lib.hid (HI.out n hfn _ hb)
      by_cases hi : Lib.itoa n = s.toList
      · have HR2 : Hid (R = 4) := by show _ = _; rw [HR.out]; simp [numB, ha, hn, hi]
        have Hi := Lib.hid hi
        clear ha HR hi HI
        go_wp2_with fail
        refine HT.out.mono ?_
        rintro e w5 ⟨t, ht, -, rfl, hb5⟩
        have z1 : (t.toList == s.toList) = true := by rw [ht.out, toList_mk, Hi.out]; simp
        go_wp2_with fail
        go_ret
        exact ⟨by rw [HR2.out]; rfl, below_next hb hb5⟩
      · have HR2 : Hid (R = 0) := by show _ = _; rw [HR.out]; simp [numB, ha, hi]
        have Hi := Lib.hid hi
        clear ha HR hi HI
        go_wp2_with fail
        refine HT.out.mono ?_
        rintro e w5 ⟨t, ht, -, rfl, hb5⟩
        have z1 : (t.toList == s.toList) = false := by rw [ht.out, toList_mk]; simpa using Hi.out
        go_wp2_with fail
        go_ret
        exact ⟨by rw [HR2.out]; rfl, below_next hb hb5⟩
    · have HR2 : Hid (R = 0) := by show _ = _; rw [HR.out]; simp [numB, ha, hn]
      clear ha HR HI
      go_wp2_with fail
      go_ret
      exact ⟨by rw [HR2.out]; rfl, hb⟩
end Go.Proofs.YtplekbpmfaghbaaGreatDoor
