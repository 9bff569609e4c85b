/- LexGaps: the walk. -/
import Derived.Test.YtopbgaoahcehlaaDoorLexAl
namespace Go.Proofs.YtopbgaoahcehlaaDoor
open Go.RowKit

theorem lexA_cons {a : Nat} {l : List UInt8} {q : GTok} {r : List GTok} {e : Option Nat} (h : lexA wordK a l = (q :: r, e)) :
    q.a = a + skipG false l ∧ skipG false l + q.t.length ≤ l.length ∧ lexA wordK (q.a + q.t.length) (l.drop (skipG false l + q.t.length)) = (r, e) ∧ (l.drop (skipG false l)).take q.t.length = q.t := by
  by_cases h1 : l.drop (skipG false l) = []
  · rw [lexA_nil _ _ h1] at h; simp at h
  by_cases h0 : (tokL wordK (l.drop (skipG false l))).1 = 0
  · rw [lexA_bad _ _ h1 h0] at h; simp at h
  have h3 := tokL_len _ h0
  rw [lexA_tok _ _ h1 h0] at h
  simp only [List.length_drop] at h3
  have h6 := skipG_le l false
  simp only [Prod.mk.injEq, List.cons.injEq] at h
  obtain ⟨⟨rfl, h4⟩, h5⟩ := h
  have hl : ((l.drop (skipG false l)).take (tokL wordK (l.drop (skipG false l))).2).length = (tokL wordK (l.drop (skipG false l))).2 := by
    rw [List.length_take, List.length_drop]; omega
  refine ⟨rfl, by rw [hl]; omega, ?_, by rw [hl]⟩
  rw [hl, ← List.drop_drop]
  exact Prod.ext h4 h5
theorem lexA_empty {a : Nat} {l : List UInt8} (h : lexA wordK a l = ([], none)) : skipG false l = l.length := by
  have h6 := skipG_le l false
  by_cases h1 : l.drop (skipG false l) = []
  · have := congrArg List.length h1
    simp only [List.length_drop, List.length_nil] at this; omega
  by_cases h0 : (tokL wordK (l.drop (skipG false l))).1 = 0
  · rw [lexA_bad _ _ h1 h0] at h; simp at h
  · rw [lexA_tok _ _ h1 h0] at h; simp at h
/-- what List makes of a text without tokens -/
theorem list_none {s : ByteArray} {w : World} {e : Ending} {w' : World} (h : ListPost s w e w') (hs : s.size ≤ 4000) (hl : lexS s.toList = ([], none)) : (∃ A c, e = .returned (.tuple #[.slice A 0 c, .int .i64 0, .nilIface])) ∧ Below w.heap.size w w' := by
  obtain ⟨hb, h⟩ := h
  refine ⟨?_, hb⟩
  rcases h with ⟨h, -⟩ | ⟨-, ⟨p, h, -⟩ | ⟨-, A, c, he, -⟩⟩
  · omega
  · rw [hl] at h; cases h
  · rw [hl] at he; exact ⟨A, c, he⟩

set_option maxRecDepth 100000 in
set_option maxHeartbeats 2000000 in
theorem lexGaps_walk (s : ByteArray) (hs : s.size ≤ 140737488351232) (w : World) (hW : LexW w) : Calls Tryd.prog 6 #[.string s] w (RetBool true w) := by
  have HA := Lib.hid (alive_any w hW)
  have HW := Lib.hid hW
  have HL := Lib.hid (fun (W : World) (hb : Below w.heap.size w W) => list_any s hs W (hW.on hb))
  have Hlen := Lib.hid (ba_len s)
  clear hW
  go_enter Tryd.func6, Tryd.ntmps6
  go_wp2_with fail
  refine HA.out.mono ?_
  rintro e w1 ⟨rfl, hb1⟩
  by_cases h2000 : 2000 < s.size
  · have z0 : (2000 : Int) < (s.size : Int) := by omega
    go_wp2_with fail
    go_ret
    exact ⟨rfl, hb1⟩
  have z0 : ¬ (2000 : Int) < (s.size : Int) := by omega
  go_wp2_with fail
  refine (HL.out w1 hb1).mono ?_
  rintro e w2 ⟨hb2, h⟩
  rcases h with ⟨h, -⟩ | ⟨-, ⟨p, h, rfl⟩ | ⟨hn, A, c, rfl, hA⟩⟩
  · omega
  · clear h
    go_wp2_with fail
    go_ret
    exact ⟨by simp, below_next hb1 hb2⟩
  have hLn : lexS s.toList = ((lexS s.toList).1, none) := Prod.ext rfl hn
  have hTl := (lex_len (wk := wordK) _ 0 s.toList (Nat.le_refl _)).2
  rw [ba_len] at hTl
  replace hTl : (lexS s.toList).1.length ≤ s.size := hTl
  generalize (lexS s.toList).1 = T at *
  have HA2 := Lib.hid hA
  have hbw := below_next hb1 hb2
  have HLn : Hid (lexA wordK 0 (s.toList.drop 0) = (T.drop 0, none)) := hLn
  clear hA hn hLn hb1 hb2
  go_wp2_with fail
  go_loopw [6, 7, 8, 9, 10, 11] (fun en i _ _ _ _ wr => ∃ (k a : Nat), k ≤ T.length + 1 ∧ a ≤ s.size ∧ i = .int .i64 k ∧ en = .int .i64 a ∧ Hid (k ≤ T.length → lexA wordK a (s.toList.drop a) = (T.drop k, none)) ∧ Below w2.heap.size w2 wr) (fun _ i _ _ _ _ _ => T.length + 1 - (intOf i).toNat)
  case atStart => exact ⟨0, 0, by omega, by omega, rfl, rfl, fun _ => HLn.out, Below.refl _ _⟩
  case round =>
    obtain ⟨k, a, hk, ha, rfl, rfl, HK, hbr⟩ := hrel
    have i0 : (0 : Int) ≤ (k : Int) := by omega
    have j0 : (0 : Int) ≤ (a : Int) := by omega
    by_cases hlt : k < T.length
    · have i1 : (k : Int) < (T.length : Int) := by omega
      have i2 : (k : Int) ≤ (T.length : Int) := by omega
      obtain ⟨b, o, q, rfl, hb, hq, x0, x1, x2, -, -, -⟩ := HA2.out.tok_at hlt
      replace x0 := below_cell hbr x0
      replace x1 := below_cell hbr x1
      replace x2 := below_cell hbr x2
      have h1 := HK.out (by omega)
      rw [List.drop_eq_getElem_cons hlt] at h1
      have h2 := hq.out
      rw [List.getElem?_eq_getElem hlt] at h2
      injection h2 with h2
      rw [h2] at h1
      obtain ⟨c1, c2, c3, -⟩ := lexA_cons h1
      rw [List.length_drop, ba_len] at c2
      have n1 : ¬ (q.a : Int) < (a : Int) := by omega
      have n2 : ¬ (s.size : Int) < (q.a : Int) := by omega
      have n3 : (a : Int) ≤ (q.a : Int) := by omega
      have n4 : (q.a : Int) ≤ (s.size : Int) := by omega
      have hgl : lexS (s.extract a q.a).toList = ([], none) := by
        rw [ba_ext, List.drop_take, show q.a - a = skipG false (s.toList.drop a) by omega]
        exact lex_gap _ _
      have hsz : (s.extract a q.a).size ≤ 4000 := by simp; omega
      have HG := Lib.hid (list_any (s.extract a q.a) (by simp; omega) wr (HW.out.on (below_next hbw hbr)))
      have HGl := Lib.hid hgl
      have hts : (bytes q.t).size = q.t.length := by rw [← ba_len]; unfold bytes; rw [toList_mk]
      have HK2 : Hid (lexA wordK (q.a + q.t.length) (s.toList.drop (q.a + q.t.length)) = (T.drop (k + 1), none)) := by
        show _ = _
        rw [← c3, List.drop_drop]
        congr 2
        omega
      have hqe : q.a + q.t.length ≤ s.size := by omega
      clear h1 h2 hq c3 HK hgl c1
      go_wp2_with fail
      refine HG.out.mono ?_
      rintro e w3 hp
      obtain ⟨⟨A3, d3, rfl⟩, hb3⟩ := list_none hp hsz HGl.out
      clear hp
      have hbr3 := below_next hbr hb3
      replace x1 := below_cell hb3 x1
      go_wp2_with fail
      go_roundw
      case rel => exact ⟨k + 1, q.a + q.t.length, by omega, by omega, by go_num, by go_num, fun _ => HK2.out, hbr3⟩
      case measure => simp [intOf]; omega
    · by_cases hle : k ≤ T.length
      · have i1 : ¬ (k : Int) < (T.length : Int) := by omega
        have i2 : (k : Int) ≤ (T.length : Int) := by omega
        have h1 := HK.out hle
        rw [show T.drop k = [] from List.drop_eq_nil_of_le (by omega)] at h1
        have c1 := lexA_empty h1
        rw [List.length_drop, ba_len] at c1
        have n1 : ¬ (s.size : Int) < (a : Int) := by omega
        have n3 : (a : Int) ≤ (s.size : Int) := by omega
        have hgl : lexS (s.extract a s.size).toList = ([], none) := by
          have h2 := lex_gap (wk := wordK) 0 (s.toList.drop a)
          rw [c1, List.take_of_length_le (by rw [List.length_drop, ba_len]; exact Nat.le_refl _)] at h2
          rw [ba_drop]; exact h2
        have hsz : (s.extract a s.size).size ≤ 4000 := by simp; omega
        have HG := Lib.hid (list_any (s.extract a s.size) (by simp; omega) wr (HW.out.on (below_next hbw hbr)))
        have HGl := Lib.hid hgl
        clear h1 HK hgl c1
        go_wp2_with fail
        refine HG.out.mono ?_
        rintro e w3 hp
        obtain ⟨⟨A3, d3, rfl⟩, hb3⟩ := list_none hp hsz HGl.out
        clear hp
        have hbr3 := below_next hbr hb3
        go_wp2_with fail
        go_roundw
        case rel => exact ⟨k + 1, a, by omega, by omega, by go_num, rfl, fun h => by omega, hbr3⟩
        case measure => simp [intOf]; omega
      · have i2 : ¬ (k : Int) ≤ (T.length : Int) := by omega
        clear HK
        go_wp2_with fail
        go_ret
        exact ⟨rfl, below_next hbw hbr⟩
end Go.Proofs.YtopbgaoahcehlaaDoor
