/- LexBack: the walk. -/
import Derived.Test.YtopbgaoahcehlaaDoorLexGaps
namespace Go.Proofs.YtopbgaoahcehlaaDoor
open Go.RowKit

theorem same_len {T T' : List GTok} (h : Same T' T) : T'.length = T.length := by
  have := congrArg List.length h
  simpa using this
theorem same_at {T T' : List GTok} (h : Same T' T) {k : Nat} {q q' : GTok} (hq : T[k]? = some q) (hq' : T'[k]? = some q') : q'.k = q.k ∧ q'.t = q.t := by
  have h1 := congrArg (·[k]?) h
  simp only [List.getElem?_map, hq, hq', Option.map_some, Option.some.injEq, Prod.mk.injEq] at h1
  exact h1
theorem bytes_size (l : List UInt8) : (bytes l).size = l.length := by rw [← ba_len]; unfold bytes; rw [toList_mk]
theorem bytes_list (l : List UInt8) : (bytes l).toList = l := toList_mk l

set_option maxRecDepth 100000 in
set_option maxHeartbeats 2000000 in
theorem lexBack_walk (s : ByteArray) (hs : s.size ≤ 140737488351232) (w : World) (hW : LexW w) : Calls Tryd.prog 5 #[.string s] w (RetBool true w) := by
  have HA := Lib.hid (alive_any w hW)
  have HW := Lib.hid hW
  have HL := Lib.hid (fun (W : World) (hb : Below w.heap.size w W) => list_any s hs W (hW.on hb))
  have Hlen := Lib.hid (ba_len s)
  clear hW
  go_enter Tryd.func5, Tryd.ntmps5
  go_wp2_with fail
  refine HA.out.mono ?_
  rintro e w1 ⟨rfl, hb1⟩
  by_cases h1500 : 1500 < s.size
  · have z0 : (1500 : Int) < (s.size : Int) := by omega
    go_wp2_with fail
    go_ret
    exact ⟨rfl, hb1⟩
  have z0 : ¬ (1500 : Int) < (s.size : Int) := by omega
  go_wp2_with fail
  refine (HL.out w1 hb1).mono ?_
  rintro e w2 ⟨hb2, h⟩
  rcases h with ⟨h, -⟩ | ⟨-, ⟨p, h, rfl⟩ | ⟨hn, A, c, rfl, hA⟩⟩
  · omega
  · clear h
    go_wp2_with fail
    go_ret
    exact ⟨by simp, below_next hb1 hb2⟩
  obtain ⟨hsum, hTl⟩ := lex_len (wk := wordK) _ 0 s.toList (Nat.le_refl _)
  rw [ba_len] at hTl hsum
  replace hTl : (lexS s.toList).1.length ≤ s.size := hTl
  replace hsum : ((lexS s.toList).1.map fun q => q.t.length).sum ≤ s.size := hsum
  have hpl : ∀ q ∈ (lexS s.toList).1, q.a + q.t.length ≤ s.size ∧ (s.toList.drop q.a).take q.t.length = q.t := by
    intro q hq
    obtain ⟨-, h2, h3⟩ := lex_places (wk := wordK) _ 0 s.toList (Nat.le_refl _) q hq
    rw [ba_len] at h2
    exact ⟨by omega, h3⟩
  have htx : ∀ q ∈ (lexS s.toList).1, TextOf wordK q.k q.t := lex_texts (wk := wordK) _ 0 s.toList (Nat.le_refl _)
  generalize (lexS s.toList).1 = T at *
  have hbw := below_next hb1 hb2
  have hjl : (joinS (T.map GTok.t)).length ≤ 3000 := by
    have h1 := joinS_len (T.map GTok.t)
    rw [List.map_map, List.length_map] at h1
    have h2 : (T.map (List.length ∘ GTok.t)).sum = (T.map fun q => q.t.length).sum := rfl
    omega
  obtain ⟨hb5, hsame⟩ := lex_back (wk := wordK) T 0 htx
  have HJ := Lib.hid (ljoin_any A T.length c T w2 hA (by omega) (by omega))
  have HL2 := Lib.hid (fun (W : World) (hb : Below w.heap.size w W) => list_any (bytes (joinS (T.map GTok.t))) (by rw [bytes_size]; omega) W (HW.out.on hb))
  have HJs : Hid ((bytes (joinS (T.map GTok.t))).size ≤ 3000) := by show _ ≤ _; rw [bytes_size]; omega
  have HJl : Hid ((bytes (joinS (T.map GTok.t))).toList = joinS (T.map GTok.t)) := bytes_list _
  have HB5 := Lib.hid hb5
  have HSm := Lib.hid hsame
  have HA2 := Lib.hid hA
  have HPl := Lib.hid hpl
  clear hA hn hb1 hb2 hpl htx hb5 hsame hjl hsum
  generalize joinS (T.map GTok.t) = J at *
  go_wp2_with fail
  refine HJ.out.mono ?_
  rintro e w3 ⟨rfl, hb3⟩
  have hbw3 := below_next hbw hb3
  go_wp2_with fail
  refine (HL2.out w3 hbw3).mono ?_
  rintro e w4 ⟨hb4, h⟩
  rw [HJl.out] at h
  rcases h with ⟨h, -⟩ | ⟨-, ⟨p, h, rfl⟩ | ⟨hn, A', c', rfl, hA'⟩⟩
  · have := HJs.out; omega
  · have := HB5.out
    unfold lexS at h
    rw [this] at h; cases h
  have HSame : Hid (Same (lexS J).1 T) := HSm.out
  have hTT := same_len HSame.out
  rw [hTT] at hA' 
  simp only [hTT]
  generalize (lexS J).1 = T' at *
  have HA4 := Lib.hid hA'
  have HA3 := Lib.hid ((HA2.out.keep hb3).keep hb4)
  have hbw4 := below_next hbw3 hb4
  have q0 : ((T.length : Int) != (T.length : Int)) = false := by simp
  clear hA' hn hTT HSm HB5 HJl HJs HL2 HJ HA2 hb3 hb4 hbw3 hbw
  go_wp2_with fail
  go_loopw [8, 9, 44] (fun _ _ i wr => ∃ k : Nat, k ≤ T.length ∧ i = .int .i64 k ∧ Below w4.heap.size w4 wr) (fun _ _ i _ => T.length - (intOf i).toNat)
  case atStart => exact ⟨0, by omega, rfl, Below.refl _ _⟩
  case round =>
    obtain ⟨k, hk, rfl, hbr⟩ := hrel
    have i0 : (0 : Int) ≤ (k : Int) := by omega
    by_cases hlt : k < T.length
    · have i1 : (k : Int) < (T.length : Int) := by omega
      obtain ⟨b, o, q, rfl, hb, hq, x0, x1, x2, -, -, -⟩ := HA3.out.tok_at hlt
      obtain ⟨b', o', q', rfl, hb', hq', y0, y1, y2, -, -, -⟩ := HA4.out.tok_at hlt
      obtain ⟨e1, e2⟩ := same_at HSame.out hq.out hq'.out
      rw [e1] at y0
      rw [e2] at y1
      obtain ⟨p1, p2⟩ := HPl.out q (List.mem_of_getElem? hq.out)
      have hba : Below w4.heap.size w4 (wr.alloc (.cells #[.int .i64 q.k, .string (bytes q.t), .int .i64 q.a] 35)) := belowA hbr _
      have hra : (wr.alloc (.cells #[.int .i64 q.k, .string (bytes q.t), .int .i64 q.a] 35)).heap[wr.heap.size]? = some (.cells #[.int .i64 q.k, .string (bytes q.t), .int .i64 q.a] 35 (0, 0)) := heapNew rfl
      replace x0 := below_cell hbr x0
      replace x1 := below_cell hbr x1
      replace x2 := below_cell hbr x2
      obtain ⟨t0, t1, t2, -, -, -⟩ := three_facts hra
      have y0' := below_cell hba y0
      have y1' := below_cell hba y1
      have hts : (bytes q.t).size = q.t.length := bytes_size _
      have hbl : (bytes q.t).toList = q.t := bytes_list _
      have hxe : (s.extract q.a (q.a + q.t.length)).toList = q.t := by
        rw [ba_ext, List.drop_take, show q.a + q.t.length - q.a = q.t.length by omega]; exact p2
      have n0 : decide ((q.a : Int) < 0) = false := by simp
      have n1 : decide ((s.size : Int) - (q.t.length : Int) < (q.a : Int)) = false := by simp; omega
      have n2 : (0 : Int) ≤ (q.a : Int) := by omega
      have n3 : (q.a : Int) ≤ (q.a : Int) + (q.t.length : Int) := by omega
      have n4 : (q.a : Int) + (q.t.length : Int) ≤ (s.size : Int) := by omega
      have hw1 : IntKind.i64.wrap ((s.size : Int) - (q.t.length : Int)) = (s.size : Int) - (q.t.length : Int) := by simp [IntKind.wrap, IntKind.signed, IntKind.bits]; omega
      have hw2 : IntKind.i64.wrap ((q.a : Int) + (q.t.length : Int)) = (q.a : Int) + (q.t.length : Int) := by simp [IntKind.wrap, IntKind.signed, IntKind.bits]; omega
      clear hq hq' e1 e2 y0 y1 y2 p2 hra
      go_wp2_with fail
      go_quiet (fail)
      go_wp2_with fail
      go_roundw
      case rel => exact ⟨k + 1, by omega, by go_num, below_next hba (below_drewN _ _ _)⟩
      case measure => simp [intOf]; omega
    · have i1 : ¬ (k : Int) < (T.length : Int) := by omega
      go_wp2_with fail
      go_ret
      exact ⟨rfl, below_next hbw4 hbr⟩
end Go.Proofs.YtopbgaoahcehlaaDoor
