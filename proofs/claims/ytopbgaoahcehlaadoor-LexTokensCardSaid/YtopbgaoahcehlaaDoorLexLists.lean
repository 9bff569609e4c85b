/- The document's All; LexLists: the walk. -/
import Derived.Test.YtopbgaoahcehlaaDoorLexR2
import Derived.Deep.RegionHeld3
namespace Go.Proofs.YtopbgaoahcehlaaDoor
open Go.RowKit

def RefAllPost (s : ByteArray) (w : World) (e : Ending) (w' : World) : Prop := Below w.heap.size w w' ∧
  ((4000 < s.size ∧ e = .returned (.tuple #[.slice none 0 0, .int .i64 4000, .int .i64 3])) ∨
   (s.size ≤ 4000 ∧ ((∃ p : Nat, (lexS s.toList).2 = some p ∧ e = .returned (.tuple #[.slice none 0 0, .int .i64 p, .int .i64 2])) ∨
    ((lexS s.toList).2 = none ∧ ∃ A c, e = .returned (.tuple #[.slice A (lexS s.toList).1.length c, .int .i64 0, .int .i64 0]) ∧ SliceIs Enc.tok w' w'.heap.size A (lexS s.toList).1.length c (lexS s.toList).1))))
set_option maxRecDepth 100000 in
set_option maxHeartbeats 1000000 in
theorem refAll_any (s : ByteArray) (hs : s.size ≤ 5000) (w : World) : Calls Tryd.prog 9 #[.string s] w (RefAllPost s w) := by
  obtain ⟨P, HP⟩ : ∃ P : Ending → World → Prop, Hid (P = RefAllPost s w) := ⟨_, rfl⟩
  rw [← HP.out]
  have HL := Lib.hid (refList_any s hs)
  by_cases h4 : 4000 < s.size
  · have z0 : (4000 : Int) < (s.size : Int) := by omega
    have HE : Hid (∀ w', Below w.heap.size w w' → P (.returned (.tuple #[.slice none 0 0, .int .i64 4000, .int .i64 3])) w') := fun w' hb => by rw [HP.out]; exact ⟨hb, .inl ⟨h4, rfl⟩⟩
    clear h4 HP
    go_enter Tryd.func9, Tryd.ntmps9
    go_wp2_with fail
    exact bodyPost_ret (v := .tuple #[.slice none 0 0, .int .i64 4000, .int .i64 3]) (by simp [results, Tryd.results9, go_sem]) rfl (HE.out _ (Below.refl _ _))
  have z0 : ¬ (4000 : Int) < (s.size : Int) := by omega
  have HE1 : Hid (∀ w' (p : Nat), Below w.heap.size w w' → (lexS s.toList).2 = some p → P (.returned (.tuple #[.slice none 0 0, .int .i64 p, .int .i64 2])) w') := fun w' p hb hp => by rw [HP.out]; exact ⟨hb, .inr ⟨by omega, .inl ⟨p, hp, rfl⟩⟩⟩
  have HE2 : Hid (∀ w' A c, Below w.heap.size w w' → (lexS s.toList).2 = none → SliceIs Enc.tok w' w'.heap.size A (lexS s.toList).1.length c (lexS s.toList).1 → P (.returned (.tuple #[.slice A (lexS s.toList).1.length c, .int .i64 0, .int .i64 0])) w') := fun w' A c hb hp hA => by rw [HP.out]; exact ⟨hb, .inr ⟨by omega, .inr ⟨hp, A, c, rfl, hA⟩⟩⟩
  clear HP
  go_enter Tryd.func9, Tryd.ntmps9
  go_wp2_with fail
  refine (HL.out w).mono ?_
  rintro e w1 ⟨hb, A, c, hA, -, ⟨hn, rfl⟩ | ⟨p, hp, rfl⟩⟩
  · have HA := Lib.hid hA
    have Hn := Lib.hid hn
    clear hA hn
    go_wp2_with fail
    exact bodyPost_ret (v := .tuple #[.slice A (lexS s.toList).1.length c, .int .i64 0, .int .i64 0]) (by simp [results, Tryd.results9, go_sem]) rfl (HE2.out _ A c hb Hn.out HA.out)
  · have Hn := Lib.hid hp
    have p0 : (0 : Int) ≤ (p : Int) := by omega
    clear hA hp
    go_wp2_with fail
    exact bodyPost_ret (v := .tuple #[.slice none 0 0, .int .i64 p, .int .i64 2]) (by simp [results, Tryd.results9, go_sem]) rfl (HE1.out _ p hb Hn.out)

set_option maxRecDepth 100000 in
set_option maxHeartbeats 1000000 in
theorem isTok_any (q : GTok) (w : World) : Calls Tryd.prog 11 #[tokC q, tokC q] w (RetBool true w) := by
  have hr0 : ((w.alloc (.cells #[.int .i64 q.k, .string (bytes q.t), .int .i64 q.a] 35)).alloc (.cells #[.int .i64 q.k, .string (bytes q.t), .int .i64 q.a] 37)).heap[w.heap.size]? = some (.cells #[.int .i64 q.k, .string (bytes q.t), .int .i64 q.a] 35 (0, 0)) := heapOld (heapNew rfl)
  have hr1 : ((w.alloc (.cells #[.int .i64 q.k, .string (bytes q.t), .int .i64 q.a] 35)).alloc (.cells #[.int .i64 q.k, .string (bytes q.t), .int .i64 q.a] 37)).heap[w.heap.size + 1]? = some (.cells #[.int .i64 q.k, .string (bytes q.t), .int .i64 q.a] 37 (0, 0)) := heapNew (by simp)
  obtain ⟨x0, x1, x2, -, -, -⟩ := three_facts hr0
  obtain ⟨y0, y1, y2, -, -, -⟩ := three_facts hr1
  unfold tokC
  clear hr0 hr1
  go_enter Tryd.func11, Tryd.ntmps11
  go_wp2_with fail
  go_ret
  exact ⟨by simp, belowA (belowA (Below.refl _ _) _) _⟩

set_option maxRecDepth 100000 in
set_option maxHeartbeats 2000000 in
theorem lexLists_walk (s : ByteArray) (hs : s.size ≤ 140737488351232) (w : World) (hW : LexW w) : Calls Tryd.prog 3 #[.string s] w (RetBool true w) := by
  have HA := Lib.hid (alive_any w hW)
  have HW := Lib.hid hW
  have HL := Lib.hid (fun (W : World) (hb : Below w.heap.size w W) => list_any s hs W (hW.on hb))
  clear hW
  go_enter Tryd.func3, Tryd.ntmps3
  go_wp2_with fail
  refine HA.out.mono ?_
  rintro e w1 ⟨rfl, hb1⟩
  by_cases h41 : 4100 < s.size
  · have z0 : (4100 : Int) < (s.size : Int) := by omega
    go_wp2_with fail
    go_ret
    exact ⟨rfl, hb1⟩
  have z0 : ¬ (4100 : Int) < (s.size : Int) := by omega
  have HR := Lib.hid (refAll_any s (by omega))
  go_wp2_with fail
  refine (HL.out w1 hb1).mono ?_
  rintro e w2 ⟨hb2, h⟩
  have hbw := below_next hb1 hb2
  rcases h with ⟨h, rfl⟩ | ⟨h, ⟨p, hp, rfl⟩ | ⟨hn, A, c, rfl, hA⟩⟩
  · have HN := Lib.hid (fun w => num_any 3 w)
    simp only [errV, show ¬ ((3 : Int) = 0) by decide, if_false] at HN
    go_wp2_with fail
    refine (HR.out w2).mono ?_
    rintro e w3 ⟨hb3, h2⟩
    rcases h2 with ⟨-, rfl⟩ | ⟨h2, -⟩
    rotate_left
    · omega
    clear h
    go_wp2_with fail
    refine (HN.out _).mono ?_
    rintro e w4 ⟨rfl, hb4⟩
    go_wp2_with fail
    go_loop [9, 45] (fun _ i => i = .int .i64 0) (fun _ _ => 0)
    case atStart => rfl
    case round =>
      subst hrel
      go_wp2_with fail
      go_ret
      exact ⟨rfl, below_next (below_next hbw hb3) hb4⟩
  · have HN := Lib.hid (fun w => num_any 2 w)
    simp only [errV, show ¬ ((2 : Int) = 0) by decide, if_false] at HN
    go_wp2_with fail
    refine (HR.out w2).mono ?_
    rintro e w3 ⟨hb3, h2⟩
    rcases h2 with ⟨h2, -⟩ | ⟨-, ⟨p', hp', rfl⟩ | ⟨h2, -⟩⟩
    · omega
    rotate_left
    · rw [hp] at h2; cases h2
    have hpp : p' = p := by rw [hp] at hp'; injection hp' with hp'; exact hp'.symm
    subst hpp
    have q0 : ((p' : Int) != (p' : Int)) = false := by simp
    clear h hp hp'
    go_wp2_with fail
    refine (HN.out _).mono ?_
    rintro e w4 ⟨rfl, hb4⟩
    go_wp2_with fail
    go_loop [9, 45] (fun _ i => i = .int .i64 0) (fun _ _ => 0)
    case atStart => rfl
    case round =>
      subst hrel
      go_wp2_with fail
      go_ret
      exact ⟨rfl, below_next (below_next hbw hb3) hb4⟩
  · have HN := Lib.hid (fun w => num_any 0 w)
    simp only [errV, if_true] at HN
    have HA2 := Lib.hid hA
    have HTl : Hid ((lexS s.toList).1.length ≤ s.size) := by
      have hl := (lex_len (wk := wordK) _ 0 s.toList (Nat.le_refl _)).2
      rw [ba_len] at hl; exact hl
    clear hA
    go_wp2_with fail
    refine (HR.out w2).mono ?_
    rintro e w3 ⟨hb3, h2⟩
    rcases h2 with ⟨h2, -⟩ | ⟨-, ⟨p', hp', rfl⟩ | ⟨-, A2, c2, rfl, hA2⟩⟩
    · omega
    · rw [hn] at hp'; cases hp'
    have HA3 := Lib.hid hA2
    clear hA2 hn h
    generalize (lexS s.toList).1 = T at *
    have hTl := HTl.out
    have q0 : ((T.length : Int) != (T.length : Int)) = false := by simp
    go_wp2_with fail
    refine (HN.out _).mono ?_
    rintro e w4 ⟨rfl, hb4⟩
    have HA4 := Lib.hid (HA3.out.keep hb4)
    have HA5 := Lib.hid ((HA2.out.keep hb3).keep hb4)
    have hbw4 := below_next (below_next hbw hb3) hb4
    clear HA3 HA2 hb3 hb4 HN HR HL HA
    go_wp2_with fail
    go_loopw [9, 45] (fun _ i wr => ∃ k : Nat, k ≤ T.length ∧ i = .int .i64 k ∧ Below w4.heap.size w4 wr) (fun _ i _ => T.length - (intOf i).toNat)
    case atStart => exact ⟨0, by omega, rfl, Below.refl _ _⟩
    case round =>
      obtain ⟨k, hk, rfl, hbr⟩ := hrel
      have i0 : (0 : Int) ≤ (k : Int) := by omega
      by_cases hlt : k < T.length
      · have i1 : (k : Int) < (T.length : Int) := by omega
        obtain ⟨b, o, q, rfl, hb, hq, x0, x1, x2, -, -, -⟩ := HA5.out.tok_at hlt
        obtain ⟨b', o', q', rfl, hb', hq', y0, y1, y2, -, -, -⟩ := HA4.out.tok_at hlt
        have hqq : q' = q := by have h1 := hq.out; have h2 := hq'.out; rw [h1] at h2; injection h2 with h2; exact h2.symm
        subst hqq
        have Hk := Lib.hid (fun (W : World) (hW : Below wr.heap.size wr W) => And.intro (below_cell hW (below_cell hbr x0)) (And.intro (below_cell hW (below_cell hbr x1)) (And.intro (below_cell hW (below_cell hbr x2)) (And.intro (below_cell hW (below_cell hbr y0)) (And.intro (below_cell hW (below_cell hbr y1)) (below_cell hW (below_cell hbr y2)))))))
        have HIs := Lib.hid (isTok_any q')
        unfold tokC at HIs
        clear hq hq' x0 x1 x2 y0 y1 y2
        go_wp2_with fail
        go_region_held3 (fun w' => w'.cell? ⟨b, o + k * 3, none⟩ = some (.int .i64 q'.k) ∧ w'.cell? ⟨b, o + k * 3 + 1, none⟩ = some (.string (bytes q'.t)) ∧ w'.cell? ⟨b, o + k * 3 + 2, none⟩ = some (.int .i64 q'.a) ∧ w'.cell? ⟨b', o' + k * 3, none⟩ = some (.int .i64 q'.k) ∧ w'.cell? ⟨b', o' + k * 3 + 1, none⟩ = some (.string (bytes q'.t)) ∧ w'.cell? ⟨b', o' + k * 3 + 2, none⟩ = some (.int .i64 q'.a))
          ((refine Hk.out _ ?_; (repeat (first | with_reducible exact Below.refl _ _ | with_reducible assumption | with_reducible refine Below.drew ?_)); done))
          ((go_at_call 11
            with_reducible refine (HIs.out _).mono ?_
            rintro e w6 ⟨rfl, hb6⟩
            have hc6 : Below wr.heap.size wr w6 := below_next (Below.drew (Below.refl _ _)) hb6))
        all_goals
          go_wp2_with fail
          go_roundw
          case rel => exact ⟨k + 1, by omega, by go_num, below_next hbr hc6⟩
          case measure => simp [intOf]; omega
      · have i1 : ¬ (k : Int) < (T.length : Int) := by omega
        go_wp2_with fail
        go_ret
        exact ⟨rfl, below_next hbw4 hbr⟩
end Go.Proofs.YtopbgaoahcehlaaDoor
