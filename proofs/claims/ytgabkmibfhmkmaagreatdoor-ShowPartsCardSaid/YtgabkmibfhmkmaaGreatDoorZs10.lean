/- My own texts LexR2, RefAll, TVar, TRight, ShowE, as far as this claim needs them. -/
import Derived.Test.YtgabkmibfhmkmaaGreatDoorZs2
import Derived.Test.YtgabkmibfhmkmaaGreatDoorZs4
import Derived.Test.YtgabkmibfhmkmaaGreatDoorZs6
import Derived.Test.YtgabkmibfhmkmaaGreatDoorZs7
import Derived.Test.YtgabkmibfhmkmaaGreatDoorZs9
import Derived.Deep.RegionHeld3
set_option linter.unusedVariables false
set_option linter.unusedSimpArgs false
namespace Go.Proofs.YtgabkmibfhmkmaaGreatDoor
open Go.RowKit
theorem tw_in {p : UInt8 → Bool} : ∀ (l : List UInt8) (k : Nat) (c : UInt8), k ≤ (l.takeWhile p).length → l[k]? = some c → p c = true → k + 1 ≤ (l.takeWhile p).length
  | [], k, c, h, hc, hi => by simp at hc
  | d :: r, 0, c, h, hc, hi => by
    simp at hc; subst hc
    simp [hi]
  | d :: r, k + 1, c, h, hc, hi => by
    rw [List.takeWhile_cons] at h ⊢
    cases hd : p d with
    | false => rw [hd] at h; simp at h
    | true =>
      rw [hd] at h
      simp only [if_true, List.length_cons] at h ⊢
      have := tw_in r k c (by omega) (by simpa using hc) hi
      omega
theorem tw_out {p : UInt8 → Bool} : ∀ (l : List UInt8) (k : Nat) (c : UInt8), k ≤ (l.takeWhile p).length → l[k]? = some c → p c = false → (l.takeWhile p).length = k
  | [], k, c, h, hc, hi => by simp at hc
  | d :: r, 0, c, h, hc, hi => by
    simp at hc; subst hc
    simp [hi]
  | d :: r, k + 1, c, h, hc, hi => by
    rw [List.takeWhile_cons] at h ⊢
    cases hd : p d with
    | false => rw [hd] at h; simp at h
    | true =>
      rw [hd] at h
      simp only [if_true, List.length_cons] at h ⊢
      have := tw_out r k c (by omega) (by simpa using hc) hi
      omega
theorem tw_le {p : UInt8 → Bool} (l : List UInt8) : (l.takeWhile p).length ≤ l.length := List.Sublist.length_le (List.takeWhile_sublist p)
def signs2 : List (List UInt8) := [[58, 45], [33, 61], [60, 61], [62, 61]]
def signs1 : List (List UInt8) := [[40], [41], [44], [46], [61], [60], [62], [43], [45], [42]]
theorem find_len (n : Nat) (l : List UInt8) : ∀ S : List (List UInt8), (∀ p ∈ S, p.length = n) → S.find? (·.isPrefixOf l) = if l.take n ∈ S then some (l.take n) else none
  | [], _ => by simp
  | p :: S, h => by
    have ih := find_len n l S (fun q hq => h q (List.mem_cons_of_mem _ hq))
    have hp := h p (List.mem_cons_self ..)
    rw [List.find?_cons, ih]
    by_cases hq : l.take n = p
    · have h1 : p.isPrefixOf l = true := by
        rw [List.isPrefixOf_iff_prefix, ← hq]; exact List.take_prefix _ _
      simp [h1, hq]
    · have h1 : p.isPrefixOf l = false := by
        rw [Bool.eq_false_iff]
        intro h2
        apply hq
        rw [List.isPrefixOf_iff_prefix] at h2
        rw [← hp]; exact (List.prefix_iff_eq_take.1 h2).symm
      simp only [h1, List.mem_cons, hq, false_or]
theorem tok_sign {l : List UInt8} (h : ¬ (0 < runL l ∧ l.head? ≠ some 95)) : tokL wordK l = if l.take 2 ∈ signs2 then (5, 2) else if l.take 1 ∈ signs1 then (5, 1) else (0, 0) := by
  unfold tokL
  rw [if_neg h, show signsL = signs2 ++ signs1 from rfl, List.find?_append, find_len 2 l signs2 (by decide), find_len 1 l signs1 (by decide)]
  by_cases h2 : l.take 2 ∈ signs2
  · have h3 : (l.take 2).length = 2 := by
      have : ∀ p ∈ signs2, p.length = 2 := by decide
      exact this _ h2
    rw [if_pos h2, if_pos h2]
    simp only [Option.some_or]
    rw [h3]
  · rw [if_neg h2, if_neg h2]
    simp only [Option.none_or]
    by_cases h1 : l.take 1 ∈ signs1
    · have h3 : (l.take 1).length = 1 := by
        have : ∀ p ∈ signs1, p.length = 1 := by decide
        exact this _ h1
      rw [if_pos h1, if_pos h1]
      simp only
      rw [h3]
    · rw [if_neg h1, if_neg h1]
theorem tokenR_info : (Tryz.prog.info? 353).map (fun i => (i.zero, i.size, i.bytes)) = some (some (.agg #[.int .i64 0, .string ⟨#[]⟩, .int .i64 0]), 3, 32) := by kernel_rfl
theorem tokenR_push {W : World} {base : Nat} {A : Option Addr} {c k : Nat} {xs : List GTok} (hown : W.ownsRow base 353 3 (.slice A k c) k (xs.flatMap tokCs)) (q : GTok) (hn : k + 1 ≤ 1000000) (hb : base ≤ W.heap.size) :
    ∃ A' c' w', (∀ ty, (Builtin.append_ #[349, 349] ty #[.slice A k c, .slice (some ⟨W.heap.size, 0, none⟩) 1 1]).run Tryz.prog (W.alloc (.cells #[.int .i64 q.k, .string (bytes q.t), .int .i64 q.a] 353)) = .ok (.slice A' (k + 1) c') w') ∧
      w'.ownsRow base 353 3 (.slice A' (k + 1) c') (k + 1) ((xs ++ [q]).flatMap tokCs) ∧ Below base W w' := by
  have ho : (W.alloc (.cells #[.int .i64 q.k, .string (bytes q.t), .int .i64 q.a] 353)).ownsRow base 353 3 (.slice A k c) k (xs.flatMap tokCs) := own_below hown (belowA (Below.refl _ _) _)
  obtain ⟨v', w', h1, h2, h3, h4⟩ := run_push_at (P := Tryz.prog) (ty := 349) (W.alloc (.cells #[.int .i64 q.k, .string (bytes q.t), .int .i64 q.a] 353)) (base := base) Tryz.underlying349 tokenR_info rfl (by decide) ho W.heap.size (tokCs q) rfl (heapNew rfl) (by intro u hu; simp [tokCs] at hu; rcases hu with rfl | rfl | rfl <;> rfl)
    (by simp [maxLen]; omega) (by omega) (by simp; omega)
  obtain ⟨A', c', rfl⟩ := own_form h2
  refine ⟨A', c', w', fun _ => h1, ?_, ?_⟩
  · rw [List.flatMap_append]; simpa using h2
  · exact ((Below.refl base W).alloc hb _).trans h4
theorem toksR_is {w : World} {base : Nat} {A : Option Addr} {n c : Nat} {l : List GTok} (h : w.ownsRow base 353 3 (.slice A n c) n (l.flatMap tokCs)) (hl : l.length = n) (hn : n ≤ 1000000) (hok : ∀ q ∈ l, fits q.k ∧ fits q.a ∧ q.t.length ≤ reachN) : SliceIs Enc.tok w w.heap.size A n c l :=
  SliceIs.of_flat (E := Enc.tok) tokCs (fun _ => rfl) h hl (by simp [reachN]; omega) (fun q hq => ⟨rfl, hok q hq⟩)
def RefListPost (s : ByteArray) (w : World) (e : Ending) (w' : World) : Prop := Below w.heap.size w w' ∧ ∃ A c, SliceIs Enc.tok w' w'.heap.size A (lexS s.toList).1.length c (lexS s.toList).1 ∧
  w'.ownsRow w.heap.size 353 3 (.slice A (lexS s.toList).1.length c) (lexS s.toList).1.length ((lexS s.toList).1.flatMap tokCs) ∧
  (((lexS s.toList).2 = none ∧ e = .returned (.tuple #[.slice A (lexS s.toList).1.length c, .int .i64 (-1)])) ∨ ∃ p : Nat, (lexS s.toList).2 = some p ∧ e = .returned (.tuple #[.slice A (lexS s.toList).1.length c, .int .i64 p]))
set_option maxRecDepth 100000 in
set_option maxHeartbeats 4000000 in
theorem refList_any (s : ByteArray) (hs : s.size ≤ 5000) (w : World) : Calls Tryz.prog 321 #[.string s] w (RefListPost s w) := by
  obtain ⟨P, HP⟩ : ∃ P : Ending → World → Prop, Hid (P = RefListPost s w) := ⟨_, rfl⟩
  rw [← HP.out]
  have HEnd : Hid (∀ w' A c (T : List GTok), Below w.heap.size w w' → lexS s.toList = (T, none) → w'.ownsRow w.heap.size 353 3 (.slice A T.length c) T.length (T.flatMap tokCs) → P (.returned (.tuple #[.slice A T.length c, .int .i64 (-1)])) w') := by
    intro w' A c T hb hT ho
    have hf := lex_fits (l := s.toList) (by rw [ba_len]; omega)
    have hl := (lex_len (wk := wordK) _ 0 s.toList (Nat.le_refl _)).2
    rw [ba_len] at hl
    replace hl : (lexS s.toList).1.length ≤ s.size := hl
    rw [HP.out]; unfold RefListPost; rw [hT] at hf hl ⊢
    exact ⟨hb, A, c, toksR_is ho rfl (by have hl' : T.length ≤ s.size := hl; omega) hf, ho, .inl ⟨rfl, rfl⟩⟩
  have HBad : Hid (∀ w' A c (T : List GTok) (p : Nat), Below w.heap.size w w' → lexS s.toList = (T, some p) → w'.ownsRow w.heap.size 353 3 (.slice A T.length c) T.length (T.flatMap tokCs) → P (.returned (.tuple #[.slice A T.length c, .int .i64 p])) w') := by
    intro w' A c T p hb hT ho
    have hf := lex_fits (l := s.toList) (by rw [ba_len]; omega)
    have hl := (lex_len (wk := wordK) _ 0 s.toList (Nat.le_refl _)).2
    rw [ba_len] at hl
    replace hl : (lexS s.toList).1.length ≤ s.size := hl
    rw [HP.out]; unfold RefListPost; rw [hT] at hf hl ⊢
    exact ⟨hb, A, c, toksR_is ho rfl (by have hl' : T.length ≤ s.size := hl; omega) hf, ho, .inr ⟨p, rfl, rfl⟩⟩
  have HSz : Hid ((lexS s.toList).1.length ≤ s.size) := by
    have hl := (lex_len (wk := wordK) _ 0 s.toList (Nat.le_refl _)).2
    rw [ba_len] at hl; exact hl
  have Hlen := Lib.hid (ba_len s)
  have HInside := Lib.hid inside_any
  clear HP
  go_enter Tryz.func321, Tryz.ntmps321
  go_wp2_with fail
  go_loopw [4, 5, 6, 7, 8] (fun out at' _ _ _ wr => ∃ (a : Nat) (pre : List GTok) (A' : Option Addr) (c' : Nat), a ≤ s.size ∧ out = .slice A' pre.length c' ∧ at' = .int .i64 a ∧ Hid (lexS s.toList = (pre ++ (lexA wordK a (s.toList.drop a)).1, (lexA wordK a (s.toList.drop a)).2)) ∧
      Hid (wr.ownsRow w.heap.size 353 3 (.slice A' pre.length c') pre.length (pre.flatMap tokCs)) ∧ Below w.heap.size w wr) (fun _ at' _ _ _ _ => s.size - (intOf at').toNat)
  case atStart => exact ⟨0, [], none, 0, by omega, rfl, rfl, rfl, World.ownsRow_nil _ _ _ _, Below.refl _ _⟩
  case round =>
    obtain ⟨a, pre, A', c', ha, rfl, rfl, HK, HO, hbr⟩ := hrel
    have i0 : (0 : Int) ≤ (a : Int) := by omega
    have hpl : pre.length ≤ 5000 := by
      have h1 := congrArg (fun r => r.1.length) HK.out
      have := HSz.out
      simp only [List.length_append] at h1; omega
    by_cases hlt : a < s.size
    · have i1 : (a : Int) < (s.size : Int) := by omega
      have i2 : (a : Int) ≤ (s.size : Int) := by omega
      have HD : Hid (s.toList.drop a = (s[a]'hlt) :: s.toList.drop (a + 1)) := by
        show _ = _
        have h1 := ba_get hlt
        obtain ⟨h2, h3⟩ := List.getElem?_eq_some_iff.1 h1
        rw [List.drop_eq_getElem_cons h2, h3]
      have HN := Lib.hid (fun (k : UInt8) (n : Nat) (h : n = k.toNat) => show ((((s[a]'hlt).toNat : Int) == (n : Int)) = decide ((s[a]'hlt) = k)) from by
        rw [Bool.eq_iff_iff]; simp only [beq_iff_eq, decide_eq_true_eq]
        constructor
        · intro h2; exact UInt8.toNat_inj.1 (by omega)
        · intro h2; rw [h2, h])
      have z9 : (((s[a]'hlt).toNat : Int) == 9) = decide ((s[a]'hlt) = 9) := HN.out 9 9 rfl
      have z10 : (((s[a]'hlt).toNat : Int) == 10) = decide ((s[a]'hlt) = 10) := HN.out 10 10 rfl
      have z13 : (((s[a]'hlt).toNat : Int) == 13) = decide ((s[a]'hlt) = 13) := HN.out 13 13 rfl
      have z32 : (((s[a]'hlt).toNat : Int) == 32) = decide ((s[a]'hlt) = 32) := HN.out 32 32 rfl
      have z37 : (((s[a]'hlt).toNat : Int) == 37) = decide ((s[a]'hlt) = 37) := HN.out 37 37 rfl
      have z95 : (((s[a]'hlt).toNat : Int) != 95) = !decide ((s[a]'hlt) = 95) := by
        have h1 := HN.out 95 95 rfl
        show (!(((s[a]'hlt).toNat : Int) == 95)) = _
        rw [show ((95 : Int)) = ((95 : Nat) : Int) from rfl, h1]
      have HBl : Hid (blankB (s[a]'hlt) = (decide ((s[a]'hlt) = 9) || decide ((s[a]'hlt) = 10) || decide ((s[a]'hlt) = 32) || decide ((s[a]'hlt) = 13))) := rfl
      clear HN
      cases hbl : blankB (s[a]'hlt) with
      | true =>
        have HK2 : Hid (lexS s.toList = (pre ++ (lexA wordK (a + 1) (s.toList.drop (a + 1))).1, (lexA wordK (a + 1) (s.toList.drop (a + 1))).2)) := by
          show _ = _
          rw [HK.out]
          have h1 : lexA wordK a (s.toList.drop a) = lexA wordK (a + 1) (s.toList.drop (a + 1)) := by
            have h2 := lexA_adv (wk := wordK) (l := s.toList.drop a) (k := 1) (by rw [HD.out, skip_one hbl]; rfl) a
            rw [h2, List.drop_drop]
          rw [h1]
        have h5 := HBl.out
        rw [hbl] at h5
        clear HK HBl hbl
        cases d9 : decide ((s[a]'hlt) = 9) <;> cases d10 : decide ((s[a]'hlt) = 10) <;> cases d13 : decide ((s[a]'hlt) = 13) <;> cases d32 : decide ((s[a]'hlt) = 32) <;> (try (rw [d9, d10, d13, d32] at h5; cases h5; done))
        all_goals
          rw [d9] at z9; rw [d10] at z10; rw [d13] at z13; rw [d32] at z32
          clear h5 d9 d10 d13 d32 z37 z95
          go_wp2_with fail
          go_roundw
          case rel => exact ⟨a + 1, pre, A', c', by omega, rfl, by go_num, HK2, HO, hbr⟩
          case measure => simp [intOf]; omega
      | false =>
      have h5 := HBl.out
      rw [hbl] at h5
      have d9 : decide ((s[a]'hlt) = 9) = false := by cases h : decide ((s[a]'hlt) = 9) with | true => (rw [h] at h5; simp at h5) | false => rfl
      have d10 : decide ((s[a]'hlt) = 10) = false := by cases h : decide ((s[a]'hlt) = 10) with | true => (rw [h] at h5; simp at h5) | false => rfl
      have d13 : decide ((s[a]'hlt) = 13) = false := by cases h : decide ((s[a]'hlt) = 13) with | true => (rw [h] at h5; simp at h5) | false => rfl
      have d32 : decide ((s[a]'hlt) = 32) = false := by cases h : decide ((s[a]'hlt) = 32) with | true => (rw [h] at h5; simp at h5) | false => rfl
      rw [d9] at z9; rw [d10] at z10; rw [d13] at z13; rw [d32] at z32
      clear h5 HBl d9 d10 d13 d32
      by_cases hp : (s[a]'hlt) = 37
      · have d37 : decide ((s[a]'hlt) = 37) = true := by simpa using hp
        rw [d37] at z37
        obtain ⟨m, Hm⟩ : ∃ m, Hid (m = ((s.toList.drop a).takeWhile (· != 10)).length) := ⟨_, rfl⟩
        have Hme : Hid (m ≤ s.size - a) := by
          show _ ≤ _
          rw [Hm.out]
          have h1 := tw_le (p := (· != 10)) (s.toList.drop a)
          rw [List.length_drop, Hlen.out] at h1; exact h1
        have Hm1 : Hid (1 ≤ m) := by
          show _ ≤ _
          rw [Hm.out, HD.out, hp]; simp
        have HK2 : Hid (lexS s.toList = (pre ++ (lexA wordK (a + m) (s.toList.drop (a + m))).1, (lexA wordK (a + m) (s.toList.drop (a + m))).2)) := by
          show _ = _
          rw [HK.out]
          have h1 : lexA wordK a (s.toList.drop a) = lexA wordK (a + m) (s.toList.drop (a + m)) := by
            have h2 := lexA_adv (wk := wordK) (l := s.toList.drop a) (k := m) (by rw [Hm.out]; conv => lhs; rw [HD.out, hp, skip_per]
                                                                                  rw [← hp, ← HD.out]) a
            rw [h2, List.drop_drop]
          rw [h1]
        clear HK hbl hp d37 z95
        go_wp2_with fail
        go_loop [5] (fun i => ∃ k2 : Nat, a ≤ k2 ∧ k2 ≤ s.size ∧ i = .int .i64 k2 ∧ Hid (k2 - a ≤ ((s.toList.drop a).takeWhile (· != 10)).length)) (fun i => s.size - (intOf i).toNat)
        case atStart => exact ⟨a, by omega, by omega, rfl, by show _ ≤ _; omega⟩
        case round =>
          obtain ⟨k2, h1, h2, rfl, H3⟩ := hrel
          have j0 : (0 : Int) ≤ (k2 : Int) := by omega
          by_cases hlt2 : k2 < s.size
          · have j1 : (k2 : Int) < (s.size : Int) := by omega
            have HC2 : Hid ((s.toList.drop a)[k2 - a]? = some (s[k2]'hlt2)) := by
              show _ = _
              rw [List.getElem?_drop, show a + (k2 - a) = k2 by omega]; exact ba_get hlt2
            by_cases h10 : (s[k2]'hlt2) = 10
            · have HE : Hid (k2 = a + m) := by
                have h4 := tw_out (p := (· != 10)) _ _ _ H3.out HC2.out (by simp [h10])
                show _ = _
                rw [Hm.out, h4]; omega
              have y10 : (((s[k2]'hlt2).toNat : Int) != 10) = false := by rw [h10]; rfl
              have HK3 := HK2.out
              rw [← HE.out] at HK3
              have HK4 := Lib.hid HK3
              have hmm : a < k2 := by have := HE.out; have := Hm1.out; omega
              clear h10 HK3
              go_wp2_with fail
              go_roundw
              case rel => exact ⟨k2, pre, A', c', by omega, rfl, rfl, HK4, HO, hbr⟩
              case measure => simp [intOf]; omega
            · have H4 : Hid (k2 + 1 - a ≤ ((s.toList.drop a).takeWhile (· != 10)).length) := by
                have h4 := tw_in (p := (· != 10)) _ _ _ H3.out HC2.out (by simp [h10])
                show _ ≤ _
                omega
              have y10 : (((s[k2]'hlt2).toNat : Int) != 10) = true := by
                simp only [bne_iff_ne, ne_eq]
                intro h; apply h10; exact UInt8.toNat_inj.1 (by show _ = 10; omega)
              clear h10
              go_wp2_with fail
              go_round
              case rel => exact ⟨k2 + 1, by omega, by omega, by go_num, H4⟩
              case measure => simp [intOf]; omega
          · have j1 : ¬ (k2 : Int) < (s.size : Int) := by omega
            have HE : Hid (k2 = a + m) := by
              have h4 := H3.out
              rw [← Hm.out] at h4
              have := Hme.out
              show _ = _
              omega
            have HK3 := HK2.out
            rw [← HE.out] at HK3
            have HK4 := Lib.hid HK3
            have hmm : a < k2 := by have := HE.out; have := Hm1.out; omega
            clear HK3
            go_wp2_with fail
            go_roundw
            case rel => exact ⟨k2, pre, A', c', by omega, rfl, rfl, HK4, HO, hbr⟩
            case measure => simp [intOf]; omega
      · have d37 : decide ((s[a]'hlt) = 37) = false := by simpa using hp
        rw [d37] at z37
        have hs0 : skipG false (s.toList.drop a) = 0 := by rw [HD.out, skip_zero hbl hp]
        have hne : s.toList.drop a ≠ [] := by rw [HD.out]; simp
        have hat := lexA_at (wk := wordK) hne hs0 a
        rw [hat] at HK
        have Hhead : Hid ((s.toList.drop a).head? = some (s[a]'hlt)) := by show _ = _; rw [HD.out]; rfl
        have Hrun : Hid (insB (s[a]'hlt) = true ↔ 0 < runL (s.toList.drop a)) := by
          show _ ↔ _
          rw [HD.out]
          unfold runL
          rw [List.takeWhile_cons]
          cases insB (s[a]'hlt) <;> simp
        have HIa := Lib.hid (HInside.out (s[a]'hlt) wr)
        have HLd : Hid ((s.toList.drop a).length = s.size - a) := by show _ = _; rw [List.length_drop, Hlen.out]
        clear hat hs0 hne hbl d37 hp
        by_cases hw : insB (s[a]'hlt) = true ∧ ¬ (s[a]'hlt) = 95
        · obtain ⟨hw1, hw2⟩ := hw
          have d95 : decide ((s[a]'hlt) = 95) = false := by simpa using hw2
          rw [d95] at z95
          obtain ⟨n, Hn⟩ : ∃ n, Hid (n = runL (s.toList.drop a)) := ⟨_, rfl⟩
          have hn1 : 1 ≤ n := by rw [Hn.out]; exact Hrun.out.1 hw1
          have hnle : n ≤ s.size - a := by rw [Hn.out, ← HLd.out]; exact runL_le _
          have HT : Hid (tokL wordK (s.toList.drop a) = (wordK ((s.toList.drop a).take n), n)) := by
            show _ = _
            unfold tokL
            rw [if_pos ⟨Hrun.out.1 hw1, by rw [Hhead.out]; simpa using hw2⟩, Hn.out]
          rw [HT.out] at HK
          simp only at HK
          rw [hw1] at HIa
          clear hw1 hw2 d95
          go_wp2_with fail
          refine HIa.out.mono ?_
          rintro e w2 ⟨rfl, rfl⟩
          go_wp2_with fail
          go_loop [7] (fun i => ∃ k2 : Nat, a ≤ k2 ∧ k2 ≤ s.size ∧ i = .int .i64 k2 ∧ Hid (k2 - a ≤ runL (s.toList.drop a))) (fun i => s.size - (intOf i).toNat)
          case atStart => exact ⟨a, by omega, by omega, rfl, by show _ ≤ _; omega⟩
          case round =>
            obtain ⟨k2, h1, h2, rfl, H3⟩ := hrel
            have j0 : (0 : Int) ≤ (k2 : Int) := by omega
            have hgo : (∃ hlt2 : k2 < s.size, insB (s[k2]'hlt2) = true) ∨ k2 = a + n := by
              by_cases hlt2 : k2 < s.size
              · cases hi : insB (s[k2]'hlt2) with
                | true => exact .inl ⟨hlt2, hi⟩
                | false =>
                  have HC2 : (s.toList.drop a)[k2 - a]? = some (s[k2]'hlt2) := by
                    rw [List.getElem?_drop, show a + (k2 - a) = k2 by omega]; exact ba_get hlt2
                  have h4 := run_out _ _ _ H3.out HC2 hi
                  right; rw [Hn.out, h4]; omega
              · right
                have h4 := H3.out
                rw [← Hn.out] at h4; omega
            rcases hgo with ⟨hlt2, hi⟩ | hE
            · have j1 : (k2 : Int) < (s.size : Int) := by omega
              have H4 : Hid (k2 + 1 - a ≤ runL (s.toList.drop a)) := by
                have HC2 : (s.toList.drop a)[k2 - a]? = some (s[k2]'hlt2) := by
                  rw [List.getElem?_drop, show a + (k2 - a) = k2 by omega]; exact ba_get hlt2
                have h4 := ins_run _ _ _ H3.out HC2 hi
                show _ ≤ _
                omega
              have HI2 := Lib.hid (HInside.out (s[k2]'hlt2) w2)
              rw [hi] at HI2
              clear hi
              go_wp2_with fail
              refine HI2.out.mono ?_
              rintro e w3 ⟨rfl, rfl⟩
              go_wp2_with fail
              go_round
              case rel => exact ⟨k2 + 1, by omega, by omega, by go_num, H4⟩
              case measure => simp [intOf]; omega
            · have j2 : (a : Int) ≤ (k2 : Int) := by omega
              have j3 : (k2 : Int) ≤ (s.size : Int) := by omega
              have HX : Hid ((s.extract a k2).toList = (s.toList.drop a).take n) := by
                show _ = _
                rw [ba_ext, List.drop_take, show k2 - a = n by omega]
              have HB : Hid (s.extract a k2 = bytes ((s.toList.drop a).take n)) := ba_eq HX.out
              have HWd := Lib.hid (wordR_any (s.extract a k2) (by simp; omega) (by simp; omega) w2)
              rw [HX.out] at HWd
              have hcond : (k2 < s.size → ∃ hlt2 : k2 < s.size, insB (s[k2]'hlt2) = false) := by
                intro hlt2
                refine ⟨hlt2, ?_⟩
                cases hi : insB (s[k2]'hlt2) with
                | false => rfl
                | true =>
                  exfalso
                  have HC2 : (s.toList.drop a)[k2 - a]? = some (s[k2]'hlt2) := by
                    rw [List.getElem?_drop, show a + (k2 - a) = k2 by omega]; exact ba_get hlt2
                  have h4 := ins_run _ _ _ H3.out HC2 hi
                  rw [← Hn.out] at h4; omega
              have hak : a < k2 := by omega
              have HKk : Hid (a + n = k2) := by show _ = _; omega
              rw [List.drop_drop, show a + n = k2 by omega] at HK
              obtain ⟨q, Hq⟩ : ∃ q, Hid (q = wordK ((s.toList.drop a).take n)) := ⟨_, rfl⟩
              rw [← Hq.out] at HWd HK
              clear hE H3
              have HTok : Hid (∀ w4, Below w2.heap.size w2 w4 → ∃ A9 c9 w9, (∀ ty, (Builtin.append_ #[349, 349] ty #[.slice A' pre.length c', .slice (some ⟨w4.heap.size, 0, none⟩) 1 1]).run Tryz.prog (w4.alloc (.cells #[.int .i64 q, .string (s.extract a k2), .int .i64 a] 353)) = .ok (.slice A9 (pre.length + 1) c9) w9) ∧
                  w9.ownsRow w.heap.size 353 3 (.slice A9 (pre.length + 1) c9) (pre.length + 1) ((pre ++ [(⟨q, (s.toList.drop a).take n, a⟩ : GTok)]).flatMap tokCs) ∧ Below w.heap.size w w9) := by
                intro w4 hb4
                have h9 := below_next hbr hb4
                obtain ⟨A9, c9, w9, q1, q2, q3⟩ := tokenR_push (own_below HO.out hb4) ⟨q, (s.toList.drop a).take n, a⟩ (by omega) h9.size
                simp only [← HB.out] at q1
                exact ⟨A9, c9, w9, q1, q2, h9.trans q3⟩
              have Hpl1 : Hid ((pre ++ [(⟨q, (s.toList.drop a).take n, a⟩ : GTok)]).length = pre.length + 1) := by show _ = _; simp
              by_cases hlt2 : k2 < s.size
              · have j1 : (k2 : Int) < (s.size : Int) := by omega
                obtain ⟨_, hi⟩ := hcond hlt2
                have HI2 := Lib.hid (HInside.out (s[k2]'hlt2) w2)
                rw [hi] at HI2
                clear hi hcond
                go_wp2_with fail
                refine HI2.out.mono ?_
                rintro e w3 ⟨rfl, rfl⟩
                go_wp2_with fail
                refine HWd.out.mono ?_
                rintro e w4 ⟨rfl, hb4⟩
                by_cases hq0 : q = 0
                · have zq : ((q : Int) == 0) = true := by simp [hq0]
                  have HB2 : Hid (lexS s.toList = (pre, some a)) := by show _ = _; rw [HK.out, if_pos hq0]; simp
                  clear HK hq0
                  go_wp2_with fail
                  first | exact HBad.out w4 A' c' pre a (below_next hbr hb4) HB2.out (own_below HO.out hb4) | exact bodyPost_ret (v := .tuple #[.slice A' pre.length c', .int .i64 a]) (by simp [results, Tryz.results321, go_sem]) rfl (HBad.out w4 A' c' pre a (below_next hbr hb4) HB2.out (own_below HO.out hb4))
                · have zq : ((q : Int) == 0) = false := by simpa using hq0
                  have HK2 : Hid (lexS s.toList = ((pre ++ [⟨q, (s.toList.drop a).take n, a⟩]) ++ (lexA wordK k2 (s.toList.drop k2)).1, (lexA wordK k2 (s.toList.drop k2)).2)) := by
                    show _ = _
                    rw [HK.out, if_neg hq0]; simp
                  obtain ⟨A9, c9, w9, q1, q2, q3⟩ := HTok.out w4 hb4
                  have HRun := Lib.hid q1
                  have Q2 : Hid (w9.ownsRow w.heap.size 353 3 (.slice A9 (pre ++ [(⟨q, (s.toList.drop a).take n, a⟩ : GTok)]).length c9) (pre ++ [(⟨q, (s.toList.drop a).take n, a⟩ : GTok)]).length ((pre ++ [(⟨q, (s.toList.drop a).take n, a⟩ : GTok)]).flatMap tokCs)) := by
                    show World.ownsRow _ _ _ _ _ _ _
                    rw [Hpl1.out]; exact q2
                  clear HK hq0 q1 q2 HTok
                  go_wp2_with (at_builtin; refine wpList_append_run (o := ⟨some 83, _, _, _, _, _⟩) rfl _ _ _ rfl _ _ rfl rfl (HRun.out _) ?_)
                  go_roundw
                  case rel => exact ⟨k2, _, A9, c9, by omega, by rw [Hpl1.out], rfl, HK2, Q2, q3⟩
                  case measure => simp [intOf]; omega
              · have j1 : ¬ (k2 : Int) < (s.size : Int) := by omega
                clear hcond
                go_wp2_with fail
                refine HWd.out.mono ?_
                rintro e w4 ⟨rfl, hb4⟩
                by_cases hq0 : q = 0
                · have zq : ((q : Int) == 0) = true := by simp [hq0]
                  have HB2 : Hid (lexS s.toList = (pre, some a)) := by show _ = _; rw [HK.out, if_pos hq0]; simp
                  clear HK hq0
                  go_wp2_with fail
                  first | exact HBad.out w4 A' c' pre a (below_next hbr hb4) HB2.out (own_below HO.out hb4) | exact bodyPost_ret (v := .tuple #[.slice A' pre.length c', .int .i64 a]) (by simp [results, Tryz.results321, go_sem]) rfl (HBad.out w4 A' c' pre a (below_next hbr hb4) HB2.out (own_below HO.out hb4))
                · have zq : ((q : Int) == 0) = false := by simpa using hq0
                  have HK2 : Hid (lexS s.toList = ((pre ++ [⟨q, (s.toList.drop a).take n, a⟩]) ++ (lexA wordK k2 (s.toList.drop k2)).1, (lexA wordK k2 (s.toList.drop k2)).2)) := by
                    show _ = _
                    rw [HK.out, if_neg hq0]; simp
                  obtain ⟨A9, c9, w9, q1, q2, q3⟩ := HTok.out w4 hb4
                  have HRun := Lib.hid q1
                  have Q2 : Hid (w9.ownsRow w.heap.size 353 3 (.slice A9 (pre ++ [(⟨q, (s.toList.drop a).take n, a⟩ : GTok)]).length c9) (pre ++ [(⟨q, (s.toList.drop a).take n, a⟩ : GTok)]).length ((pre ++ [(⟨q, (s.toList.drop a).take n, a⟩ : GTok)]).flatMap tokCs)) := by
                    show World.ownsRow _ _ _ _ _ _ _
                    rw [Hpl1.out]; exact q2
                  clear HK hq0 q1 q2 HTok
                  go_wp2_with (at_builtin; refine wpList_append_run (o := ⟨some 83, _, _, _, _, _⟩) rfl _ _ _ rfl _ _ rfl rfl (HRun.out _) ?_)
                  go_roundw
                  case rel => exact ⟨k2, _, A9, c9, by omega, by rw [Hpl1.out], rfl, HK2, Q2, q3⟩
                  case measure => simp [intOf]; omega
        · have HT : Hid (tokL wordK (s.toList.drop a) = if (s.toList.drop a).take 2 ∈ signs2 then (5, 2) else if (s.toList.drop a).take 1 ∈ signs1 then (5, 1) else (0, 0)) := by
            refine tok_sign ?_
            rintro ⟨h1, h2⟩
            apply hw
            refine ⟨Hrun.out.2 h1, fun h => h2 (by rw [Hhead.out, h])⟩
          have hin : insB (s[a]'hlt) = false ∨ (insB (s[a]'hlt) = true ∧ decide ((s[a]'hlt) = 95) = true) := by
            cases h : insB (s[a]'hlt) with
            | false => exact .inl rfl
            | true => exact .inr ⟨rfl, by
                by_cases h2 : (s[a]'hlt) = 95
                · simpa using h2
                · exact absurd ⟨h, h2⟩ hw⟩
          clear hw
          have HTok : Hid (∀ (n : Nat) w4, Below wr.heap.size wr w4 → ∃ A9 c9 w9, (∀ ty, (Builtin.append_ #[349, 349] ty #[.slice A' pre.length c', .slice (some ⟨w4.heap.size, 0, none⟩) 1 1]).run Tryz.prog (w4.alloc (.cells #[.int .i64 5, .string (s.extract a (a + n)), .int .i64 a] 353)) = .ok (.slice A9 (pre.length + 1) c9) w9) ∧
              w9.ownsRow w.heap.size 353 3 (.slice A9 (pre.length + 1) c9) (pre.length + 1) ((pre ++ [(⟨5, (s.toList.drop a).take n, a⟩ : GTok)]).flatMap tokCs) ∧ Below w.heap.size w w9) := by
            intro n w4 hb4
            have h9 := below_next hbr hb4
            have hB : s.extract a (a + n) = bytes ((s.toList.drop a).take n) := ba_eq (by rw [ba_ext, List.drop_take, show a + n - a = n by omega])
            obtain ⟨A9, c9, w9, q1, q2, q3⟩ := tokenR_push (own_below HO.out hb4) ⟨5, (s.toList.drop a).take n, a⟩ (by omega) h9.size
            simp only [← hB] at q1
            exact ⟨A9, c9, w9, q1, q2, h9.trans q3⟩
          have Hpl1 : Hid (∀ n : Nat, (pre ++ [(⟨5, (s.toList.drop a).take n, a⟩ : GTok)]).length = pre.length + 1) := fun n => by simp
          have HI2 := Lib.hid (fun (W : World) => in_any _ _ _ _ (s.extract a (a + 2)) _ (strs_new (w := W) (L := signs2) (.cells #[.string ⟨#[58, 45]⟩, .string ⟨#[33, 61]⟩, .string ⟨#[60, 61]⟩, .string ⟨#[62, 61]⟩] 9) rfl (by decide) (by decide)))
          have HI1 := Lib.hid (fun (W : World) => in_any _ _ _ _ (s.extract a (a + 1)) _ (strs_new (w := W) (L := signs1) (.cells #[.string ⟨#[40]⟩, .string ⟨#[41]⟩, .string ⟨#[44]⟩, .string ⟨#[46]⟩, .string ⟨#[61]⟩, .string ⟨#[60]⟩, .string ⟨#[62]⟩, .string ⟨#[43]⟩, .string ⟨#[45]⟩, .string ⟨#[42]⟩] 9) rfl (by decide) (by decide)))
          have HM2 : Hid (decide (s.extract a (a + 2) ∈ signs2.map bytes) = decide ((s.toList.drop a).take 2 ∈ signs2)) := by
            show _ = _
            rw [mem_bytes, ba_ext, List.drop_take, show a + 2 - a = 2 by omega]
          have HM1 : Hid (decide (s.extract a (a + 1) ∈ signs1.map bytes) = decide ((s.toList.drop a).take 1 ∈ signs1)) := by
            show _ = _
            rw [mem_bytes, ba_ext, List.drop_take, show a + 1 - a = 1 by omega]
          rw [HM2.out] at HI2
          rw [HM1.out] at HI1
          have HDD : Hid (∀ n, (s.toList.drop a).drop n = s.toList.drop (a + n)) := fun n => by rw [List.drop_drop]
          clear HM1 HM2
          by_cases h2 : (s.toList.drop a).take 2 ∈ signs2
          · have ha2 : a + 2 ≤ s.size := by
              have h3 : ((s.toList.drop a).take 2).length = 2 := by
                have : ∀ p ∈ signs2, p.length = 2 := by decide
                exact this _ h2
              rw [List.length_take, HLd.out] at h3; omega
            have u0 : (a : Int) + 2 ≤ (s.size : Int) := by omega
            have u1 : (a : Int) ≤ (a : Int) + 2 := by omega
            have HT2 : Hid (tokL wordK (s.toList.drop a) = (5, 2)) := by show _ = _; rw [HT.out, if_pos h2]
            rw [HT2.out] at HK
            have HK2 : Hid (lexS s.toList = ((pre ++ [⟨5, (s.toList.drop a).take 2, a⟩]) ++ (lexA wordK (a + 2) (s.toList.drop (a + 2))).1, (lexA wordK (a + 2) (s.toList.drop (a + 2))).2)) := by
              show _ = _
              rw [HK.out, if_neg (by decide)]
              simp only [HDD.out]; simp
            simp only [h2, decide_true] at HI2
            clear HK h2
            rcases hin with hin | ⟨hin, h95⟩
            all_goals
              rw [hin] at HIa
              try rw [h95] at z95
              go_wp2_with fail
              refine HIa.out.mono ?_
              rintro e w2 ⟨rfl, rfl⟩
              go_wp2_with fail
              refine (HI2.out w2).mono ?_
              rintro e w5 ⟨rfl, hw5⟩
              have hb5 : Below w2.heap.size w2 w5 := by rw [hw5]; exact belowA (Below.refl _ _) _
              obtain ⟨A9, c9, w9, q1, q2, q3⟩ := HTok.out 2 w5 hb5
              have HRun := Lib.hid q1
              have Q2 : Hid (w9.ownsRow w.heap.size 353 3 (.slice A9 (pre ++ [(⟨5, (s.toList.drop a).take 2, a⟩ : GTok)]).length c9) (pre ++ [(⟨5, (s.toList.drop a).take 2, a⟩ : GTok)]).length ((pre ++ [(⟨5, (s.toList.drop a).take 2, a⟩ : GTok)]).flatMap tokCs)) := by
                show World.ownsRow _ _ _ _ _ _ _
                rw [Hpl1.out]; exact q2
              clear q1 q2 hw5
              go_wp2_with (at_builtin; refine wpList_append_run (o := ⟨some 108, _, _, _, _, _⟩) rfl _ _ _ rfl _ _ rfl rfl (HRun.out _) ?_)
              go_roundw
              case rel => exact ⟨a + 2, _, A9, c9, by omega, by rw [Hpl1.out], by go_num, HK2, Q2, q3⟩
              case measure => simp [intOf]; omega
          · simp only [h2, decide_false] at HI2
            have v0 : (a : Int) + 1 ≤ (s.size : Int) := by omega
            have v1 : (a : Int) ≤ (a : Int) + 1 := by omega
            rcases hin with hin | ⟨hin, h95⟩ <;> by_cases ha2 : a + 2 ≤ s.size
            all_goals
              rw [hin] at HIa
              try rw [h95] at z95
            all_goals
              first
              | (have u0 : (a : Int) + 2 ≤ (s.size : Int) := by omega)
              | (have u0 : ¬ (a : Int) + 2 ≤ (s.size : Int) := by omega)
              have u1 : (a : Int) ≤ (a : Int) + 2 := by omega
              go_wp2_with fail
              refine HIa.out.mono ?_
              rintro e w2 ⟨rfl, rfl⟩
              go_wp2_with fail
            focus
              refine (HI2.out w2).mono ?_
              rintro e w5 ⟨rfl, hw5⟩
              have hb5 : Below w2.heap.size w2 w5 := by rw [hw5]; exact belowA (Below.refl _ _) _
              clear hw5
              go_wp2_with fail
              refine (HI1.out w5).mono ?_
            rotate_left
            focus
              have hb5 : Below w2.heap.size w2 w2 := Below.refl _ _
              refine (HI1.out w2).mono ?_
            rotate_left
            focus
              refine (HI2.out w2).mono ?_
              rintro e w5 ⟨rfl, hw5⟩
              have hb5 : Below w2.heap.size w2 w5 := by rw [hw5]; exact belowA (Below.refl _ _) _
              clear hw5
              go_wp2_with fail
              refine (HI1.out w5).mono ?_
            rotate_left
            focus
              have hb5 : Below w2.heap.size w2 w2 := Below.refl _ _
              refine (HI1.out w2).mono ?_
            rotate_left
            all_goals
              rintro e w6 ⟨rfl, hw6⟩
              have hb6 : Below w2.heap.size w2 w6 := by rw [hw6]; exact belowA hb5 _
              clear hw6
              by_cases h1 : (s.toList.drop a).take 1 ∈ signs1
              · have HT2 : Hid (tokL wordK (s.toList.drop a) = (5, 1)) := by show _ = _; rw [HT.out, if_neg h2, if_pos h1]
                have HK1 := HK.out
                rw [HT2.out] at HK1
                have HK2 : Hid (lexS s.toList = ((pre ++ [⟨5, (s.toList.drop a).take 1, a⟩]) ++ (lexA wordK (a + 1) (s.toList.drop (a + 1))).1, (lexA wordK (a + 1) (s.toList.drop (a + 1))).2)) := by
                  show _ = _
                  rw [HK1, if_neg (by decide)]
                  simp only [HDD.out]; simp
                simp only [h1, decide_true]
                obtain ⟨A9, c9, w9, q1, q2, q3⟩ := HTok.out 1 w6 hb6
                have HRun := Lib.hid q1
                have Q2 : Hid (w9.ownsRow w.heap.size 353 3 (.slice A9 (pre ++ [(⟨5, (s.toList.drop a).take 1, a⟩ : GTok)]).length c9) (pre ++ [(⟨5, (s.toList.drop a).take 1, a⟩ : GTok)]).length ((pre ++ [(⟨5, (s.toList.drop a).take 1, a⟩ : GTok)]).flatMap tokCs)) := by
                  show World.ownsRow _ _ _ _ _ _ _
                  rw [Hpl1.out]; exact q2
                clear q1 q2 HK1 HK
                go_wp2_with (at_builtin; refine wpList_append_run (o := ⟨some 130, _, _, _, _, _⟩) rfl _ _ _ rfl _ _ rfl rfl (HRun.out _) ?_)
                go_roundw
                case rel => exact ⟨a + 1, _, A9, c9, by omega, by rw [Hpl1.out], by go_num, HK2, Q2, q3⟩
                case measure => simp [intOf]; omega
              · have HB2 : Hid (lexS s.toList = (pre, some a)) := by
                  have HK1 := HK.out
                  rw [HT.out, if_neg h2, if_neg h1] at HK1
                  show _ = _
                  rw [HK1, if_pos rfl]; simp
                simp only [h1, decide_false]
                clear HK
                go_wp2_with fail
                first | exact HBad.out w6 A' c' pre a (below_next hbr hb6) HB2.out (own_below HO.out hb6) | exact bodyPost_ret (v := .tuple #[.slice A' pre.length c', .int .i64 a]) (by simp [results, Tryz.results321, go_sem]) rfl (HBad.out w6 A' c' pre a (below_next hbr hb6) HB2.out (own_below HO.out hb6))
    · have i1 : ¬ (a : Int) < (s.size : Int) := by omega
      have HE2 : Hid (lexS s.toList = (pre, none)) := by
        show _ = _
        rw [HK.out, List.drop_eq_nil_of_le (by rw [Hlen.out]; omega)]
        simp [lexA, lexF]
      clear HK
      go_wp2_with fail
      exact HEnd.out wr A' c' pre hbr HE2.out HO.out
end Go.Proofs.YtgabkmibfhmkmaaGreatDoor

namespace Go.Proofs.YtgabkmibfhmkmaaGreatDoor
open Go.RowKit
def RefAllPost (s : ByteArray) (w : World) (e : Ending) (w' : World) : Prop := Below w.heap.size w w' ∧
  ((4000 < s.size ∧ e = .returned (.tuple #[.slice none 0 0, .int .i64 4000, .int .i64 3])) ∨
   (s.size ≤ 4000 ∧ ((∃ p : Nat, (lexS s.toList).2 = some p ∧ e = .returned (.tuple #[.slice none 0 0, .int .i64 p, .int .i64 2])) ∨
    ((lexS s.toList).2 = none ∧ ∃ A c, e = .returned (.tuple #[.slice A (lexS s.toList).1.length c, .int .i64 0, .int .i64 0]) ∧ SliceIs Enc.tok w' w'.heap.size A (lexS s.toList).1.length c (lexS s.toList).1))))
set_option maxRecDepth 100000 in
set_option maxHeartbeats 1000000 in
theorem refAll_any (s : ByteArray) (w : World) : Calls Tryz.prog 268 #[.string s] w (RefAllPost s w) := by
  obtain ⟨P, HP⟩ : ∃ P : Ending → World → Prop, Hid (P = RefAllPost s w) := ⟨_, rfl⟩
  rw [← HP.out]
  by_cases h4 : 4000 < s.size
  · have z0 : (4000 : Int) < (s.size : Int) := by omega
    have HE : Hid (∀ w', Below w.heap.size w w' → P (.returned (.tuple #[.slice none 0 0, .int .i64 4000, .int .i64 3])) w') := fun w' hb => by rw [HP.out]; exact ⟨hb, .inl ⟨h4, rfl⟩⟩
    clear h4 HP
    go_enter Tryz.func268, Tryz.ntmps268
    go_wp2_with fail
    exact bodyPost_ret (v := .tuple #[.slice none 0 0, .int .i64 4000, .int .i64 3]) (by simp [results, Tryz.results268, go_sem]) rfl (HE.out _ (Below.refl _ _))
  have HL := Lib.hid (refList_any s (by omega))
  have z0 : ¬ (4000 : Int) < (s.size : Int) := by omega
  have HE1 : Hid (∀ w' (p : Nat), Below w.heap.size w w' → (lexS s.toList).2 = some p → P (.returned (.tuple #[.slice none 0 0, .int .i64 p, .int .i64 2])) w') := fun w' p hb hp => by rw [HP.out]; exact ⟨hb, .inr ⟨by omega, .inl ⟨p, hp, rfl⟩⟩⟩
  have HE2 : Hid (∀ w' A c, Below w.heap.size w w' → (lexS s.toList).2 = none → SliceIs Enc.tok w' w'.heap.size A (lexS s.toList).1.length c (lexS s.toList).1 → P (.returned (.tuple #[.slice A (lexS s.toList).1.length c, .int .i64 0, .int .i64 0])) w') := fun w' A c hb hp hA => by rw [HP.out]; exact ⟨hb, .inr ⟨by omega, .inr ⟨hp, A, c, rfl, hA⟩⟩⟩
  clear HP
  go_enter Tryz.func268, Tryz.ntmps268
  go_wp2_with fail
  refine (HL.out w).mono ?_
  rintro e w1 ⟨hb, A, c, hA, -, ⟨hn, rfl⟩ | ⟨p, hp, rfl⟩⟩
  · have HA := Lib.hid hA
    have Hn := Lib.hid hn
    clear hA hn
    go_wp2_with fail
    exact bodyPost_ret (v := .tuple #[.slice A (lexS s.toList).1.length c, .int .i64 0, .int .i64 0]) (by simp [results, Tryz.results268, go_sem]) rfl (HE2.out _ A c hb Hn.out HA.out)
  · have Hn := Lib.hid hp
    have p0 : (0 : Int) ≤ (p : Int) := by omega
    clear hA hp
    go_wp2_with fail
    exact bodyPost_ret (v := .tuple #[.slice none 0 0, .int .i64 p, .int .i64 2]) (by simp [results, Tryz.results268, go_sem]) rfl (HE1.out _ p hb Hn.out)
end Go.Proofs.YtgabkmibfhmkmaaGreatDoor

namespace Go.Proofs.YtgabkmibfhmkmaaGreatDoor
open Go.RowKit
/-- a text is one token of a kind -/
def singleB (k : Int) (s : ByteArray) : Bool := decide (s.size ≤ 4000) && (match lexS s.toList with | ([q], none) => decide (q.k = k) && decide (q.t = s.toList) | _ => false)
theorem single_long {k : Int} {s : ByteArray} (h : 4000 < s.size) : singleB k s = false := by
  have : ¬ s.size ≤ 4000 := by omega
  simp [singleB, this]
theorem single_bad {k : Int} {s : ByteArray} {p : Nat} (h : (lexS s.toList).2 = some p) : singleB k s = false := by
  unfold singleB
  rcases hx : lexS s.toList with ⟨a, b⟩
  rw [hx] at h
  obtain rfl : b = some p := h
  simp
theorem single_many {k : Int} {s : ByteArray} (h : (lexS s.toList).1.length ≠ 1) : singleB k s = false := by
  unfold singleB
  rcases hx : lexS s.toList with ⟨a, b⟩
  rw [hx] at h
  match a, h with
  | [], _ => simp
  | [q], h => exact absurd rfl h
  | q :: r :: l, _ => simp
theorem single_one {k : Int} {s : ByteArray} {q : GTok} (h4 : s.size ≤ 4000) (h : (lexS s.toList).1 = [q]) (hn : (lexS s.toList).2 = none) : singleB k s = (decide (q.k = k) && decide (q.t = s.toList)) := by
  unfold singleB
  rcases hx : lexS s.toList with ⟨a, b⟩
  rw [hx] at h hn
  obtain rfl : a = [q] := h
  obtain rfl : b = none := hn
  simp [h4]
theorem single_at {s : ByteArray} {q : GTok} (h : (lexS s.toList).1 = [q]) (ht : q.t = s.toList) : q.a = 0 := by
  have h1 := lex_places (wk := wordK) s.toList.length 0 s.toList (Nat.le_refl _) q (by show q ∈ (lexS s.toList).1; rw [h]; simp)
  have h2 := h1.2.1
  rw [ht] at h2
  omega
theorem one_of {l : List GTok} (h : l.length = 1) : ∃ q, l = [q] := by
  match l, h with
  | [q], _ => exact ⟨q, rfl⟩
set_option maxRecDepth 100000 in
set_option maxHeartbeats 1000000 in
theorem variable_any (s : ByteArray) (hs : s.size ≤ 140737488351232) (w : World) (hW : LexW w) : Calls Tryz.prog 122 #[.string s] w (RetBool (singleB 3 s) w) := by
  have HL := Lib.hid (list_any s hs w hW)
  obtain ⟨B, HB⟩ : ∃ B, Hid (B = singleB 3 s) := ⟨_, rfl⟩
  rw [← HB.out]
  clear hW
  go_enter Tryz.func122, Tryz.ntmps122
  go_wp2_with fail
  refine HL.out.mono ?_
  rintro e w1 ⟨hb, ⟨h4, rfl⟩ | ⟨h4, ⟨p, hp, rfl⟩ | ⟨hn, A, c, rfl, hA⟩⟩⟩
  · have HE : Hid (B = false) := by show _ = _; rw [HB.out]; exact single_long h4
    have Hb := Lib.hid hb
    clear h4 hb HB
    go_wp2_with fail
    go_ret
    exact ⟨by rw [HE.out]; rfl, Hb.out⟩
  · have HE : Hid (B = false) := by show _ = _; rw [HB.out]; exact single_bad hp
    have Hb := Lib.hid hb
    clear h4 hb HB hp
    go_wp2_with fail
    go_ret
    exact ⟨by rw [HE.out]; rfl, Hb.out⟩
  · by_cases h1 : (lexS s.toList).1.length = 1
    · obtain ⟨q, hq⟩ := one_of h1
      have HE : Hid (B = (decide (q.k = 3) && decide (q.t = s.toList))) := by show _ = _; rw [HB.out]; exact single_one h4 hq hn
      have HZ := Lib.hid (single_at hq)
      rw [hq] at hA
      obtain ⟨b, o, x, rfl, hbB, hx, x0, x1, x2, f0, f1, f2⟩ := hA.tok_at (i := 0) (by simp)
      obtain rfl : x = q := by have := hx.out; simp at this; exact this.symm
      have Hb := Lib.hid hb
      rw [h1]
      simp only [Nat.zero_mul, Nat.add_zero] at x0 x1 x2
      clear h4 hb HB h1 hq hn hA hx f0 f1 f2
      go_wp2_with fail
      all_goals
        go_ret
        refine ⟨?_, Hb.out⟩
        have e1 : (bytes x.t).toList = x.t := toList_mk _
        have hE := HE.out
        have hz := HZ.out
        clear HL HE HZ Hb x0 x1 x2
        simp_all
    · have HE : Hid (B = false) := by show _ = _; rw [HB.out]; exact single_many h1
      have Hb := Lib.hid hb
      have q0 : ((((lexS s.toList).1.length : Nat) : Int) == 1) = false := by simp; omega
      clear h4 hb HB h1 hn hA
      go_wp2_with fail
      go_ret
      exact ⟨by rw [HE.out]; rfl, Hb.out⟩
set_option maxRecDepth 100000 in
set_option maxHeartbeats 1000000 in
theorem named_any (s : ByteArray) (hs : s.size ≤ 140737488351232) (w : World) (hW : LexW w) : Calls Tryz.prog 199 #[.string s] w (RetBool (singleB 2 s) w) := by
  have HL := Lib.hid (list_any s hs w hW)
  obtain ⟨B, HB⟩ : ∃ B, Hid (B = singleB 2 s) := ⟨_, rfl⟩
  rw [← HB.out]
  clear hW
  go_enter Tryz.func199, Tryz.ntmps199
  go_wp2_with fail
  refine HL.out.mono ?_
  rintro e w1 ⟨hb, ⟨h4, rfl⟩ | ⟨h4, ⟨p, hp, rfl⟩ | ⟨hn, A, c, rfl, hA⟩⟩⟩
  · have HE : Hid (B = false) := by show _ = _; rw [HB.out]; exact single_long h4
    have Hb := Lib.hid hb
    clear h4 hb HB
    go_wp2_with fail
    go_ret
    exact ⟨by rw [HE.out]; rfl, Hb.out⟩
  · have HE : Hid (B = false) := by show _ = _; rw [HB.out]; exact single_bad hp
    have Hb := Lib.hid hb
    clear h4 hb HB hp
    go_wp2_with fail
    go_ret
    exact ⟨by rw [HE.out]; rfl, Hb.out⟩
  · by_cases h1 : (lexS s.toList).1.length = 1
    · obtain ⟨q, hq⟩ := one_of h1
      have HE : Hid (B = (decide (q.k = 2) && decide (q.t = s.toList))) := by show _ = _; rw [HB.out]; exact single_one h4 hq hn
      have HZ := Lib.hid (single_at hq)
      rw [hq] at hA
      obtain ⟨b, o, x, rfl, hbB, hx, x0, x1, x2, f0, f1, f2⟩ := hA.tok_at (i := 0) (by simp)
      obtain rfl : x = q := by have := hx.out; simp at this; exact this.symm
      have Hb := Lib.hid hb
      rw [h1]
      simp only [Nat.zero_mul, Nat.add_zero] at x0 x1 x2
      clear h4 hb HB h1 hq hn hA hx f0 f1 f2
      go_wp2_with fail
      all_goals
        go_ret
        refine ⟨?_, Hb.out⟩
        have e1 : (bytes x.t).toList = x.t := toList_mk _
        have hE := HE.out
        have hz := HZ.out
        clear HL HE HZ Hb x0 x1 x2
        simp_all
    · have HE : Hid (B = false) := by show _ = _; rw [HB.out]; exact single_many h1
      have Hb := Lib.hid hb
      have q0 : ((((lexS s.toList).1.length : Nat) : Int) == 1) = false := by simp; omega
      clear h4 hb HB h1 hn hA
      go_wp2_with fail
      go_ret
      exact ⟨by rw [HE.out]; rfl, Hb.out⟩
set_option maxRecDepth 100000 in
set_option maxHeartbeats 1000000 in
theorem refSingle_any (s : ByteArray) (k : Int) (w : World) : Calls Tryz.prog 203 #[.string s, .int .i64 k] w (RetBool (singleB k s) w) := by
  have HL := Lib.hid (refAll_any s w)
  obtain ⟨B, HB⟩ : ∃ B, Hid (B = singleB k s) := ⟨_, rfl⟩
  rw [← HB.out]
  go_enter Tryz.func203, Tryz.ntmps203
  go_wp2_with fail
  refine HL.out.mono ?_
  rintro e w1 ⟨hb, ⟨h4, rfl⟩ | ⟨h4, ⟨p, hp, rfl⟩ | ⟨hn, A, c, rfl, hA⟩⟩⟩
  · have HE : Hid (B = false) := by show _ = _; rw [HB.out]; exact single_long h4
    have Hb := Lib.hid hb
    clear h4 hb HB
    go_wp2_with fail
    go_ret
    exact ⟨by rw [HE.out]; rfl, Hb.out⟩
  · have HE : Hid (B = false) := by show _ = _; rw [HB.out]; exact single_bad hp
    have Hb := Lib.hid hb
    clear h4 hb HB hp
    go_wp2_with fail
    go_ret
    exact ⟨by rw [HE.out]; rfl, Hb.out⟩
  · by_cases h1 : (lexS s.toList).1.length = 1
    · obtain ⟨q, hq⟩ := one_of h1
      have HE : Hid (B = (decide (q.k = k) && decide (q.t = s.toList))) := by show _ = _; rw [HB.out]; exact single_one h4 hq hn
      rw [hq] at hA
      obtain ⟨b, o, x, rfl, hbB, hx, x0, x1, x2, f0, f1, f2⟩ := hA.tok_at (i := 0) (by simp)
      obtain rfl : x = q := by have := hx.out; simp at this; exact this.symm
      have Hb := Lib.hid hb
      rw [h1]
      simp only [Nat.zero_mul, Nat.add_zero] at x0 x1 x2
      have e1 : (bytes x.t).toList = x.t := toList_mk _
      clear h4 hb HB h1 hq hn hA hx f0 f1 f2
      by_cases hk : x.k = k
      · have k0 : (x.k == k) = true := by simp [hk]
        by_cases ht : x.t = s.toList
        · have t0 : (x.t == s.toList) = true := by simp [ht]
          have HE3 : Hid (B = true) := by show _ = _; rw [HE.out]; simp [hk, ht]
          clear hk ht HE
          go_wp2_with fail
          go_ret
          exact ⟨by rw [HE3.out]; rfl, Hb.out⟩
        · have t0 : (x.t == s.toList) = false := by simp [ht]
          have HE3 : Hid (B = false) := by show _ = _; rw [HE.out]; simp [ht]
          clear hk ht HE
          go_wp2_with fail
          go_ret
          exact ⟨by rw [HE3.out]; rfl, Hb.out⟩
      · have k0 : (x.k == k) = false := by simp [hk]
        have HE3 : Hid (B = false) := by show _ = _; rw [HE.out]; simp [hk]
        clear hk HE
        go_wp2_with fail
        go_ret
        exact ⟨by rw [HE3.out]; rfl, Hb.out⟩
    · have HE : Hid (B = false) := by show _ = _; rw [HB.out]; exact single_many h1
      have Hb := Lib.hid hb
      have q0 : ((((lexS s.toList).1.length : Nat) : Int) == 1) = false := by simp; omega
      clear h4 hb HB h1 hn hA
      go_wp2_with fail
      go_ret
      exact ⟨by rw [HE.out]; rfl, Hb.out⟩
set_option maxRecDepth 100000 in
theorem refVariable_any (s : ByteArray) (w : World) : Calls Tryz.prog 262 #[.string s] w (RetBool (singleB 3 s) w) := by
  have HL := Lib.hid (refSingle_any s 3 w)
  go_enter Tryz.func262, Tryz.ntmps262
  go_wp2_with fail
  refine HL.out.mono ?_
  rintro e w1 ⟨rfl, hb⟩
  go_wp2_with fail
  go_ret
  exact ⟨rfl, hb⟩
set_option maxRecDepth 100000 in
theorem refNamed_any (s : ByteArray) (w : World) : Calls Tryz.prog 126 #[.string s] w (RetBool (singleB 2 s) w) := by
  have HL := Lib.hid (refSingle_any s 2 w)
  go_enter Tryz.func126, Tryz.ntmps126
  go_wp2_with fail
  refine HL.out.mono ?_
  rintro e w1 ⟨rfl, hb⟩
  go_wp2_with fail
  go_ret
  exact ⟨rfl, hb⟩
end Go.Proofs.YtgabkmibfhmkmaaGreatDoor

namespace Go.Proofs.YtgabkmibfhmkmaaGreatDoor
open Go.RowKit
theorem str_empty {s : ByteArray} : s.toList = [] ↔ s.size = 0 := by
  rw [← ba_len]; simp
def rightT (t : GTold) : Bool := if t.x.size = 0 then rightB t.v else singleB 3 t.x && decide (t.v = gv0)
abbrev toldV (t : GTold) : Value := .agg #[.string t.x, .int .i64 t.v.k, .int .i64 t.v.n, .string t.v.s]
theorem gv_zero {v : GV} : v = gv0 ↔ v.k = 0 ∧ v.n = 0 ∧ v.s.toList = [] := by
  cases v
  simp [gv0, ← toList_inj, show (⟨#[]⟩ : ByteArray).toList = [] from by rw [ByteArray.toList_eq]]
set_option maxRecDepth 100000 in
set_option maxHeartbeats 1000000 in
theorem tright_any (t : GTold) (hx : t.x.size ≤ reachN) (w : World) (hW : LexW w) : Calls Tryz.prog 219 #[toldV t] w (RetBool (rightT t) w) := by
  obtain ⟨B, HB⟩ : ∃ B, Hid (B = rightT t) := ⟨_, rfl⟩
  rw [← HB.out]
  have hrb : (w.alloc (.cells #[.string t.x, .int .i64 t.v.k, .int .i64 t.v.n, .string t.v.s] 30)).heap[w.heap.size]? = some (.cells #[.string t.x, .int .i64 t.v.k, .int .i64 t.v.n, .string t.v.s] 30 (0, 0)) := heapNew rfl
  have hba : Below w.heap.size w (w.alloc (.cells #[.string t.x, .int .i64 t.v.k, .int .i64 t.v.n, .string t.v.s] 30)) := belowA (Below.refl _ _) _
  have HR := Lib.hid (fun W => right_any t.v W)
  have HV := Lib.hid (variable_any t.x hx _ (hW.on hba))
  clear hW
  generalize hwb : w.alloc (.cells #[.string t.x, .int .i64 t.v.k, .int .i64 t.v.n, .string t.v.s] 30) = wb at *
  obtain ⟨b0, b1, b2, b3⟩ := facts4 hrb
  have Hlt := Lib.hid (Array.getElem?_eq_some_iff.1 hrb).1
  by_cases h0 : t.x.size = 0
  · have e0 : (t.x.toList == ([] : List UInt8)) = true := by simp [str_empty.2 h0]
    have e1 : t.x.toList.isEmpty = true := by simp [str_empty.2 h0]
    have HE : Hid (B = rightB t.v) := by show _ = _; rw [HB.out]; simp [rightT, h0]
    clear h0 HB
    go_enter Tryz.func219, Tryz.ntmps219
    go_wp2_with fail
    try simp only [hwb]
    go_wp2_with fail
    refine (HR.out _).mono ?_
    rintro e w1 ⟨rfl, hb⟩
    have Hb := Lib.hid hb
    clear hb
    go_wp2_with fail
    go_ret
    exact ⟨by rw [HE.out]; rfl, below_next hba Hb.out⟩
  · have e0 : (t.x.toList == ([] : List UInt8)) = false := by simp [str_empty, h0]
    have e1 : t.x.toList.isEmpty = false := by simp [str_empty, h0]
    have HE : Hid (B = (singleB 3 t.x && decide (t.v = gv0))) := by show _ = _; rw [HB.out]; simp [rightT, h0]
    clear h0 HB
    go_enter Tryz.func219, Tryz.ntmps219
    go_wp2_with fail
    try simp only [hwb]
    go_wp2_with fail
    refine HV.out.mono ?_
    rintro e w1 ⟨rfl, hb⟩
    have Hb := Lib.hid hb
    obtain ⟨c0, c1, c2, c3⟩ := facts4 ((hb.block _ Hlt.out).trans hrb)
    clear hb
    cases hs : singleB 3 t.x with
    | false =>
      have HE2 : Hid (B = false) := by show _ = _; rw [HE.out, hs]; rfl
      clear HE hs
      go_wp2_with fail
      go_ret
      exact ⟨by rw [HE2.out]; rfl, below_next hba Hb.out⟩
    | true =>
      have HE2 : Hid (B = decide (t.v = gv0)) := by show _ = _; rw [HE.out, hs]; rfl
      clear HE hs
      go_wp2_with fail
      all_goals
        go_ret
        refine ⟨?_, below_next hba Hb.out⟩
        have hE := HE2.out
        clear HE2 Hb HR HV c0 c1 c2 c3 b0 b1 b2 b3 hwb hrb hba Hlt
        simp_all [gv_zero]
set_option maxRecDepth 100000 in
set_option maxHeartbeats 1000000 in
theorem refTright_any (t : GTold) (hv : t.v.ok) (w : World) : Calls Tryz.prog 193 #[toldV t] w (RetBool (rightT t) w) := by
  obtain ⟨B, HB⟩ : ∃ B, Hid (B = rightT t) := ⟨_, rfl⟩
  rw [← HB.out]
  have hrb : (w.alloc (.cells #[.string t.x, .int .i64 t.v.k, .int .i64 t.v.n, .string t.v.s] 46)).heap[w.heap.size]? = some (.cells #[.string t.x, .int .i64 t.v.k, .int .i64 t.v.n, .string t.v.s] 46 (0, 0)) := heapNew rfl
  have hba : Below w.heap.size w (w.alloc (.cells #[.string t.x, .int .i64 t.v.k, .int .i64 t.v.n, .string t.v.s] 46)) := belowA (Below.refl _ _) _
  have HR := Lib.hid (fun W => refRight_any t.v hv W)
  have HV := Lib.hid (fun W => refVariable_any t.x W)
  generalize hwb : w.alloc (.cells #[.string t.x, .int .i64 t.v.k, .int .i64 t.v.n, .string t.v.s] 46) = wb at *
  obtain ⟨b0, b1, b2, b3⟩ := facts4 hrb
  have Hlt := Lib.hid (Array.getElem?_eq_some_iff.1 hrb).1
  by_cases h0 : t.x.size = 0
  · have e0 : ((t.x.size : Int) == 0) = true := by simp [h0]
    have HE : Hid (B = rightB t.v) := by show _ = _; rw [HB.out]; simp [rightT, h0]
    clear h0 HB
    go_enter Tryz.func193, Tryz.ntmps193
    go_wp2_with fail
    try simp only [hwb]
    go_wp2_with fail
    refine (HR.out _).mono ?_
    rintro e w1 ⟨rfl, hb⟩
    have Hb := Lib.hid hb
    clear hb
    go_wp2_with fail
    go_ret
    exact ⟨by rw [HE.out]; rfl, below_next hba Hb.out⟩
  · have e0 : ((t.x.size : Int) == 0) = false := by rw [beq_eq_false_iff_ne]; omega
    have HE : Hid (B = (singleB 3 t.x && decide (t.v = gv0))) := by show _ = _; rw [HB.out]; simp [rightT, h0]
    clear h0 HB
    go_enter Tryz.func193, Tryz.ntmps193
    go_wp2_with fail
    try simp only [hwb]
    go_wp2_with fail
    refine (HV.out _).mono ?_
    rintro e w1 ⟨rfl, hb⟩
    have Hb := Lib.hid hb
    obtain ⟨c0, c1, c2, c3⟩ := facts4 ((hb.block _ Hlt.out).trans hrb)
    clear hb
    cases hs : singleB 3 t.x with
    | false =>
      have HE2 : Hid (B = false) := by show _ = _; rw [HE.out, hs]; rfl
      clear HE hs
      go_wp2_with fail
      go_ret
      exact ⟨by rw [HE2.out]; rfl, below_next hba Hb.out⟩
    | true =>
      have HE2 : Hid (B = decide (t.v = gv0)) := by show _ = _; rw [HE.out, hs]; rfl
      clear HE hs
      go_wp2_with fail
      all_goals
        go_ret
        refine ⟨?_, below_next hba Hb.out⟩
        have hE := HE2.out
        clear HE2 Hb HR HV c0 c1 c2 c3 b0 b1 b2 b3 hwb hrb hba Hlt
        simp_all [gv_zero]
end Go.Proofs.YtgabkmibfhmkmaaGreatDoor

namespace Go.Proofs.YtgabkmibfhmkmaaGreatDoor
open Go.RowKit
set_option maxRecDepth 100000 in
set_option maxHeartbeats 1000000 in
theorem shown_any (t : GTold) (hv : fits t.v.n) (w : World) (h : TabW w) : Calls Tryz.prog 190 #[toldV t] w (RetV (.string (bytes (shownT t))) w) := by
  obtain ⟨S, HS⟩ : ∃ S, Hid (S = shownT t) := ⟨_, rfl⟩
  rw [← HS.out]
  have hrb : (w.alloc (.cells #[.string t.x, .int .i64 t.v.k, .int .i64 t.v.n, .string t.v.s] 30)).heap[w.heap.size]? = some (.cells #[.string t.x, .int .i64 t.v.k, .int .i64 t.v.n, .string t.v.s] 30 (0, 0)) := heapNew rfl
  have hba : Below w.heap.size w (w.alloc (.cells #[.string t.x, .int .i64 t.v.k, .int .i64 t.v.n, .string t.v.s] 30)) := belowA (Below.refl _ _) _
  have HR := Lib.hid (text_any t.v hv _ (h.on hba))
  obtain ⟨b0, b1, b2, b3⟩ := facts4 hrb
  clear h
  by_cases h0 : t.x.size = 0
  · have e0 : (t.x.toList == ([] : List UInt8)) = true := by simp [str_empty.2 h0]
    have e1 : t.x.toList.isEmpty = true := by simp [str_empty.2 h0]
    have HE : Hid (S = textOf t.v) := by show _ = _; rw [HS.out]; simp [shownT, h0]
    clear h0 HS
    go_enter Tryz.func190, Tryz.ntmps190
    go_wp2_with fail
    refine HR.out.mono ?_
    rintro e w1 ⟨rfl, hb⟩
    have Hb := Lib.hid hb
    clear hb
    go_wp2_with fail
    go_ret
    exact ⟨by rw [HE.out]; rfl, below_next hba Hb.out⟩
  · have e0 : (t.x.toList == ([] : List UInt8)) = false := by simp [str_empty, h0]
    have e1 : t.x.toList.isEmpty = false := by simp [str_empty, h0]
    have HE : Hid (bytes S = t.x) := by show _ = _; rw [HS.out]; simp only [shownT, if_neg h0]; exact bytes_of _
    clear h0 HS HR
    go_enter Tryz.func190, Tryz.ntmps190
    go_wp2_with fail
    go_ret
    exact ⟨by rw [HE.out]; rfl, hba⟩
set_option maxRecDepth 100000 in
theorem sum_any (e : GExp) (A : Option Addr) (n c : Nat) (w : World) : Calls Tryz.prog 192 #[expV e A n c] w (RetBool (sumB e) w) := by
  obtain ⟨S, HS⟩ : ∃ S, Hid (S = sumB e) := ⟨_, rfl⟩
  rw [← HS.out]
  have hba : Below w.heap.size w (w.alloc (.cells (expC e A n c).toArray 33)) := belowA (Below.refl _ _) _
  by_cases h0 : 0 < e.op
  · by_cases h3 : e.op < 3
    · have HE : Hid (S = true) := by show _ = _; rw [HS.out]; simp [sumB, h0, h3]
      clear HS
      go_enter Tryz.func192, Tryz.ntmps192
      go_wp2_with fail
      go_ret
      exact ⟨by rw [HE.out]; simp [*], hba⟩
    · have HE : Hid (S = false) := by show _ = _; rw [HS.out]; simp [sumB, h0, h3]
      clear HS
      go_enter Tryz.func192, Tryz.ntmps192
      go_wp2_with fail
      go_ret
      exact ⟨by rw [HE.out]; simp [*], hba⟩
  · have HE : Hid (S = false) := by show _ = _; rw [HS.out]; simp [sumB, h0]
    clear HS
    go_enter Tryz.func192, Tryz.ntmps192
    go_wp2_with fail
    go_ret
    exact ⟨by rw [HE.out]; simp [*], hba⟩
theorem bytes_in (s : List UInt8) : (⟨#[40]⟩ : ByteArray) ++ bytes s ++ ⟨#[41]⟩ = bytes (inB true s) := by
  show bytes [40] ++ bytes s ++ bytes [41] = _
  rw [bytes_app, bytes_app]; rfl
set_option maxRecDepth 100000 in
theorem within_any (e : GExp) (A : Option Addr) (n c : Nat) (b : Bool) (s : List UInt8) (w : World) (hs : s.length ≤ 1000000000000)
    (H : ∀ W, Below w.heap.size w W → Calls Tryz.prog 115 #[expV e A n c] W (RetV (.string (bytes s)) W)) : Calls Tryz.prog 191 #[expV e A n c, .bool b] w (RetV (.string (bytes (inB b s))) w) := by
  have hba : Below w.heap.size w (w.alloc (.cells (expC e A n c).toArray 33)) := belowA (Below.refl _ _) _
  have HC := Lib.hid (H _ hba)
  clear H
  cases b with
  | false =>
    go_enter Tryz.func191, Tryz.ntmps191
    go_wp2_with fail
    refine HC.out.mono ?_
    rintro r w1 ⟨rfl, hb⟩
    go_wp2_with fail
    go_ret
    exact ⟨rfl, below_next hba hb⟩
  | true =>
    go_enter Tryz.func191, Tryz.ntmps191
    go_wp2_with fail
    refine HC.out.mono ?_
    rintro r w1 ⟨rfl, hb⟩
    have HI := Lib.hid (bytes_in s)
    have hz : (bytes s).size ≤ 1000000000000 := hs
    generalize bytes s = sb at *
    have hz1 : ¬ (9223372036854775807 < 1 + sb.size) := by omega
    have hz2 : ¬ (9223372036854775807 < sb.size + 1) := by omega
    have hz3 : ¬ (9223372036854775806 < sb.size) := by omega
    go_wp2_with fail
    go_ret
    exact ⟨by rw [HI.out]; rfl, below_next hba hb⟩
end Go.Proofs.YtgabkmibfhmkmaaGreatDoor
