/- My own texts LexR2, RefAll, as far as this claim needs them. -/
import Derived.Test.YtaeedepojpablaaGreatDoorZqb1
set_option linter.unusedVariables false
set_option linter.unusedSimpArgs false
set_option maxRecDepth 1000000
set_option maxHeartbeats 16000000
namespace Go.Proofs.YtaeedepojpablaaGreatDoor
open Go.RowKit
theorem tw_in {p : UInt8 → Bool} : ∀ (l : List UInt8) (k : Nat) (c : UInt8), k ≤ (l.takeWhile p).length → l[k]? = some c → p c = true → k + 1 ≤ (l.takeWhile p).length
 | [], k, c, h, hc, hi => by simp at hc
 | d :: r, 0, c, h, hc, hi => by
   simp at hc; subst hc
   simp [hi]
 | d :: r, k + 1, c, h, hc, hi => by
   rw [List.takeWhile_cons] at h ⊢; cases hd : p d with
   | false => rw [hd] at h; simp at h
   | true =>
     rw [hd] at h; simp only [if_true, List.length_cons] at h ⊢; have := tw_in r k c (by omega) (by simpa using hc) hi; omega
theorem tw_out {p : UInt8 → Bool} : ∀ (l : List UInt8) (k : Nat) (c : UInt8), k ≤ (l.takeWhile p).length → l[k]? = some c → p c = false → (l.takeWhile p).length = k
 | [], k, c, h, hc, hi => by simp at hc
 | d :: r, 0, c, h, hc, hi => by
   simp at hc; subst hc
   simp [hi]
 | d :: r, k + 1, c, h, hc, hi => by
   rw [List.takeWhile_cons] at h ⊢; cases hd : p d with
   | false => rw [hd] at h; simp at h
   | true =>
     rw [hd] at h; simp only [if_true, List.length_cons] at h ⊢; have := tw_out r k c (by omega) (by simpa using hc) hi; omega
theorem tw_le {p : UInt8 → Bool} (l : List UInt8) : (l.takeWhile p).length ≤ l.length := List.Sublist.length_le (List.takeWhile_sublist p)
def signs2 : List (List UInt8) := [[58, 45], [33, 61], [60, 61], [62, 61]]
def signs1 : List (List UInt8) := [[40], [41], [44], [46], [61], [60], [62], [43], [45], [42]]
theorem find_len (n : Nat) (l : List UInt8) : ∀ S : List (List UInt8), (∀ p ∈ S, p.length = n) → S.find? (·.isPrefixOf l) = if l.take n ∈ S then some (l.take n) else none
 | [], _ => by simp
 | p :: S, h => by
   have ih := find_len n l S (fun q hq => h q (List.mem_cons_of_mem _ hq)); have hp := h p (List.mem_cons_self ..); rw [List.find?_cons, ih]; by_cases hq : l.take n = p
   ·have h1 : p.isPrefixOf l = true := by
     rw [List.isPrefixOf_iff_prefix, ← hq]; exact List.take_prefix _ _
    simp [h1, hq]
   ·have h1 : p.isPrefixOf l = false := by
     rw [Bool.eq_false_iff]; intro h2; apply hq; rw [List.isPrefixOf_iff_prefix] at h2; rw [← hp]; exact (List.prefix_iff_eq_take.1 h2).symm
    simp only [h1, List.mem_cons, hq, false_or]
theorem tok_sign {l : List UInt8} (h : ¬ (0 < runL l ∧ l.head? ≠ some 95)) : tokL wordK l = if l.take 2 ∈ signs2 then (5, 2) else if l.take 1 ∈ signs1 then (5, 1) else (0, 0) := by
 unfold tokL; rw [if_neg h, show signsL = signs2 ++ signs1 from rfl, List.find?_append, find_len 2 l signs2 (by decide), find_len 1 l signs1 (by decide)]; by_cases h2 : l.take 2 ∈ signs2
 ·have h3 : (l.take 2).length = 2 := by
   have : ∀ p ∈ signs2, p.length = 2 := by decide
   exact this _ h2
  rw [if_pos h2, if_pos h2]; simp only [Option.some_or]; rw [h3]
 ·rw [if_neg h2, if_neg h2]; simp only [Option.none_or]; by_cases h1 : l.take 1 ∈ signs1
  ·have h3 : (l.take 1).length = 1 := by
    have : ∀ p ∈ signs1, p.length = 1 := by decide
    exact this _ h1
   rw [if_pos h1, if_pos h1]; simp only; rw [h3]
  ·rw [if_neg h1, if_neg h1]
theorem tokenR_info : (Tryz.prog.info? 200).map (fun i => (i.zero, i.size, i.bytes)) = some (some (.agg #[.int .i64 0, .string ⟨#[]⟩, .int .i64 0]), 3, 32) := by kernel_rfl
theorem tokenR_push {W : World} {base : Nat} {A : Option Addr} {c k : Nat} {xs : List GTok} (hown : W.ownsRow base 200 3 (.slice A k c) k (xs.flatMap tokCs)) (q : GTok) (hn : k + 1 ≤ 1000000) (hb : base ≤ W.heap.size) :
 ∃ A' c' w', (∀ ty, (Builtin.append_ #[196, 196] ty #[.slice A k c, .slice (some ⟨W.heap.size, 0, none⟩) 1 1]).run Tryz.prog (W.alloc (.cells #[.int .i64 q.k, .string (bytes q.t), .int .i64 q.a] 200)) = .ok (.slice A' (k + 1) c') w') ∧
   w'.ownsRow base 200 3 (.slice A' (k + 1) c') (k + 1) ((xs ++ [q]).flatMap tokCs) ∧ Below base W w' := by
 have ho : (W.alloc (.cells #[.int .i64 q.k, .string (bytes q.t), .int .i64 q.a] 200)).ownsRow base 200 3 (.slice A k c) k (xs.flatMap tokCs) := own_below hown (belowA (Below.refl _ _) _)
 obtain ⟨v', w', h1, h2, h3, h4⟩ := run_push_at (P := Tryz.prog) (ty := 196) (W.alloc (.cells #[.int .i64 q.k, .string (bytes q.t), .int .i64 q.a] 200)) (base := base) Tryz.underlying196 tokenR_info rfl (by decide) ho W.heap.size (tokCs q) rfl (heapNew rfl) (by intro u hu; simp [tokCs] at hu; rcases hu with rfl | rfl | rfl <;> rfl)
  (by simp [maxLen]; omega) (by omega) (by simp; omega)
 obtain ⟨A', c', rfl⟩ := own_form h2; refine ⟨A', c', w', fun _ => h1, ?_, ?_⟩
 ·rw [List.flatMap_append]; simpa using h2
 ·exact ((Below.refl base W).alloc hb _).trans h4
theorem toksR_is {w : World} {base : Nat} {A : Option Addr} {n c : Nat} {l : List GTok} (h : w.ownsRow base 200 3 (.slice A n c) n (l.flatMap tokCs)) (hl : l.length = n) (hn : n ≤ 1000000) (hok : ∀ q ∈ l, fits q.k ∧ fits q.a ∧ q.t.length ≤ reachN) : SliceIs Enc.tok w w.heap.size A n c l :=
 SliceIs.of_flat (E := Enc.tok) tokCs (fun _ => rfl) h hl (by simp [reachN]; omega) (fun q hq => ⟨rfl, hok q hq⟩)
def RefListPost (s : ByteArray) (w : World) (e : Ending) (w' : World) : Prop := Below w.heap.size w w' ∧ ∃ A c, SliceIs Enc.tok w' w'.heap.size A (lexS s.toList).1.length c (lexS s.toList).1 ∧
 w'.ownsRow w.heap.size 200 3 (.slice A (lexS s.toList).1.length c) (lexS s.toList).1.length ((lexS s.toList).1.flatMap tokCs) ∧
 (((lexS s.toList).2 = none ∧ e = .returned (.tuple #[.slice A (lexS s.toList).1.length c, .int .i64 (-1)])) ∨ ∃ p : Nat, (lexS s.toList).2 = some p ∧ e = .returned (.tuple #[.slice A (lexS s.toList).1.length c, .int .i64 p]))
theorem refList_any (s : ByteArray) (hs : s.size ≤ 5000) (w : World) : Calls Tryz.prog 140 #[.string s] w (RefListPost s w) := by
 obtain ⟨P, HP⟩ : ∃ P : Ending → World → Prop, Hid (P = RefListPost s w) := ⟨_, rfl⟩
 rw [← HP.out]
 have HEnd : Hid (∀ w' A c (T : List GTok), Below w.heap.size w w' → lexS s.toList = (T, none) → w'.ownsRow w.heap.size 200 3 (.slice A T.length c) T.length (T.flatMap tokCs) → P (.returned (.tuple #[.slice A T.length c, .int .i64 (-1)])) w') := by
  intro w' A c T hb hT ho; have hf := lex_fits (l := s.toList) (by rw [ba_len]; omega); have hl := (lex_len (wk := wordK) _ 0 s.toList (Nat.le_refl _)).2; rw [ba_len] at hl; replace hl : (lexS s.toList).1.length ≤ s.size := hl; rw [HP.out]; unfold RefListPost; rw [hT] at hf hl ⊢
  exact ⟨hb, A, c, toksR_is ho rfl (by have hl' : T.length ≤ s.size := hl; omega) hf, ho, .inl ⟨rfl, rfl⟩⟩
 have HBad : Hid (∀ w' A c (T : List GTok) (p : Nat), Below w.heap.size w w' → lexS s.toList = (T, some p) → w'.ownsRow w.heap.size 200 3 (.slice A T.length c) T.length (T.flatMap tokCs) → P (.returned (.tuple #[.slice A T.length c, .int .i64 p])) w') := by
  intro w' A c T p hb hT ho; have hf := lex_fits (l := s.toList) (by rw [ba_len]; omega); have hl := (lex_len (wk := wordK) _ 0 s.toList (Nat.le_refl _)).2; rw [ba_len] at hl; replace hl : (lexS s.toList).1.length ≤ s.size := hl; rw [HP.out]; unfold RefListPost; rw [hT] at hf hl ⊢
  exact ⟨hb, A, c, toksR_is ho rfl (by have hl' : T.length ≤ s.size := hl; omega) hf, ho, .inr ⟨p, rfl, rfl⟩⟩
 have HSz : Hid ((lexS s.toList).1.length ≤ s.size) := by
  have hl := (lex_len (wk := wordK) _ 0 s.toList (Nat.le_refl _)).2; rw [ba_len] at hl; exact hl
 have Hlen := hZ9 (ba_len s); have HInside := hZ9 inside_any; clear HP; go_enter Tryz.func140, Tryz.ntmps140
 go_wp2_with fail
 go_loopw [4, 5, 6, 7, 8] (fun out at' _ _ _ wr => ∃ (a : Nat) (pre : List GTok) (A' : Option Addr) (c' : Nat), a ≤ s.size ∧ out = .slice A' pre.length c' ∧ at' = .int .i64 a ∧ Hid (lexS s.toList = (pre ++ (lexA wordK a (s.toList.drop a)).1, (lexA wordK a (s.toList.drop a)).2)) ∧
  Hid (wr.ownsRow w.heap.size 200 3 (.slice A' pre.length c') pre.length (pre.flatMap tokCs)) ∧ Below w.heap.size w wr) (fun _ at' _ _ _ _ => s.size - (intOf at').toNat)
 case atStart => exact ⟨0, [], none, 0, by omega, rfl, rfl, rfl, World.ownsRow_nil _ _ _ _, Below.refl _ _⟩
 case round =>
  obtain ⟨a, pre, A', c', ha, rfl, rfl, HK, HO, hbr⟩ := hrel; have i0 : (0 : Int) ≤ (a : Int) := by omega
  have hpl : pre.length ≤ 5000 := by
   have h1 := congrArg (fun r => r.1.length) HK.out; have := HSz.out; simp only [List.length_append] at h1; omega
  by_cases hlt : a < s.size
  ·have i1 : (a : Int) < (s.size : Int) := by omega
   have i2 : (a : Int) ≤ (s.size : Int) := by omega
   have HD : Hid (s.toList.drop a = (s[a]'hlt) :: s.toList.drop (a + 1)) := by
    show _ = _; have h1 := ba_get hlt; obtain ⟨h2, h3⟩ := List.getElem?_eq_some_iff.1 h1; rw [List.drop_eq_getElem_cons h2, h3]
   have HN := hZ9 (fun (k : UInt8) (n : Nat) (h : n = k.toNat) => show ((((s[a]'hlt).toNat : Int) == (n : Int)) = decide ((s[a]'hlt) = k)) from by
    rw [Bool.eq_iff_iff]; simp only [beq_iff_eq, decide_eq_true_eq]
    constructor
    ·intro h2; exact UInt8.toNat_inj.1 (by omega)
    ·intro h2; rw [h2, h])
   have z9 : (((s[a]'hlt).toNat : Int) == 9) = decide ((s[a]'hlt) = 9) := HN.out 9 9 rfl; have z10 : (((s[a]'hlt).toNat : Int) == 10) = decide ((s[a]'hlt) = 10) := HN.out 10 10 rfl; have z13 : (((s[a]'hlt).toNat : Int) == 13) = decide ((s[a]'hlt) = 13) := HN.out 13 13 rfl; have z32 : (((s[a]'hlt).toNat : Int) == 32) = decide ((s[a]'hlt) = 32) := HN.out 32 32 rfl; have z37 : (((s[a]'hlt).toNat : Int) == 37) = decide ((s[a]'hlt) = 37) := HN.out 37 37 rfl
   have z95 : (((s[a]'hlt).toNat : Int) != 95) = !decide ((s[a]'hlt) = 95) := by
    have h1 := HN.out 95 95 rfl; show (!(((s[a]'hlt).toNat : Int) == 95)) = _; rw [show ((95 : Int)) = ((95 : Nat) : Int) from rfl, h1]
   have HBl : Hid (blankB (s[a]'hlt) = (decide ((s[a]'hlt) = 9) || decide ((s[a]'hlt) = 10) || decide ((s[a]'hlt) = 32) || decide ((s[a]'hlt) = 13))) := rfl; clear HN; cases hbl : blankB (s[a]'hlt) with
   | true =>
     have HK2 : Hid (lexS s.toList = (pre ++ (lexA wordK (a + 1) (s.toList.drop (a + 1))).1, (lexA wordK (a + 1) (s.toList.drop (a + 1))).2)) := by
      show _ = _; rw [HK.out]
      have h1 : lexA wordK a (s.toList.drop a) = lexA wordK (a + 1) (s.toList.drop (a + 1)) := by
       have h2 := lexA_adv (wk := wordK) (l := s.toList.drop a) (k := 1) (by rw [HD.out, skip_one hbl]; rfl) a; rw [h2, List.drop_drop]
      rw [h1]
     have h5 := HBl.out; rw [hbl] at h5; clear HK HBl hbl; cases d9 : decide ((s[a]'hlt) = 9) <;> cases d10 : decide ((s[a]'hlt) = 10) <;> cases d13 : decide ((s[a]'hlt) = 13) <;> cases d32 : decide ((s[a]'hlt) = 32) <;> (try (rw [d9, d10, d13, d32] at h5; cases h5; done))
     all_goals
      rw [d9] at z9; rw [d10] at z10; rw [d13] at z13; rw [d32] at z32
      clear h5 d9 d10 d13 d32 z37 z95; go_wp2_with fail
      go_roundw
      case rel => exact ⟨a + 1, pre, A', c', by omega, rfl, by go_num, HK2, HO, hbr⟩
      case measure => simp [intOf]; omega
   | false =>
   have h5 := HBl.out; rw [hbl] at h5; have d9 : decide ((s[a]'hlt) = 9) = false := by cases h : decide ((s[a]'hlt) = 9) with | true => (rw [h] at h5; simp at h5) | false => rfl
   have d10 : decide ((s[a]'hlt) = 10) = false := by cases h : decide ((s[a]'hlt) = 10) with | true => (rw [h] at h5; simp at h5) | false => rfl
   have d13 : decide ((s[a]'hlt) = 13) = false := by cases h : decide ((s[a]'hlt) = 13) with | true => (rw [h] at h5; simp at h5) | false => rfl
   have d32 : decide ((s[a]'hlt) = 32) = false := by cases h : decide ((s[a]'hlt) = 32) with | true => (rw [h] at h5; simp at h5) | false => rfl
   rw [d9] at z9; rw [d10] at z10; rw [d13] at z13; rw [d32] at z32
   clear h5 HBl d9 d10 d13 d32; by_cases hp : (s[a]'hlt) = 37
   ·have d37 : decide ((s[a]'hlt) = 37) = true := by simpa using hp
    rw [d37] at z37; obtain ⟨m, Hm⟩ : ∃ m, Hid (m = ((s.toList.drop a).takeWhile (· != 10)).length) := ⟨_, rfl⟩
    have Hme : Hid (m ≤ s.size - a) := by
     show _ ≤ _; rw [Hm.out]; have h1 := tw_le (p := (· != 10)) (s.toList.drop a); rw [List.length_drop, Hlen.out] at h1; exact h1
    have Hm1 : Hid (1 ≤ m) := by
     show _ ≤ _; rw [Hm.out, HD.out, hp]; simp
    have HK2 : Hid (lexS s.toList = (pre ++ (lexA wordK (a + m) (s.toList.drop (a + m))).1, (lexA wordK (a + m) (s.toList.drop (a + m))).2)) := by
     show _ = _; rw [HK.out]
     have h1 : lexA wordK a (s.toList.drop a) = lexA wordK (a + m) (s.toList.drop (a + m)) := by
      have h2 := lexA_adv (wk := wordK) (l := s.toList.drop a) (k := m) (by rw [Hm.out]; conv => lhs; rw [HD.out, hp, skip_per]
                                                                            rw [← hp, ← HD.out]) a
      rw [h2, List.drop_drop]
     rw [h1]
    clear HK hbl hp d37 z95; go_wp2_with fail
    go_loop [5] (fun i => ∃ k2 : Nat, a ≤ k2 ∧ k2 ≤ s.size ∧ i = .int .i64 k2 ∧ Hid (k2 - a ≤ ((s.toList.drop a).takeWhile (· != 10)).length)) (fun i => s.size - (intOf i).toNat)
    case atStart => exact ⟨a, by omega, by omega, rfl, by show _ ≤ _; omega⟩
    case round =>
     obtain ⟨k2, h1, h2, rfl, H3⟩ := hrel; have j0 : (0 : Int) ≤ (k2 : Int) := by omega
     by_cases hlt2 : k2 < s.size
     ·have j1 : (k2 : Int) < (s.size : Int) := by omega
      have HC2 : Hid ((s.toList.drop a)[k2 - a]? = some (s[k2]'hlt2)) := by
       show _ = _; rw [List.getElem?_drop, show a + (k2 - a) = k2 by omega]; exact ba_get hlt2
      by_cases h10 : (s[k2]'hlt2) = 10
      ·have HE : Hid (k2 = a + m) := by
        have h4 := tw_out (p := (· != 10)) _ _ _ H3.out HC2.out (by simp [h10]); show _ = _; rw [Hm.out, h4]; omega
       have y10 : (((s[k2]'hlt2).toNat : Int) != 10) = false := by rw [h10]; rfl
       have HK3 := HK2.out; rw [← HE.out] at HK3; have HK4 := hZ9 HK3; have hmm : a < k2 := by have := HE.out; have := Hm1.out; omega
       clear h10 HK3; go_wp2_with fail
       go_roundw
       case rel => exact ⟨k2, pre, A', c', by omega, rfl, rfl, HK4, HO, hbr⟩
       case measure => simp [intOf]; omega
      ·have H4 : Hid (k2 + 1 - a ≤ ((s.toList.drop a).takeWhile (· != 10)).length) := by
        have h4 := tw_in (p := (· != 10)) _ _ _ H3.out HC2.out (by simp [h10]); show _ ≤ _; omega
       have y10 : (((s[k2]'hlt2).toNat : Int) != 10) = true := by
        simp only [bne_iff_ne, ne_eq]; intro h; apply h10; exact UInt8.toNat_inj.1 (by show _ = 10; omega)
       clear h10; go_wp2_with fail
       go_round
       case rel => exact ⟨k2 + 1, by omega, by omega, by go_num, H4⟩
       case measure => simp [intOf]; omega
     ·have j1 : ¬ (k2 : Int) < (s.size : Int) := by omega
      have HE : Hid (k2 = a + m) := by
       have h4 := H3.out; rw [← Hm.out] at h4; have := Hme.out; show _ = _; omega
      have HK3 := HK2.out; rw [← HE.out] at HK3; have HK4 := hZ9 HK3; have hmm : a < k2 := by have := HE.out; have := Hm1.out; omega
      clear HK3; go_wp2_with fail
      go_roundw
      case rel => exact ⟨k2, pre, A', c', by omega, rfl, rfl, HK4, HO, hbr⟩
      case measure => simp [intOf]; omega
   ·have d37 : decide ((s[a]'hlt) = 37) = false := by simpa using hp
    rw [d37] at z37; have hs0 : skipG false (s.toList.drop a) = 0 := by rw [HD.out, skip_zero hbl hp]
    have hne : s.toList.drop a ≠ [] := by rw [HD.out]; simp
    have hat := lexA_at (wk := wordK) hne hs0 a; rw [hat] at HK; have Hhead : Hid ((s.toList.drop a).head? = some (s[a]'hlt)) := by show _ = _; rw [HD.out]; rfl
    have Hrun : Hid (insB (s[a]'hlt) = true ↔ 0 < runL (s.toList.drop a)) := by
     show _ ↔ _; rw [HD.out]; unfold runL; rw [List.takeWhile_cons]; cases insB (s[a]'hlt) <;> simp
    have HIa := hZ9 (HInside.out (s[a]'hlt) wr); have HLd : Hid ((s.toList.drop a).length = s.size - a) := by show _ = _; rw [List.length_drop, Hlen.out]
    clear hat hs0 hne hbl d37 hp; by_cases hw : insB (s[a]'hlt) = true ∧ ¬ (s[a]'hlt) = 95
    ·obtain ⟨hw1, hw2⟩ := hw; have d95 : decide ((s[a]'hlt) = 95) = false := by simpa using hw2
     rw [d95] at z95; obtain ⟨n, Hn⟩ : ∃ n, Hid (n = runL (s.toList.drop a)) := ⟨_, rfl⟩
     have hn1 : 1 ≤ n := by rw [Hn.out]; exact Hrun.out.1 hw1
     have hnle : n ≤ s.size - a := by rw [Hn.out, ← HLd.out]; exact runL_le _
     have HT : Hid (tokL wordK (s.toList.drop a) = (wordK ((s.toList.drop a).take n), n)) := by
      show _ = _; unfold tokL; rw [if_pos ⟨Hrun.out.1 hw1, by rw [Hhead.out]; simpa using hw2⟩, Hn.out]
     rw [HT.out] at HK; simp only at HK; rw [hw1] at HIa; clear hw1 hw2 d95; go_wp2_with fail
     refine HIa.out.mono ?_; rintro e w2 ⟨rfl, rfl⟩; go_wp2_with fail
     go_loop [7] (fun i => ∃ k2 : Nat, a ≤ k2 ∧ k2 ≤ s.size ∧ i = .int .i64 k2 ∧ Hid (k2 - a ≤ runL (s.toList.drop a))) (fun i => s.size - (intOf i).toNat)
     case atStart => exact ⟨a, by omega, by omega, rfl, by show _ ≤ _; omega⟩
     case round =>
      obtain ⟨k2, h1, h2, rfl, H3⟩ := hrel; have j0 : (0 : Int) ≤ (k2 : Int) := by omega
      have hgo : (∃ hlt2 : k2 < s.size, insB (s[k2]'hlt2) = true) ∨ k2 = a + n := by
       by_cases hlt2 : k2 < s.size
       ·cases hi : insB (s[k2]'hlt2) with
        | true => exact .inl ⟨hlt2, hi⟩
        | false =>
          have HC2 : (s.toList.drop a)[k2 - a]? = some (s[k2]'hlt2) := by
           rw [List.getElem?_drop, show a + (k2 - a) = k2 by omega]; exact ba_get hlt2
          have h4 := run_out _ _ _ H3.out HC2 hi; right; rw [Hn.out, h4]; omega
       ·right
        have h4 := H3.out; rw [← Hn.out] at h4; omega
      rcases hgo with ⟨hlt2, hi⟩ | hE
      ·have j1 : (k2 : Int) < (s.size : Int) := by omega
       have H4 : Hid (k2 + 1 - a ≤ runL (s.toList.drop a)) := by
        have HC2 : (s.toList.drop a)[k2 - a]? = some (s[k2]'hlt2) := by
         rw [List.getElem?_drop, show a + (k2 - a) = k2 by omega]; exact ba_get hlt2
        have h4 := ins_run _ _ _ H3.out HC2 hi; show _ ≤ _; omega
       have HI2 := hZ9 (HInside.out (s[k2]'hlt2) w2); rw [hi] at HI2; clear hi; go_wp2_with fail
       refine HI2.out.mono ?_; rintro e w3 ⟨rfl, rfl⟩; go_wp2_with fail
       go_round
       case rel => exact ⟨k2 + 1, by omega, by omega, by go_num, H4⟩
       case measure => simp [intOf]; omega
      ·have j2 : (a : Int) ≤ (k2 : Int) := by omega
       have j3 : (k2 : Int) ≤ (s.size : Int) := by omega
       have HX : Hid ((s.extract a k2).toList = (s.toList.drop a).take n) := by
        show _ = _; rw [ba_ext, List.drop_take, show k2 - a = n by omega]
       have HB : Hid (s.extract a k2 = bytes ((s.toList.drop a).take n)) := ba_eq HX.out; have HWd := hZ9 (wordR_any (s.extract a k2) (by simp; omega) (by simp; omega) w2); rw [HX.out] at HWd
       have hcond : (k2 < s.size → ∃ hlt2 : k2 < s.size, insB (s[k2]'hlt2) = false) := by
        intro hlt2; refine ⟨hlt2, ?_⟩; cases hi : insB (s[k2]'hlt2) with
        | false => rfl
        | true =>
          exfalso
          have HC2 : (s.toList.drop a)[k2 - a]? = some (s[k2]'hlt2) := by
           rw [List.getElem?_drop, show a + (k2 - a) = k2 by omega]; exact ba_get hlt2
          have h4 := ins_run _ _ _ H3.out HC2 hi; rw [← Hn.out] at h4; omega
       have hak : a < k2 := by omega
       have HKk : Hid (a + n = k2) := by show _ = _; omega
       rw [List.drop_drop, show a + n = k2 by omega] at HK; obtain ⟨q, Hq⟩ : ∃ q, Hid (q = wordK ((s.toList.drop a).take n)) := ⟨_, rfl⟩
       rw [← Hq.out] at HWd HK; clear hE H3
       have HTok : Hid (∀ w4, Below w2.heap.size w2 w4 → ∃ A9 c9 w9, (∀ ty, (Builtin.append_ #[196, 196] ty #[.slice A' pre.length c', .slice (some ⟨w4.heap.size, 0, none⟩) 1 1]).run Tryz.prog (w4.alloc (.cells #[.int .i64 q, .string (s.extract a k2), .int .i64 a] 200)) = .ok (.slice A9 (pre.length + 1) c9) w9) ∧
        w9.ownsRow w.heap.size 200 3 (.slice A9 (pre.length + 1) c9) (pre.length + 1) ((pre ++ [(⟨q, (s.toList.drop a).take n, a⟩ : GTok)]).flatMap tokCs) ∧ Below w.heap.size w w9) := by
        intro w4 hb4; have h9 := below_next hbr hb4; obtain ⟨A9, c9, w9, q1, q2, q3⟩ := tokenR_push (own_below HO.out hb4) ⟨q, (s.toList.drop a).take n, a⟩ (by omega) h9.size; simp only [← HB.out] at q1; exact ⟨A9, c9, w9, q1, q2, h9.trans q3⟩
       have Hpl1 : Hid ((pre ++ [(⟨q, (s.toList.drop a).take n, a⟩ : GTok)]).length = pre.length + 1) := by show _ = _; simp
       by_cases hlt2 : k2 < s.size
       ·have j1 : (k2 : Int) < (s.size : Int) := by omega
        obtain ⟨_, hi⟩ := hcond hlt2; have HI2 := hZ9 (HInside.out (s[k2]'hlt2) w2); rw [hi] at HI2; clear hi hcond; go_wp2_with fail
        refine HI2.out.mono ?_; rintro e w3 ⟨rfl, rfl⟩; go_wp2_with fail
        refine HWd.out.mono ?_; rintro e w4 ⟨rfl, hb4⟩; by_cases hq0 : q = 0
        ·have zq : ((q : Int) == 0) = true := by simp [hq0]
         have HB2 : Hid (lexS s.toList = (pre, some a)) := by show _ = _; rw [HK.out, if_pos hq0]; simp
         clear HK hq0; go_wp2_with fail
         first | exact HBad.out w4 A' c' pre a (below_next hbr hb4) HB2.out (own_below HO.out hb4) | exact bodyPost_ret (v := .tuple #[.slice A' pre.length c', .int .i64 a]) (by simp [results, Tryz.results140, go_sem]) rfl (HBad.out w4 A' c' pre a (below_next hbr hb4) HB2.out (own_below HO.out hb4))
        ·have zq : ((q : Int) == 0) = false := by simpa using hq0
         have HK2 : Hid (lexS s.toList = ((pre ++ [⟨q, (s.toList.drop a).take n, a⟩]) ++ (lexA wordK k2 (s.toList.drop k2)).1, (lexA wordK k2 (s.toList.drop k2)).2)) := by
          show _ = _; rw [HK.out, if_neg hq0]; simp
         obtain ⟨A9, c9, w9, q1, q2, q3⟩ := HTok.out w4 hb4; have HRun := hZ9 q1
         have Q2 : Hid (w9.ownsRow w.heap.size 200 3 (.slice A9 (pre ++ [(⟨q, (s.toList.drop a).take n, a⟩ : GTok)]).length c9) (pre ++ [(⟨q, (s.toList.drop a).take n, a⟩ : GTok)]).length ((pre ++ [(⟨q, (s.toList.drop a).take n, a⟩ : GTok)]).flatMap tokCs)) := by
          show World.ownsRow _ _ _ _ _ _ _; rw [Hpl1.out]; exact q2
         clear HK hq0 q1 q2 HTok; go_wp2_with (at_builtin; refine wpList_append_run (o := ⟨some 83, _, _, _, _, _⟩) rfl _ _ _ rfl _ _ rfl rfl (HRun.out _) ?_)
         go_roundw
         case rel => exact ⟨k2, _, A9, c9, by omega, by rw [Hpl1.out], rfl, HK2, Q2, q3⟩
         case measure => simp [intOf]; omega
       ·have j1 : ¬ (k2 : Int) < (s.size : Int) := by omega
        clear hcond; go_wp2_with fail
        refine HWd.out.mono ?_; rintro e w4 ⟨rfl, hb4⟩; by_cases hq0 : q = 0
        ·have zq : ((q : Int) == 0) = true := by simp [hq0]
         have HB2 : Hid (lexS s.toList = (pre, some a)) := by show _ = _; rw [HK.out, if_pos hq0]; simp
         clear HK hq0; go_wp2_with fail
         first | exact HBad.out w4 A' c' pre a (below_next hbr hb4) HB2.out (own_below HO.out hb4) | exact bodyPost_ret (v := .tuple #[.slice A' pre.length c', .int .i64 a]) (by simp [results, Tryz.results140, go_sem]) rfl (HBad.out w4 A' c' pre a (below_next hbr hb4) HB2.out (own_below HO.out hb4))
        ·have zq : ((q : Int) == 0) = false := by simpa using hq0
         have HK2 : Hid (lexS s.toList = ((pre ++ [⟨q, (s.toList.drop a).take n, a⟩]) ++ (lexA wordK k2 (s.toList.drop k2)).1, (lexA wordK k2 (s.toList.drop k2)).2)) := by
          show _ = _; rw [HK.out, if_neg hq0]; simp
         obtain ⟨A9, c9, w9, q1, q2, q3⟩ := HTok.out w4 hb4; have HRun := hZ9 q1
         have Q2 : Hid (w9.ownsRow w.heap.size 200 3 (.slice A9 (pre ++ [(⟨q, (s.toList.drop a).take n, a⟩ : GTok)]).length c9) (pre ++ [(⟨q, (s.toList.drop a).take n, a⟩ : GTok)]).length ((pre ++ [(⟨q, (s.toList.drop a).take n, a⟩ : GTok)]).flatMap tokCs)) := by
          show World.ownsRow _ _ _ _ _ _ _; rw [Hpl1.out]; exact q2
         clear HK hq0 q1 q2 HTok; go_wp2_with (at_builtin; refine wpList_append_run (o := ⟨some 83, _, _, _, _, _⟩) rfl _ _ _ rfl _ _ rfl rfl (HRun.out _) ?_)
         go_roundw
         case rel => exact ⟨k2, _, A9, c9, by omega, by rw [Hpl1.out], rfl, HK2, Q2, q3⟩
         case measure => simp [intOf]; omega
    ·have HT : Hid (tokL wordK (s.toList.drop a) = if (s.toList.drop a).take 2 ∈ signs2 then (5, 2) else if (s.toList.drop a).take 1 ∈ signs1 then (5, 1) else (0, 0)) := by
      refine tok_sign ?_; rintro ⟨h1, h2⟩; apply hw; refine ⟨Hrun.out.2 h1, fun h => h2 (by rw [Hhead.out, h])⟩
     have hin : insB (s[a]'hlt) = false ∨ (insB (s[a]'hlt) = true ∧ decide ((s[a]'hlt) = 95) = true) := by
      cases h : insB (s[a]'hlt) with
      | false => exact .inl rfl
      | true => exact .inr ⟨rfl, by
       by_cases h2 : (s[a]'hlt) = 95
       ·simpa using h2
       ·exact absurd ⟨h, h2⟩ hw⟩
     clear hw
     have HTok : Hid (∀ (n : Nat) w4, Below wr.heap.size wr w4 → ∃ A9 c9 w9, (∀ ty, (Builtin.append_ #[196, 196] ty #[.slice A' pre.length c', .slice (some ⟨w4.heap.size, 0, none⟩) 1 1]).run Tryz.prog (w4.alloc (.cells #[.int .i64 5, .string (s.extract a (a + n)), .int .i64 a] 200)) = .ok (.slice A9 (pre.length + 1) c9) w9) ∧
      w9.ownsRow w.heap.size 200 3 (.slice A9 (pre.length + 1) c9) (pre.length + 1) ((pre ++ [(⟨5, (s.toList.drop a).take n, a⟩ : GTok)]).flatMap tokCs) ∧ Below w.heap.size w w9) := by
      intro n w4 hb4; have h9 := below_next hbr hb4; have hB : s.extract a (a + n) = bytes ((s.toList.drop a).take n) := ba_eq (by rw [ba_ext, List.drop_take, show a + n - a = n by omega]); obtain ⟨A9, c9, w9, q1, q2, q3⟩ := tokenR_push (own_below HO.out hb4) ⟨5, (s.toList.drop a).take n, a⟩ (by omega) h9.size; simp only [← hB] at q1; exact ⟨A9, c9, w9, q1, q2, h9.trans q3⟩
     have Hpl1 : Hid (∀ n : Nat, (pre ++ [(⟨5, (s.toList.drop a).take n, a⟩ : GTok)]).length = pre.length + 1) := fun n => by simp
     have HI2 := hZ9 (fun (W : World) => in_any _ _ _ _ (s.extract a (a + 2)) _ (strs_new (w := W) (L := signs2) (.cells #[.string ⟨#[58, 45]⟩, .string ⟨#[33, 61]⟩, .string ⟨#[60, 61]⟩, .string ⟨#[62, 61]⟩] 9) rfl (by decide) (by decide))); have HI1 := hZ9 (fun (W : World) => in_any _ _ _ _ (s.extract a (a + 1)) _ (strs_new (w := W) (L := signs1) (.cells #[.string ⟨#[40]⟩, .string ⟨#[41]⟩, .string ⟨#[44]⟩, .string ⟨#[46]⟩, .string ⟨#[61]⟩, .string ⟨#[60]⟩, .string ⟨#[62]⟩, .string ⟨#[43]⟩, .string ⟨#[45]⟩, .string ⟨#[42]⟩] 9) rfl (by decide) (by decide)))
     have HM2 : Hid (decide (s.extract a (a + 2) ∈ signs2.map bytes) = decide ((s.toList.drop a).take 2 ∈ signs2)) := by
      show _ = _; rw [mem_bytes, ba_ext, List.drop_take, show a + 2 - a = 2 by omega]
     have HM1 : Hid (decide (s.extract a (a + 1) ∈ signs1.map bytes) = decide ((s.toList.drop a).take 1 ∈ signs1)) := by
      show _ = _; rw [mem_bytes, ba_ext, List.drop_take, show a + 1 - a = 1 by omega]
     rw [HM2.out] at HI2; rw [HM1.out] at HI1; have HDD : Hid (∀ n, (s.toList.drop a).drop n = s.toList.drop (a + n)) := fun n => by rw [List.drop_drop]
     clear HM1 HM2; by_cases h2 : (s.toList.drop a).take 2 ∈ signs2
     ·have ha2 : a + 2 ≤ s.size := by
       have h3 : ((s.toList.drop a).take 2).length = 2 := by
        have : ∀ p ∈ signs2, p.length = 2 := by decide
        exact this _ h2
       rw [List.length_take, HLd.out] at h3; omega
      have u0 : (a : Int) + 2 ≤ (s.size : Int) := by omega
      have u1 : (a : Int) ≤ (a : Int) + 2 := by omega
      have HT2 : Hid (tokL wordK (s.toList.drop a) = (5, 2)) := by show _ = _; rw [HT.out, if_pos h2]
      rw [HT2.out] at HK
      have HK2 : Hid (lexS s.toList = ((pre ++ [⟨5, (s.toList.drop a).take 2, a⟩]) ++ (lexA wordK (a + 2) (s.toList.drop (a + 2))).1, (lexA wordK (a + 2) (s.toList.drop (a + 2))).2)) := by
       show _ = _; rw [HK.out, if_neg (by decide)]; simp only [HDD.out]; simp
      simp only [h2, decide_true] at HI2; clear HK h2; rcases hin with hin | ⟨hin, h95⟩
      all_goals
       rw [hin] at HIa; try rw [h95] at z95
       go_wp2_with fail
       refine HIa.out.mono ?_; rintro e w2 ⟨rfl, rfl⟩; go_wp2_with fail
       refine (HI2.out w2).mono ?_; rintro e w5 ⟨rfl, hw5⟩; have hb5 : Below w2.heap.size w2 w5 := by rw [hw5]; exact belowA (Below.refl _ _) _
       obtain ⟨A9, c9, w9, q1, q2, q3⟩ := HTok.out 2 w5 hb5; have HRun := hZ9 q1
       have Q2 : Hid (w9.ownsRow w.heap.size 200 3 (.slice A9 (pre ++ [(⟨5, (s.toList.drop a).take 2, a⟩ : GTok)]).length c9) (pre ++ [(⟨5, (s.toList.drop a).take 2, a⟩ : GTok)]).length ((pre ++ [(⟨5, (s.toList.drop a).take 2, a⟩ : GTok)]).flatMap tokCs)) := by
        show World.ownsRow _ _ _ _ _ _ _; rw [Hpl1.out]; exact q2
       clear q1 q2 hw5; go_wp2_with (at_builtin; refine wpList_append_run (o := ⟨some 108, _, _, _, _, _⟩) rfl _ _ _ rfl _ _ rfl rfl (HRun.out _) ?_)
       go_roundw
       case rel => exact ⟨a + 2, _, A9, c9, by omega, by rw [Hpl1.out], by go_num, HK2, Q2, q3⟩
       case measure => simp [intOf]; omega
     ·simp only [h2, decide_false] at HI2; have v0 : (a : Int) + 1 ≤ (s.size : Int) := by omega
      have v1 : (a : Int) ≤ (a : Int) + 1 := by omega
      rcases hin with hin | ⟨hin, h95⟩ <;> by_cases ha2 : a + 2 ≤ s.size
      all_goals
       rw [hin] at HIa; try rw [h95] at z95
      all_goals
       first
       | (have u0 : (a : Int) + 2 ≤ (s.size : Int) := by omega)
       | (have u0 : ¬ (a : Int) + 2 ≤ (s.size : Int) := by omega)
       have u1 : (a : Int) ≤ (a : Int) + 2 := by omega
       go_wp2_with fail
       refine HIa.out.mono ?_; rintro e w2 ⟨rfl, rfl⟩; go_wp2_with fail
      focus
       refine (HI2.out w2).mono ?_; rintro e w5 ⟨rfl, hw5⟩; have hb5 : Below w2.heap.size w2 w5 := by rw [hw5]; exact belowA (Below.refl _ _) _
       clear hw5; go_wp2_with fail
       refine (HI1.out w5).mono ?_
      rotate_left
      focus
       have hb5 : Below w2.heap.size w2 w2 := Below.refl _ _; refine (HI1.out w2).mono ?_
      rotate_left
      focus
       refine (HI2.out w2).mono ?_; rintro e w5 ⟨rfl, hw5⟩; have hb5 : Below w2.heap.size w2 w5 := by rw [hw5]; exact belowA (Below.refl _ _) _
       clear hw5; go_wp2_with fail
       refine (HI1.out w5).mono ?_
      rotate_left
      focus
       have hb5 : Below w2.heap.size w2 w2 := Below.refl _ _; refine (HI1.out w2).mono ?_
      rotate_left
      all_goals
       rintro e w6 ⟨rfl, hw6⟩; have hb6 : Below w2.heap.size w2 w6 := by rw [hw6]; exact belowA hb5 _
       clear hw6; by_cases h1 : (s.toList.drop a).take 1 ∈ signs1
       ·have HT2 : Hid (tokL wordK (s.toList.drop a) = (5, 1)) := by show _ = _; rw [HT.out, if_neg h2, if_pos h1]
        have HK1 := HK.out; rw [HT2.out] at HK1
        have HK2 : Hid (lexS s.toList = ((pre ++ [⟨5, (s.toList.drop a).take 1, a⟩]) ++ (lexA wordK (a + 1) (s.toList.drop (a + 1))).1, (lexA wordK (a + 1) (s.toList.drop (a + 1))).2)) := by
         show _ = _; rw [HK1, if_neg (by decide)]; simp only [HDD.out]; simp
        simp only [h1, decide_true]; obtain ⟨A9, c9, w9, q1, q2, q3⟩ := HTok.out 1 w6 hb6; have HRun := hZ9 q1
        have Q2 : Hid (w9.ownsRow w.heap.size 200 3 (.slice A9 (pre ++ [(⟨5, (s.toList.drop a).take 1, a⟩ : GTok)]).length c9) (pre ++ [(⟨5, (s.toList.drop a).take 1, a⟩ : GTok)]).length ((pre ++ [(⟨5, (s.toList.drop a).take 1, a⟩ : GTok)]).flatMap tokCs)) := by
         show World.ownsRow _ _ _ _ _ _ _; rw [Hpl1.out]; exact q2
        clear q1 q2 HK1 HK; go_wp2_with (at_builtin; refine wpList_append_run (o := ⟨some 130, _, _, _, _, _⟩) rfl _ _ _ rfl _ _ rfl rfl (HRun.out _) ?_)
        go_roundw
        case rel => exact ⟨a + 1, _, A9, c9, by omega, by rw [Hpl1.out], by go_num, HK2, Q2, q3⟩
        case measure => simp [intOf]; omega
       ·have HB2 : Hid (lexS s.toList = (pre, some a)) := by
         have HK1 := HK.out; rw [HT.out, if_neg h2, if_neg h1] at HK1; show _ = _; rw [HK1, if_pos rfl]; simp
        simp only [h1, decide_false]; clear HK; go_wp2_with fail
        first | exact HBad.out w6 A' c' pre a (below_next hbr hb6) HB2.out (own_below HO.out hb6) | exact bodyPost_ret (v := .tuple #[.slice A' pre.length c', .int .i64 a]) (by simp [results, Tryz.results140, go_sem]) rfl (HBad.out w6 A' c' pre a (below_next hbr hb6) HB2.out (own_below HO.out hb6))
  ·have i1 : ¬ (a : Int) < (s.size : Int) := by omega
   have HE2 : Hid (lexS s.toList = (pre, none)) := by
    show _ = _; rw [HK.out, List.drop_eq_nil_of_le (by rw [Hlen.out]; omega)]; simp [lexA, lexF]
   clear HK; go_wp2_with fail
   exact HEnd.out wr A' c' pre hbr HE2.out HO.out
end Go.Proofs.YtaeedepojpablaaGreatDoor

namespace Go.Proofs.YtaeedepojpablaaGreatDoor
open Go.RowKit
def RefAllPost (s : ByteArray) (w : World) (e : Ending) (w' : World) : Prop := Below w.heap.size w w' ∧
 ((4000 < s.size ∧ e = .returned (.tuple #[.slice none 0 0, .int .i64 4000, .int .i64 3])) ∨
  (s.size ≤ 4000 ∧ ((∃ p : Nat, (lexS s.toList).2 = some p ∧ e = .returned (.tuple #[.slice none 0 0, .int .i64 p, .int .i64 2])) ∨
   ((lexS s.toList).2 = none ∧ ∃ A c, e = .returned (.tuple #[.slice A (lexS s.toList).1.length c, .int .i64 0, .int .i64 0]) ∧ SliceIs Enc.tok w' w'.heap.size A (lexS s.toList).1.length c (lexS s.toList).1))))
theorem refAll_any (s : ByteArray) (w : World) : Calls Tryz.prog 105 #[.string s] w (RefAllPost s w) := by
 obtain ⟨P, HP⟩ : ∃ P : Ending → World → Prop, Hid (P = RefAllPost s w) := ⟨_, rfl⟩
 rw [← HP.out]; by_cases h4 : 4000 < s.size
 ·have z0 : (4000 : Int) < (s.size : Int) := by omega
  have HE : Hid (∀ w', Below w.heap.size w w' → P (.returned (.tuple #[.slice none 0 0, .int .i64 4000, .int .i64 3])) w') := fun w' hb => by rw [HP.out]; exact ⟨hb, .inl ⟨h4, rfl⟩⟩
  clear h4 HP; go_enter Tryz.func105, Tryz.ntmps105
  go_wp2_with fail
  exact bodyPost_ret (v := .tuple #[.slice none 0 0, .int .i64 4000, .int .i64 3]) (by simp [results, Tryz.results105, go_sem]) rfl (HE.out _ (Below.refl _ _))
 have HL := hZ9 (refList_any s (by omega)); have z0 : ¬ (4000 : Int) < (s.size : Int) := by omega
 have HE1 : Hid (∀ w' (p : Nat), Below w.heap.size w w' → (lexS s.toList).2 = some p → P (.returned (.tuple #[.slice none 0 0, .int .i64 p, .int .i64 2])) w') := fun w' p hb hp => by rw [HP.out]; exact ⟨hb, .inr ⟨by omega, .inl ⟨p, hp, rfl⟩⟩⟩
 have HE2 : Hid (∀ w' A c, Below w.heap.size w w' → (lexS s.toList).2 = none → SliceIs Enc.tok w' w'.heap.size A (lexS s.toList).1.length c (lexS s.toList).1 → P (.returned (.tuple #[.slice A (lexS s.toList).1.length c, .int .i64 0, .int .i64 0])) w') := fun w' A c hb hp hA => by rw [HP.out]; exact ⟨hb, .inr ⟨by omega, .inr ⟨hp, A, c, rfl, hA⟩⟩⟩
 clear HP; go_enter Tryz.func105, Tryz.ntmps105
 go_wp2_with fail
 refine (HL.out w).mono ?_; rintro e w1 ⟨hb, A, c, hA, -, ⟨hn, rfl⟩ | ⟨p, hp, rfl⟩⟩
 ·have HA := hZ9 hA; have Hn := hZ9 hn; clear hA hn; go_wp2_with fail
  exact bodyPost_ret (v := .tuple #[.slice A (lexS s.toList).1.length c, .int .i64 0, .int .i64 0]) (by simp [results, Tryz.results105, go_sem]) rfl (HE2.out _ A c hb Hn.out HA.out)
 ·have Hn := hZ9 hp; have p0 : (0 : Int) ≤ (p : Int) := by omega
  clear hA hp; go_wp2_with fail
  exact bodyPost_ret (v := .tuple #[.slice none 0 0, .int .i64 p, .int .i64 2]) (by simp [results, Tryz.results105, go_sem]) rfl (HE1.out _ p hb Hn.out)
end Go.Proofs.YtaeedepojpablaaGreatDoor
