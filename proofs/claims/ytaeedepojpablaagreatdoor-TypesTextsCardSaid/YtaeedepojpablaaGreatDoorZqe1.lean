/- My own texts VFrame, LexLaw, PaOk, PaPl, TyNr, as far as this claim needs them. -/
import Derived.Test.YtaeedepojpablaaGreatDoorZqb6
set_option linter.unusedVariables false
set_option linter.unusedSimpArgs false
set_option maxRecDepth 1000000
set_option maxHeartbeats 16000000
namespace Go.Proofs.YtaeedepojpablaaGreatDoor
open Go.ChangeShapes Go.WideShapes Go.ChangeAt Go.RowKit
set_option linter.unusedVariables false
theorem open_str' {H : Type} {enc : TypeId × Value → H} {P : Program} {w : World} {t : TypeId} {v : Value} {d : DataW H} {p : List MemPlace} {r : Reach} {b0 : Nat} (hs : P.underlying t = some .string) (hval : Value.okWide P w r b0 t v)
 (h : DataW.Trod enc P w 0 (fun _ => true) true t v d p) (hwt : ∀ n ∈ d.weights P t, n ≤ reachBytes) : ∃ s : ByteArray, v = .string s ∧ s.size ≤ reachN := by
 obtain ⟨fuel, hx⟩ := h; obtain ⟨s0, rfl⟩ := okWide_string hs hval; obtain ⟨s, e, hok⟩ := opens_str hs H enc w fuel _ _ hx hwt; simp [Value.cells] at e
 subst e; exact ⟨_, rfl, hok⟩
end Go.Proofs.YtaeedepojpablaaGreatDoor

namespace Go.Proofs.YtaeedepojpablaaGreatDoor
variable {wk : List UInt8 → Int}
def Cut (r : List UInt8) : Prop := r = [] ∨ ∃ r', r = 32 :: r'
theorem takeWhile_cut {t r : List UInt8} (h : ∀ c ∈ t, insB c = true) (hr : Cut r) : (t ++ r).takeWhile insB = t := by
 induction t with
 | nil =>
   rcases hr with rfl | ⟨r', rfl⟩
   ·rfl
   ·rfl
 | cons c t ih =>
   rw [List.cons_append, List.takeWhile_cons, h c (List.mem_cons_self ..)]; simp only [if_true]; rw [ih fun d hd => h d (List.mem_cons_of_mem _ hd)]
theorem ins_skip {c : UInt8} (h : insB c = true) : blankB c = false ∧ c ≠ 37 := by
 refine ⟨?_, ?_⟩
 ·unfold blankB; have : ∀ d : UInt8, d = 9 ∨ d = 10 ∨ d = 32 ∨ d = 13 → insB d = false := by rintro d (rfl | rfl | rfl | rfl) <;> decide
  by_cases h9 : c = 9 ∨ c = 10 ∨ c = 32 ∨ c = 13
  ·rw [this c h9] at h; cases h
  ·simp only [not_or] at h9; simp [h9]
 ·rintro rfl; revert h; decide
theorem text_skip {q : Int} {t : List UInt8} (h : TextOf wk q t) (r : List UInt8) : t ≠ [] ∧ skipG false (t ++ r) = 0 := by
 rcases h.2 with ⟨-, h1, h2, -⟩ | ⟨-, h1⟩
 ·refine ⟨h1, ?_⟩; cases t with
  | nil => exact absurd rfl h1
  | cons c t =>
    obtain ⟨h3, h4⟩ := ins_skip (h2 c (List.mem_cons_self ..)); simp [skipG, h3, h4]
 ·refine ⟨by rintro rfl; revert h1; decide, ?_⟩; simp only [signsL, List.mem_cons, List.not_mem_nil, or_false] at h1; rcases h1 with rfl | rfl | rfl | rfl | rfl | rfl | rfl | rfl | rfl | rfl | rfl | rfl | rfl | rfl <;> simp [skipG, blankB]
theorem text_tok {q : Int} {t : List UInt8} (h : TextOf wk q t) {r : List UInt8} (hr : Cut r) : tokL wk (t ++ r) = (q, t.length) := by
 rcases h.2 with ⟨h0, h1, h2, h3⟩ | ⟨h0, h1⟩
 ·have e := takeWhile_cut h2 hr; have e1 : runL (t ++ r) = t.length := by unfold runL; rw [e]
  have e2 : (t ++ r).head? = t.head? := by cases t with
   | nil => exact absurd rfl h1
   | cons c t => rfl
  unfold tokL; rw [e1, e2, if_pos ⟨List.length_pos_iff.2 h1, h3⟩]; simp [h0]
 ·subst h0; simp only [signsL, List.mem_cons, List.not_mem_nil, or_false] at h1; rcases hr with rfl | ⟨r', rfl⟩ <;>
  rcases h1 with rfl | rfl | rfl | rfl | rfl | rfl | rfl | rfl | rfl | rfl | rfl | rfl | rfl | rfl <;> simp [tokL, runL, insB, signsL, List.find?, List.isPrefixOf]
def joinS : List (List UInt8) → List UInt8
 | [] => []
 | [t] => t
 | t :: r => t ++ 32 :: joinS r
theorem joinS_cut (t : List UInt8) (r : List (List UInt8)) : ∃ s, joinS (t :: r) = t ++ s ∧ Cut s ∧ (r = [] → s = []) ∧ (r ≠ [] → s = 32 :: joinS r) := by
 cases r with
 | nil => exact ⟨[], by simp [joinS], .inl rfl, fun _ => rfl, fun h => absurd rfl h⟩
 | cons u r => exact ⟨32 :: joinS (u :: r), rfl, .inr ⟨_, rfl⟩, fun h => (by cases h), fun _ => rfl⟩
def Same (l m : List GTok) : Prop := l.map (fun q => (q.k, q.t)) = m.map (fun q => (q.k, q.t))
theorem skip_blank (r : List UInt8) : skipG false (32 :: r) = 1 + skipG false r := by simp [skipG, blankB]
theorem lexA_blank (a : Nat) (r : List UInt8) : lexA wk a (32 :: r) = lexA wk (a + 1) r := by
 have e : (32 :: r).drop (skipG false (32 :: r)) = r.drop (skipG false r) := by rw [skip_blank, Nat.add_comm]; rfl
 have e2 : a + skipG false (32 :: r) = a + 1 + skipG false r := by rw [skip_blank]; omega
 by_cases h : r.drop (skipG false r) = []
 ·rw [lexA_nil _ _ h, lexA_nil _ _ (by rw [e]; exact h)]
 by_cases h0 : (tokL wk (r.drop (skipG false r))).1 = 0
 ·rw [lexA_bad _ _ h h0, lexA_bad _ _ (by rw [e]; exact h) (by rw [e]; exact h0), e2]
 ·rw [lexA_tok _ _ h h0, lexA_tok _ _ (by rw [e]; exact h) (by rw [e]; exact h0), e, e2]
theorem lex_back : ∀ (l : List GTok) (a : Nat), (∀ q ∈ l, TextOf wk q.k q.t) → (lexA wk a (joinS (l.map GTok.t))).2 = none ∧ Same (lexA wk a (joinS (l.map GTok.t))).1 l
 | [], a, h => by simp [joinS, lexA, lexF, Same]
 | q :: l, a, h => by
   obtain ⟨s, hs, hc, h1, h2⟩ := joinS_cut q.t (l.map GTok.t); have ht := h q (List.mem_cons_self ..); obtain ⟨hne, hsk⟩ := text_skip ht s; have htk := text_tok ht hc; rw [List.map_cons, hs]; have e : (q.t ++ s).drop (skipG false (q.t ++ s)) = q.t ++ s := by rw [hsk]; rfl
   have hn : (q.t ++ s).drop (skipG false (q.t ++ s)) ≠ [] := by rw [e]; simp [hne]
   have h0 : (tokL wk ((q.t ++ s).drop (skipG false (q.t ++ s)))).1 ≠ 0 := by rw [e, htk]; exact ht.1
   rw [lexA_tok _ _ hn h0, e, htk]; simp only [List.take_left', List.drop_left']
   have hrec : (lexA wk (a + skipG false (q.t ++ s) + q.t.length) s).2 = none ∧ Same (lexA wk (a + skipG false (q.t ++ s) + q.t.length) s).1 l := by
    by_cases hl : l = []
    ·subst hl; rw [h1 rfl]; simp [lexA, lexF, Same]
    ·rw [h2 (by simpa using hl), lexA_blank]; exact lex_back l _ fun p hp => h p (List.mem_cons_of_mem _ hp)
   refine ⟨hrec.1, ?_⟩; unfold Same; simp only [List.map_cons]; rw [hrec.2]
end Go.Proofs.YtaeedepojpablaaGreatDoor

namespace Go.Proofs.YtaeedepojpablaaGreatDoor
open Go.RowKit
theorem single_tok {k : Int} {t : List UInt8} (h : TextOf wordK k t) (hl : t.length ≤ 4000) : singleB k (bytes t) = true := by
 have hb := lex_back (wk := wordK) [⟨k, t, 0⟩] 0 (fun q hq => by simp at hq; subst hq; exact h); obtain ⟨h1, h2⟩ := hb; have e1 : joinS (([⟨k, t, 0⟩] : List GTok).map GTok.t) = t := rfl; rw [e1] at h1 h2; have e2 : (bytes t).toList = t := toList_mk t; unfold singleB lexS; rw [e2]; have hs : (bytes t).size = t.length := rfl; rw [hs]; cases hL : lexA wordK 0 t with
 | mk l r =>
   rw [hL] at h1 h2; dsimp only at h1 h2; subst h1; unfold Same at h2; match l, h2 with
   | [], h2 => simp at h2
   | [q], h2 =>
     simp only [List.map_cons, List.map_nil, List.cons.injEq, Prod.mk.injEq, and_true] at h2; simp [hl, h2.1, h2.2]
   | a :: b :: r, h2 => simp at h2
theorem refNum_of_four {t : List UInt8} (h : TextOf wordK 4 t) : ∃ n : Nat, n ≤ 2147483647 ∧ numT t = (n : Int) := by
 obtain ⟨-, ⟨hw, -, hins, -⟩ | ⟨h5, -⟩⟩ := h
 ·have hr : (refNum t).isSome = true := by
   unfold wordK at hw; split at hw
   ·cases hw
   ·split at hw
    ·cases hw
    ·split at hw
     ·cases hw
     ·split at hw
      ·assumption
      ·cases hw
  obtain ⟨n, hn⟩ := Option.isSome_iff_exists.1 hr; obtain ⟨e, h1, h2⟩ := refNum_some hn
  have h0 : 0 ≤ n := by
   by_cases h0 : 0 ≤ n
   ·exact h0
   ·exfalso
    have : (45 : UInt8) ∈ t := by
     rw [e]; unfold Lib.itoa; rw [if_pos (by omega)]; simp
    have := hins 45 this; revert this; decide
  have ha := (refNum_itoa h1 h2).2; rw [← e] at ha; obtain ⟨m, rfl⟩ : ∃ m : Nat, n = (m : Int) := ⟨n.toNat, by omega⟩
  exact ⟨m, by omega, by unfold numT; rw [ha]⟩
 ·cases h5
theorem name_of_two {t : List UInt8} (h : TextOf wordK 2 t) : nameOk (bytes t) = true := by
 obtain ⟨-, ⟨hw, -, -, -⟩ | ⟨h5, -⟩⟩ := h
 ·unfold wordK at hw; split at hw
  ·cases hw
  ·split at hw
   ·assumption
   ·split at hw
    ·cases hw
    ·split at hw <;> cases hw
 ·cases h5
theorem text_ne {k : Int} {t : List UInt8} (h : TextOf wordK k t) (hk : k ≠ 5) : t ≠ [] := by
 obtain ⟨-, ⟨-, h1, -, -⟩ | ⟨h5, -⟩⟩ := h
 ·exact h1
 ·exact absurd h5 hk
section
variable {T : List GTok} {E : Nat}
theorem fail_err (s : PS) (a : Nat) {e : Int} (he : e ≠ 0) : (failP T s a e).err ≠ 0 := by
 unfold failP; split
 ·exact he
 ·assumption
theorem peek_mem {s : PS} {k : Nat} (h : (peekP T E s k).k ≠ 0) : peekP T E s k ∈ T := List.mem_of_getElem? (peek_at (peek_some h))
theorem take_ok {s : PS} {k : Int} (h : (takeP T E s k).err = 0) : (peekP T E s 0).k = k ∧ takeT T E s k = (peekP T E s 0).t := by
 unfold takeP at h; unfold takeT; by_cases hk : (peekP T E s 0).k = k
 ·exact ⟨hk, by rw [if_pos hk]⟩
 ·rw [if_neg hk] at h; exact absurd h (fail_err s _ (by decide))
theorem Goes.err0 {s s' : PS} (h : Goes T E s s') (hf : Fine T E s) (he : s'.err = 0) : s.err = 0 := Classical.byContradiction fun hn => (h hf).err hn he
theorem term_right (hX : Toks T E) (s : PS) (h : (termP T E s).1.err = 0) : rightT (termP T E s).2 = true := by
 unfold termP at h ⊢; dsimp only at h ⊢; by_cases k4 : (peekP T E (mayP T E s [45]) 0).k = 4
 ·rw [if_pos k4] at h ⊢; have ht := hX.texts _ (peek_mem (by rw [k4]; decide)); rw [k4] at ht; obtain ⟨n, h1, h2⟩ := refNum_of_four ht; unfold rightT rightB; dsimp only; rw [h2]; have e0 : (⟨#[]⟩ : ByteArray).size = 0 := rfl; simp only [e0, if_true]; split <;> simp <;> omega
 ·rw [if_neg k4] at h ⊢; by_cases hm : isP T E s [45] = true
  ·rw [if_pos hm] at h; exact absurd h (fail_err _ _ (by decide))
  ·rw [if_neg hm] at h ⊢; by_cases k3 : (peekP T E (mayP T E s [45]) 0).k = 3
   ·rw [if_pos k3] at h ⊢; have hmm := peek_mem (T := T) (E := E) (s := mayP T E s [45]) (k := 0) (by rw [k3]; decide); have ht := hX.texts _ hmm; rw [k3] at ht; have hne := text_ne ht (by decide); unfold rightT; dsimp only; rw [if_neg (show ¬ (bytes (peekP T E (mayP T E s [45]) 0).t).size = 0 from fun e => hne (List.eq_nil_of_length_eq_zero e)), single_tok ht (hX.short _ hmm)]; simp
   ·rw [if_neg k3] at h ⊢; by_cases k2 : (peekP T E (mayP T E s [45]) 0).k = 2
    ·rw [if_pos k2] at h ⊢; have ht := hX.texts _ (peek_mem (T := T) (E := E) (s := mayP T E s [45]) (k := 0) (by rw [k2]; decide)); rw [k2] at ht; unfold rightT rightB; dsimp only; have e0 : (⟨#[]⟩ : ByteArray).size = 0 := rfl; simp [e0, name_of_two ht]
    ·rw [if_neg k2] at h; exact absurd h (fail_err _ _ (by decide))
theorem loop_ok {σ : Type} (most : Nat) (rd : Nat → PS × σ → PS × σ) (hg : ∀ i x, Goes T E x.1 (rd i x).1) (I : Nat → σ → Prop) (hI : ∀ i x, Fine T E x.1 → I i x.2 → (rd i x).1.err = 0 → I (i + 1) (rd i x).2) :
 ∀ (f i : Nat) (x : PS × σ), Fine T E x.1 → I i x.2 → f + i = most + 1 → i ≤ most → (loopP T E most rd f i x).1.err = 0 → ∃ j, j ≤ most ∧ I j (loopP T E most rd f i x).2
 | 0, i, x, hf, hi, hfi, him, h => by omega
 | f + 1, i, x, hf, hi, hfi, him, h => by
   rw [loopP] at h ⊢; by_cases he : x.1.err ≠ 0
   ·rw [if_pos he] at h; exact absurd h he
   ·rw [if_neg he] at h ⊢; by_cases hm : most ≤ i
    ·rw [if_pos hm] at h; exact absurd h (fail_err _ _ (by decide))
    ·rw [if_neg hm] at h ⊢; have hf2 := (hg i x hf).fine hf; by_cases hc : isP T E (rd i x).1 [44] = true
     ·rw [if_pos hc] at h ⊢; exact loop_ok most rd hg I hI f (i + 1) ((rd i x).1.up, (rd i x).2) ((up_adv (is_some hc)).fine hf2) (hI i x hf hi (is_err hf2 hc)) (by omega) (by omega) h
     ·rw [if_neg hc] at h ⊢; exact ⟨i + 1, by omega, hI i x hf hi h⟩
theorem commas_ok (hW : Within T E) {σ : Type} (most : Nat) (rd : Nat → PS × σ → PS × σ) (hg : ∀ i x, Goes T E x.1 (rd i x).1) (I : Nat → σ → Prop) (hI : ∀ i x, Fine T E x.1 → I i x.2 → (rd i x).1.err = 0 → I (i + 1) (rd i x).2) (x : PS × σ) (hf : Fine T E x.1) (h0 : I 0 x.2)
 (h : (commasP T E most rd x).1.err = 0) : ∃ j, j ≤ most ∧ I j (commasP T E most rd x).2 := by
 unfold commasP at h ⊢; by_cases hc : isP T E (wantP T E x.1 [40]) [41] = true
 ·rw [if_pos hc] at h ⊢; exact ⟨0, Nat.zero_le _, h0⟩
 ·rw [if_neg hc] at h ⊢; dsimp only at h ⊢; have hf1 := (want_goes hW x.1 [40] hf).fine hf; have hf2 := (loop_goes hW most rd hg (most + 1) 0 (wantP T E x.1 [40], x.2) hf1).fine hf1; have he := Goes.err0 (want_goes hW _ [41]) hf2 h; exact loop_ok most rd hg I hI (most + 1) 0 (wantP T E x.1 [40], x.2) hf1 h0 (by omega) (Nat.zero_le _) he
theorem take_single (hX : Toks T E) {s : PS} {k : Nat} (hk : k ≠ 0) (h : (takeP T E s k).err = 0) : singleB k (bytes (takeT T E s k)) = true ∧ (k ≠ 5 → takeT T E s k ≠ []) := by
 obtain ⟨h1, h2⟩ := take_ok h; have hm := peek_mem (T := T) (E := E) (s := s) (k := 0) (by rw [h1]; omega); have ht := hX.texts _ hm; rw [h1] at ht; rw [h2]; exact ⟨single_tok ht (hX.short _ hm), fun h5 => text_ne ht (by omega)⟩
theorem atom_right (hX : Toks T E) (s : PS) (hf : Fine T E s) (h : (atomP T E s).1.err = 0) : atomB (atomP T E s).2 = true := by
 have hg : ∀ i (x : PS × List GTold), Goes T E x.1 (argsR T E i x).1 := fun _ x => term_goes hX.within x.1
 have hf1 := (take_goes hX.within s (k := 2) (by decide) hf).fine hf
 obtain ⟨j, hj, hl, ha⟩ := commas_ok hX.within 6 (argsR T E) hg (fun i l => l.length = i ∧ ∀ t ∈ l, rightT t = true) (fun i x _ hi he => ⟨by simp [argsR, hi.1], fun t ht => by
  rcases List.mem_append.1 ht with ht | ht
  ·exact hi.2 t ht
  ·simp only [List.mem_singleton] at ht
   rw [ht]; exact term_right hX x.1 he⟩) (takeP T E s 2, []) hf1 ⟨rfl, fun _ h => by cases h⟩ h
 have he := Goes.err0 (commas_goes hX.within 6 (argsR T E) hg (takeP T E s 2, [])) hf1 h; have h1 := (take_single hX (k := 2) (by decide) he).1; unfold atomB; rw [Bool.and_eq_true, Bool.and_eq_true]; exact ⟨h1, by simp only [decide_eq_true_eq]; exact hl ▸ hj, List.all_eq_true.2 ha⟩
theorem sgnN_le (t : List UInt8) : sgnN t ≤ 6 := by
 unfold sgnN; repeat' split
 all_goals decide
theorem compared_right (hW : Within T E) (p : Nat) (s : PS) (h : (comparedP T E p s).1.err = 0) : rightLit (comparedP T E p s).2 = true := by
 unfold comparedP at h ⊢; dsimp only at h ⊢; by_cases hq : (peekP T E (sumP T E 20 s).1 0).k = 5 ∧ sgnN (peekP T E (sumP T E 20 s).1 0).t ≠ 0
 ·rw [if_pos hq] at h ⊢; have hs := sgnN_le (peekP T E (sumP T E 20 s).1 0).t; generalize peekP T E (sumP T E 20 s).1 0 = q at *; generalize hy : sumP T E 20 (wantP T E (sumP T E 20 s).1 q.t) = y at *; generalize hx : sumP T E 20 s = x at *; by_cases hc : y.1.err = 0 ∧ ¬ (rightE 20 x.2 = true ∧ rightE 20 y.2 = true)
  ·rw [if_pos hc] at h; exact absurd h (fail_err _ _ (by decide))
  ·rw [if_neg hc] at h; have hr : rightE 20 x.2 = true ∧ rightE 20 y.2 = true := Classical.byContradiction fun hn => hc ⟨h, hn⟩
   unfold rightLit cmpB2; dsimp only; rw [if_neg (by decide), hr.1, hr.2]; have e0 : (⟨#[]⟩ : ByteArray).size = 0 := rfl; simp [e0]
   have := hq.2; omega
 ·rw [if_neg hq] at h; exact absurd h (fail_err _ _ (by decide))
theorem noneE_z : noneE zE = true := by unfold noneE zE; simp [GExp.op, GExp.t, GExp.kids]
theorem literal_right (hX : Toks T E) (s : PS) (hf : Fine T E s) (h : (literalP T E s).1.err = 0) : rightLit (literalP T E s).2 = true := by
 unfold literalP at h ⊢; dsimp only at h ⊢; by_cases hn : isP T E s [110, 111, 116] = true
 ·rw [if_pos hn] at h ⊢; have := atom_right hX s.up ((up_adv (is_some hn)).fine hf) h; unfold rightLit; simp [this, noneE_z]
 ·rw [if_neg hn] at h ⊢; by_cases ha : (peekP T E s 0).k = 2 ∧ (peekP T E s 1).k = 5 ∧ (peekP T E s 1).t = [40]
  ·rw [if_pos ha] at h ⊢; have := atom_right hX s hf h; unfold rightLit; simp [this, noneE_z]
  ·rw [if_neg ha] at h ⊢; exact compared_right hX.within _ s h
structure HeadI (i : Nat) (x : PH) : Prop where
 len : x.args.length = i
 args : ∀ t ∈ x.args, rightT t = true
 agg : x.agg = 0 ∧ x.col = 0 ∨ (1 ≤ x.agg ∧ x.agg ≤ 4 ∧ 0 ≤ x.col ∧ varAt x.args x.col.toNat = true)
theorem aggN_le (t : List UInt8) : aggN t ≤ 4 := by
 unfold aggN; repeat' split
 all_goals decide
theorem varAt_append {l m : List GTold} {k : Nat} (h : varAt l k = true) : varAt (l ++ m) k = true := by
 unfold varAt at h ⊢; cases hl : l[k]? with
 | none => rw [hl] at h; cases h
 | some t =>
   rw [hl] at h; rw [List.getElem?_append_left (List.getElem?_eq_some_iff.1 hl).1, hl]; exact h
theorem headR_ok (hX : Toks T E) (i : Nat) (x : PS × PH) (hf : Fine T E x.1) (hi : HeadI i x.2) (h : (headR T E i x).1.err = 0) : HeadI (i + 1) (headR T E i x).2 := by
 unfold headR at h ⊢; dsimp only at h ⊢; by_cases hq : (peekP T E x.1 0).k = 1 ∧ aggN (peekP T E x.1 0).t ≠ 0
 ·rw [if_pos hq] at h ⊢; dsimp only at h ⊢; have hle := aggN_le (peekP T E x.1 0).t; generalize (peekP T E x.1 0).t = qt at *; generalize hs2 : wantP T E (wantP T E (if 0 < x.2.agg then failP T x.1 (peekP T E x.1 0).a 2 else x.1) qt) [40] = s2 at *
  have hf1 : Fine T E (if 0 < x.2.agg then failP T x.1 (peekP T E x.1 0).a 2 else x.1) := by
   split
   ·exact (fail_goes x.1 (peek_le hX.within _ _) (by decide) hf).fine hf
   ·exact hf
  have hf2 : Fine T E s2 := by
   rw [← hs2]; have h3 := (want_goes hX.within _ qt hf1).fine hf1; exact (want_goes hX.within _ [40] h3).fine h3
  have hf3 := (take_goes hX.within s2 (k := 3) (by decide) hf2).fine hf2; have he3 := Goes.err0 (want_goes hX.within _ [41]) hf3 h; obtain ⟨hsg, hne⟩ := take_single hX (k := 3) (by decide) he3; have hne := hne (by decide); refine ⟨by simp [hi.len], fun t ht => ?_, .inr ⟨?_, ?_, ?_, ?_⟩⟩
  ·rcases List.mem_append.1 ht with ht | ht
   ·exact hi.args t ht
   ·simp only [List.mem_singleton] at ht; rw [ht]; unfold rightT; dsimp only; rw [if_neg (show ¬ (bytes (takeT T E s2 3)).size = 0 from fun e => hne (List.eq_nil_of_length_eq_zero e))]; have hsg2 : singleB 3 (bytes (takeT T E s2 3)) = true := hsg; rw [hsg2]; simp
  ·have := hq.2; dsimp only; omega
  ·dsimp only; omega
  ·dsimp only; omega
  ·dsimp only; unfold varAt; rw [show ((i : Int).toNat) = x.2.args.length by rw [hi.len]; rfl, List.getElem?_append_right (Nat.le_refl _)]; simp only [Nat.sub_self, List.getElem?_cons_zero, Bool.not_eq_true', decide_eq_false_iff_not]; exact fun e => hne (List.eq_nil_of_length_eq_zero e)
 ·rw [if_neg hq] at h ⊢; have hr := term_right hX x.1 h; refine ⟨by simp [hi.len], fun t ht => ?_, ?_⟩
  ·rcases List.mem_append.1 ht with ht | ht
   ·exact hi.args t ht
   ·simp only [List.mem_singleton] at ht; rw [ht]; exact hr
  ·rcases hi.agg with h0 | ⟨h1, h2, h3, h4⟩
   ·exact .inl h0
   ·exact .inr ⟨h1, h2, h3, varAt_append h4⟩
theorem rule_right (hX : Toks T E) (s : PS) (hf : Fine T E s) (h : (ruleP T E s).1.err = 0) : rightRule (ruleP T E s).2 = true := by
 have hW := hX.within; unfold ruleP at h ⊢; dsimp only at h ⊢; have hfh := (head_goes hW s hf).fine hf; have hfb := (body_goes hW (headP T E s).1 hfh).fine hfh; have heb := Goes.err0 (want_goes hW _ [46]) hfb h; have heh := Goes.err0 (body_goes hW (headP T E s).1) hfh heb; have hft := (take_goes hW s (k := 2) (by decide) hf).fine hf; have het := Goes.err0 (commas_goes hW 6 (headR T E) (headR_goes hW) (takeP T E s 2, ⟨[], 0, 0⟩)) hft heh; have hrel := (take_single hX (k := 2) (by decide) het).1; obtain ⟨j, hj, hI⟩ := commas_ok hW 6 (headR T E) (headR_goes hW) HeadI (fun i x hf hi he => headR_ok hX i x hf hi he) (takeP T E s 2, ⟨[], 0, 0⟩) hft ⟨rfl, (fun _ h => by cases h), .inl ⟨rfl, rfl⟩⟩ heh; have hI2 : HeadI j (headP T E s).2 := hI
 have hbody : (bodyP T E (headP T E s).1).2.length ≤ 8 ∧ ∀ y ∈ (bodyP T E (headP T E s).1).2, rightLit y = true := by
  unfold bodyP at heb ⊢; by_cases hc : isP T E (headP T E s).1 [58, 45] = true
  ·rw [if_pos hc] at heb ⊢; have hfu := (up_adv (is_some hc)).fine hfh
   obtain ⟨k, hk, h1, h2⟩ := loop_ok 8 (bodyR T E) (fun _ x => literal_goes hW x.1) (fun i l => l.length = i ∧ ∀ y ∈ l, rightLit y = true) (fun i x hf hi he => ⟨by simp [bodyR, hi.1], fun t ht => by
    rcases List.mem_append.1 ht with ht | ht
    ·exact hi.2 t ht
    ·simp only [List.mem_singleton] at ht
     rw [ht]; exact literal_right hX x.1 hf he⟩) 9 0 ((headP T E s).1.up, []) hfu ⟨rfl, fun _ h => by cases h⟩ rfl (by decide) heb
   exact ⟨h1 ▸ hk, h2⟩
  ·rw [if_neg hc]; exact ⟨Nat.zero_le _, fun _ h => by cases h⟩
 unfold rightRule atomB aggB; dsimp only; rw [Bool.and_eq_true, Bool.and_eq_true, Bool.and_eq_true, Bool.and_eq_true, Bool.and_eq_true]; refine ⟨⟨hrel, by simp only [decide_eq_true_eq]; exact hI2.len ▸ hj, List.all_eq_true.2 hI2.args⟩, ?_, by simpa using hbody.1, List.all_eq_true.2 hbody.2⟩; rcases hI2.agg with ⟨h0, h1⟩ | ⟨h1, h2, h3, h4⟩
 ·rw [if_pos h0]; simpa using h1
 ·rw [if_neg (by omega), h4]; simp; omega
theorem decl_right (hX : Toks T E) (s : PS) (hf : Fine T E s) (h : (declP T E s).1.err = 0) : declB (declP T E s).2 = true := by
 have hW := hX.within; unfold declP at h ⊢; dsimp only at h ⊢; have hf1 := (want_goes hW s relW hf).fine hf; have hf2 := (take_goes hW _ (k := 2) (by decide) hf1).fine hf1; have hf3 := (commas_goes hW 6 (kindR T E) (kindR_goes hW) (takeP T E (wantP T E s relW) 2, []) hf2).fine hf2; have he3 := Goes.err0 (want_goes hW _ [46]) hf3 h; have he2 := Goes.err0 (commas_goes hW 6 (kindR T E) (kindR_goes hW) (takeP T E (wantP T E s relW) 2, [])) hf2 he3; have hrel := (take_single hX (k := 2) (by decide) he2).1
 obtain ⟨j, hj, h1, h2⟩ := commas_ok hW 6 (kindR T E) (kindR_goes hW) (fun i l => l.length = i ∧ ∀ k ∈ l, kindB k = true) (fun i x hf hi he => by
  unfold kindR; split
  ·exact ⟨by simp [hi.1], fun t ht => by
    rcases List.mem_append.1 ht with ht | ht
    ·exact hi.2 t ht
    ·simp only [List.mem_singleton] at ht
     rw [ht]; decide⟩
  ·exact ⟨by simp [hi.1], fun t ht => by
    rcases List.mem_append.1 ht with ht | ht
    ·exact hi.2 t ht
    ·simp only [List.mem_singleton] at ht
     rw [ht]; decide⟩) (takeP T E (wantP T E s relW) 2, []) hf2 ⟨rfl, fun _ h => by cases h⟩ he3
 unfold declB; dsimp only; rw [Bool.and_eq_true, Bool.and_eq_true]; exact ⟨hrel, by simp only [decide_eq_true_eq]; exact h1 ▸ hj, List.all_eq_true.2 h2⟩
structure ProgI (T : List GTok) (E : Nat) (x : PS × GProg) : Prop where
 fine : Fine T E x.1
 decls : x.1.err = 0 → (∀ y ∈ x.2.decls, declB y = true) ∧ ∀ y ∈ x.2.rules, rightRule y = true
 nd : x.2.decls.length ≤ 32
 nr : x.2.rules.length ≤ 64
theorem prog_right (hX : Toks T E) : ∀ (f : Nat) (x : PS × GProg), ProgI T E x → ProgI T E (progL T E f x)
 | 0, x, h => h
 | f + 1, x, h => by
   have hW := hX.within; rw [progL]; split
   ·rename_i hc
    split
    ·rename_i hr
     split
     ·exact ⟨(fail_goes _ (peek_le hW _ _) (by decide) h.fine).fine h.fine, fun he => absurd he (fail_err _ _ (by decide)), h.nd, h.nr⟩
     ·rename_i hm
      refine prog_right hX f _ ⟨(decl_goes hW x.1 h.fine).fine h.fine, fun he => ⟨fun y hy => ?_, (h.decls hc.1).2⟩, by simp only [List.length_append, List.length_cons, List.length_nil]; omega, h.nr⟩; rcases List.mem_append.1 hy with hy | hy
      ·exact (h.decls hc.1).1 y hy
      ·simp only [List.mem_singleton] at hy; rw [hy]; exact decl_right hX x.1 h.fine he
    ·split
     ·exact ⟨(fail_goes _ (peek_le hW _ _) (by decide) h.fine).fine h.fine, fun he => absurd he (fail_err _ _ (by decide)), h.nd, h.nr⟩
     ·rename_i hm
      refine prog_right hX f _ ⟨(rule_goes hW x.1 h.fine).fine h.fine, fun he => ⟨(h.decls hc.1).1, fun y hy => ?_⟩, h.nd, by simp only [List.length_append, List.length_cons, List.length_nil]; omega⟩; rcases List.mem_append.1 hy with hy | hy
      ·exact (h.decls hc.1).2 y hy
      ·simp only [List.mem_singleton] at hy; rw [hy]; exact rule_right hX x.1 h.fine he
   ·exact h
end
end Go.Proofs.YtaeedepojpablaaGreatDoor

namespace Go.Proofs.YtaeedepojpablaaGreatDoor
open Go.RowKit
theorem lex_pair : ∀ (n a : Nat) (l : List UInt8), l.length ≤ n → (lexA wordK a l).1.Pairwise (fun p q => p.a < q.a)
 | 0, a, l, hn => by
   obtain rfl : l = [] := List.eq_nil_of_length_eq_zero (by omega); simp [lexA, lexF]
 | n + 1, a, l, hn => by
   by_cases h : l.drop (skipG false l) = []
   ·rw [lexA_nil _ _ h]; exact List.Pairwise.nil
   by_cases h0 : (tokL wordK (l.drop (skipG false l))).1 = 0
   ·rw [lexA_bad _ _ h h0]; exact List.Pairwise.nil
   have h3 := tokL_len _ h0; rw [lexA_tok _ _ h h0]; simp only [List.length_drop] at h3; have h6 := skipG_le l false; refine List.Pairwise.cons (fun q hq => ?_) (lex_pair n _ _ (by simp only [List.length_drop]; omega)); have := (lex_places (wk := wordK) _ _ _ (Nat.le_refl _) q hq).1; dsimp only; omega
theorem tok_lt {l : List UInt8} {q : GTok} (hq : q ∈ (lexS l).1) : q.a < l.length := by
 have h1 := lex_places (wk := wordK) _ 0 l (Nat.le_refl _) q hq; have h2 := lex_texts (wk := wordK) _ 0 l (Nat.le_refl _) q hq
 have h3 : q.t ≠ [] := by
  obtain ⟨-, ⟨-, h, -, -⟩ | ⟨-, h⟩⟩ := h2
  ·exact h
  ·intro e; rw [e] at h; revert h; decide
 have h4 : 1 ≤ q.t.length := by
  cases hq : q.t with
  | nil => exact absurd hq h3
  | cons c r => simp
 omega
section
variable {T : List GTok} {E : Nat}
structure PlI (T : List GTok) (x : PS × GProg) : Prop where
 up : (x.2.rules.map GRule.pos).Pairwise (· < ·)
 at_ : ∀ r ∈ x.2.rules, ∃ j q, j < x.1.next ∧ T[j]? = some q ∧ r.pos = (q.a : Int)
theorem prog_places (hW : Within T E) (hP : T.Pairwise (fun p q => p.a < q.a)) : ∀ (f : Nat) (x : PS × GProg), Fine T E x.1 → PlI T x → PlI T (progL T E f x)
 | 0, x, _, h => h
 | f + 1, x, hf, h => by
   have hfa : ∀ a e, x.1.next ≤ (failP T x.1 a e).next := fun a e => by
    unfold failP; split
    ·exact hf.next
    ·exact Nat.le_refl _
   rw [progL]; split
   ·rename_i hc
    split
    ·rename_i hr
     split
     ·exact ⟨h.up, fun r hr => by obtain ⟨j, q, h1, h2⟩ := h.at_ r hr; exact ⟨j, q, Nat.lt_of_lt_of_le h1 (hfa _ _), h2⟩⟩
     ·have hle := decl_more hW hf hr; exact prog_places hW hP f ((declP T E x.1).1, ⟨x.2.decls ++ [(declP T E x.1).2], x.2.rules⟩) ((decl_goes hW x.1 hf).fine hf) ⟨h.up, fun r hr => by obtain ⟨j, q, h1, h2⟩ := h.at_ r hr; exact ⟨j, q, by dsimp only; omega, h2⟩⟩
    ·split
     ·exact ⟨h.up, fun r hr => by obtain ⟨j, q, h1, h2⟩ := h.at_ r hr; exact ⟨j, q, Nat.lt_of_lt_of_le h1 (hfa _ _), h2⟩⟩
     ·have hle := rule_more hW hf hc.2; have hq : T[x.1.next]? = some (peekP T E x.1 0) := peek_at (k := 0) hc.2; have hpos : (ruleP T E x.1).2.pos = ((peekP T E x.1 0).a : Int) := rfl; refine prog_places hW hP f ((ruleP T E x.1).1, ⟨x.2.decls, x.2.rules ++ [(ruleP T E x.1).2]⟩) ((rule_goes hW x.1 hf).fine hf) ⟨?_, fun r hr => ?_⟩
      ·dsimp only; rw [List.map_append, List.pairwise_append]; refine ⟨h.up, by simp, fun p hp p' hp' => ?_⟩; obtain ⟨r, hr, rfl⟩ := List.mem_map.1 hp; simp only [List.map_cons, List.map_nil, List.mem_singleton] at hp'; subst hp'; obtain ⟨j, q, h1, h2, h3⟩ := h.at_ r hr; rw [h3, hpos]; obtain ⟨hj, ej⟩ := List.getElem?_eq_some_iff.1 h2; obtain ⟨hn, en⟩ := List.getElem?_eq_some_iff.1 hq; have := List.pairwise_iff_getElem.1 hP j x.1.next hj hn h1; rw [ej, en] at this; omega
      ·rcases List.mem_append.1 hr with hr | hr
       ·obtain ⟨j, q, h1, h2⟩ := h.at_ r hr; exact ⟨j, q, by dsimp only; omega, h2⟩
       ·simp only [List.mem_singleton] at hr; rw [hr]; exact ⟨x.1.next, _, by dsimp only; omega, hq, hpos⟩
   ·exact h
end
theorem parse_good {l : List UInt8} (h : (parseP l).2.2 = 0) : formedB (parseP l).1 = true ∧ (parseP l).2.1 = 0 ∧ ((parseP l).1.rules.map GRule.pos).Pairwise (· < ·) ∧ ∀ r ∈ (parseP l).1.rules, 0 ≤ r.pos ∧ r.pos < (l.length : Int) := by
 unfold parseP wholeP at h ⊢; by_cases h4 : 4000 < l.length
 ·rw [if_pos h4] at h; cases h
 ·rw [if_neg h4] at h ⊢; have hX := toks_of (l := l) (by omega); have hP := lex_pair l.length 0 l (Nat.le_refl _); have hpI := prog_right hX (lexS l).1.length (ps0, ⟨[], []⟩) ⟨fine0 _ _, fun _ => ⟨(fun _ h => by cases h), (fun _ h => by cases h)⟩, Nat.zero_le _, Nat.zero_le _⟩; have hpl := prog_places hX.within hP (lexS l).1.length (ps0, ⟨[], []⟩) (fine0 _ _) ⟨List.Pairwise.nil, fun _ h => by cases h⟩; cases hl : (lexS l).2 with
  | some p => rw [hl] at h; cases h
  | none =>
    rw [hl] at h; dsimp only at h ⊢; unfold programP at h ⊢; generalize hy : progL (lexS l).1 l.length (lexS l).1.length (ps0, ⟨[], []⟩) = y at *; by_cases he : (lastP (lexS l).1 l.length y.1).err = 0
    ·rw [if_pos he] at h ⊢
     have he0 : y.1.err = 0 := by
      unfold lastP at he; split at he
      ·exact absurd he (fail_err _ _ (by decide))
      ·exact he
     obtain ⟨hd, hr⟩ := hpI.decls he0; refine ⟨?_, rfl, hpl.up, fun r hr => ?_⟩
     ·unfold formedB; rw [Bool.and_eq_true, Bool.and_eq_true, Bool.and_eq_true]; exact ⟨⟨by simpa using hpI.nd, by simpa using hpI.nr⟩, List.all_eq_true.2 hd, List.all_eq_true.2 hr⟩
     ·obtain ⟨j, q, -, h2, h3⟩ := hpl.at_ r hr; have := tok_lt (List.mem_of_getElem? h2); rw [h3]; omega
    ·rw [if_neg he] at h; exact absurd h he
end Go.Proofs.YtaeedepojpablaaGreatDoor

namespace Go.Proofs.YtaeedepojpablaaGreatDoor
theorem rightE_nar : ∀ (k : Nat) (e : GExp), rightE k e = true → Nar e
 | 0, .mk o t ks, h => by
   simp only [rightE, Bool.and_eq_true, decide_eq_true_eq, List.isEmpty_iff] at h; have hk : ks = [] := h.2.1; subst hk; unfold Nar; rw [narE, narL]; exact ⟨by simp, trivial⟩
 | k + 1, .mk o t ks, h => by
   by_cases h0 : (GExp.mk o t ks).op = 0
   ·rw [rightE_leaf h0, Bool.and_eq_true, List.isEmpty_iff] at h; have hk : ks = [] := h.1; subst hk; unfold Nar; rw [narE, narL]; exact ⟨by simp, trivial⟩
   ·simp only [rightE, h0, if_false, Bool.and_eq_true] at h; have hm := h.2; match ks, hm with
    | [a, b], hm =>
      have hm2 : (rightE k a && rightE k b) = true := hm; rw [Bool.and_eq_true] at hm2; have ha := rightE_nar k a hm2.1; have hb := rightE_nar k b hm2.2; unfold Nar at ha hb ⊢; rw [narE, narL, narL, narL]; exact ⟨by simp, ha, hb, trivial⟩
theorem none_nar {e : GExp} (h : noneE e = true) : Nar e := by
 unfold noneE at h; simp only [Bool.and_eq_true, decide_eq_true_eq, List.isEmpty_iff] at h; cases e with
 | mk o t ks =>
   have hk : ks = [] := h.2.2; subst hk; unfold Nar; rw [narE, narL]; exact ⟨by simp, trivial⟩
theorem right_nar {y : GLit} (h : rightLit y = true) : NarLit y := by
 have ha := right_args h; unfold rightLit at h; split at h
 ·simp only [Bool.and_eq_true, decide_eq_true_eq] at h; exact ⟨by omega, none_nar h.2.2.1, none_nar h.2.2.2⟩
 ·simp only [Bool.and_eq_true] at h; exact ⟨by omega, rightE_nar 20 _ h.2.2.1, rightE_nar 20 _ h.2.2.2⟩
theorem formed_nar {x : GProg} (h : formedB x = true) : NarProg x := by
 have hd := formed_decl h; have hr := formed_rules h; refine ⟨by omega, fun d hdm => ?_, by omega, fun y hy => ?_⟩
 ·have := hd.2 d hdm; unfold declB at this; simp only [Bool.and_eq_true, decide_eq_true_eq] at this; have := this.2.1; omega
 ·have hrr := hr.2 y hy; have hb := right_body hrr
  have hh : y.head.args.length ≤ 6 := by
   unfold rightRule at hrr; simp only [Bool.and_eq_true] at hrr; have h1 := hrr.1; unfold atomB at h1; simp only [Bool.and_eq_true, decide_eq_true_eq] at h1; exact h1.2.1
  exact ⟨by omega, by omega, fun z hz => right_nar (hb.2 z hz)⟩
end Go.Proofs.YtaeedepojpablaaGreatDoor
