/- My own texts VFrameE, LexLaw, LexG, LexS, Has, as far as this claim needs them. -/
import Derived.Test.YtaeedepojpablaaGreatDoorZq2
import Derived.Lib.CutLaws
set_option linter.unusedVariables false
set_option linter.unusedSimpArgs false
set_option maxRecDepth 1000000
set_option maxHeartbeats 16000000
namespace Go.Proofs.YtaeedepojpablaaGreatDoor
open Go.ChangeShapes Go.WideShapes Go.ChangeAt Go.RowKit
set_option linter.unusedVariables false
theorem gER : Tryz.prog.globalNamed "strconv.ErrRange" = some 6 := by kernel_rfl
theorem gERT : (Tryz.prog.globals[6]?).map (·.type) = some 28 := by kernel_rfl
theorem gES : Tryz.prog.globalNamed "strconv.ErrSyntax" = some 5 := by kernel_rfl
theorem gEST : (Tryz.prog.globals[5]?).map (·.type) = some 28 := by kernel_rfl
theorem cellsES : Tryz.prog.cellsOf 350 = 1 := by kernel_rfl
theorem cellsStr : Tryz.prog.cellsOf 9 = 1 := by kernel_rfl
theorem starES : "*" ++ "errors.errorString" = "*errors.errorString" := by decide
theorem rowES (u : TypeId) (h : Tryz.prog.typeName? 3 u = some "*errors.errorString") : u = 348 :=
 typeName_ptr_named (nm := "errors.errorString") (by rw [starES]; kernel_rfl) (by kernel_rfl) (by decide) u (by rw [starES]; exact h)
abbrev synS : ByteArray := { data := #[105, 110, 118, 97, 108, 105, 100, 32, 115, 121, 110, 116, 97, 120] }
abbrev rngS : ByteArray := { data := #[118, 97, 108, 117, 101, 32, 111, 117, 116, 32, 111, 102, 32, 114, 97, 110, 103, 101] }
noncomputable def low : Nat := (World.holding Tryz.prog default ⟨#[], #[], []⟩).heap.size
end Go.Proofs.YtaeedepojpablaaGreatDoor

namespace Go.Proofs.YtaeedepojpablaaGreatDoor
def insB (c : UInt8) : Bool := (decide (97 ≤ c.toNat) && decide (c.toNat ≤ 122)) || (decide (65 ≤ c.toNat) && decide (c.toNat ≤ 90)) || (decide (48 ≤ c.toNat) && decide (c.toNat ≤ 57)) || decide (c.toNat = 95)
def blankB (c : UInt8) : Bool := decide (c = 9) || decide (c = 10) || decide (c = 32) || decide (c = 13)
def runL (l : List UInt8) : Nat := (l.takeWhile insB).length
def skipG : Bool → List UInt8 → Nat
 | _, [] => 0
 | true, c :: r => if c = 10 then 1 + skipG false r else 1 + skipG true r
 | false, c :: r => if blankB c then 1 + skipG false r else if c = 37 then 1 + skipG true r else 0
structure GTok where
 k : Int
 t : List UInt8
 a : Nat
deriving DecidableEq
def signsL : List (List UInt8) := [[58, 45], [33, 61], [60, 61], [62, 61], [40], [41], [44], [46], [61], [60], [62], [43], [45], [42]]
def tokL (wk : List UInt8 → Int) (l : List UInt8) : Int × Nat :=
 if 0 < runL l ∧ l.head? ≠ some 95 then (wk (l.take (runL l)), runL l) else match signsL.find? (·.isPrefixOf l) with
  | some s => (5, s.length)
  | none => (0, 0)
def lexF (wk : List UInt8 → Int) : Nat → Nat → List UInt8 → List GTok × Option Nat
 | 0, _, _ => ([], none)
 | f + 1, a, l => if l.drop (skipG false l) = [] then ([], none) else
     if (tokL wk (l.drop (skipG false l))).1 = 0 then ([], some (a + skipG false l)) else
      (⟨(tokL wk (l.drop (skipG false l))).1, (l.drop (skipG false l)).take (tokL wk (l.drop (skipG false l))).2, a + skipG false l⟩ ::
        (lexF wk f (a + skipG false l + (tokL wk (l.drop (skipG false l))).2) ((l.drop (skipG false l)).drop (tokL wk (l.drop (skipG false l))).2)).1,
        (lexF wk f (a + skipG false l + (tokL wk (l.drop (skipG false l))).2) ((l.drop (skipG false l)).drop (tokL wk (l.drop (skipG false l))).2)).2)
def lexA (wk : List UInt8 → Int) (a : Nat) (l : List UInt8) : List GTok × Option Nat := lexF wk l.length a l
variable {wk : List UInt8 → Int}
theorem skipG_le : ∀ (l : List UInt8) (b : Bool), skipG b l ≤ l.length
 | [], b => by simp [skipG]
 | c :: r, true => by
   unfold skipG; have h1 := skipG_le r false; have h2 := skipG_le r true
   simp only [List.length_cons]; split <;> omega
 | c :: r, false => by
   unfold skipG; have h1 := skipG_le r false; have h2 := skipG_le r true
   simp only [List.length_cons]; split
   ·omega
   ·split <;> omega
theorem runL_le (l : List UInt8) : runL l ≤ l.length := by
 unfold runL; exact List.Sublist.length_le (List.takeWhile_sublist insB)
theorem sign_mem {l s : List UInt8} (h : signsL.find? (·.isPrefixOf l) = some s) : s ∈ signsL ∧ s <+: l :=
 ⟨List.mem_of_find?_eq_some h, List.isPrefixOf_iff_prefix.1 (by have := List.find?_some h; simpa using this)⟩
theorem sign_pos {s : List UInt8} (h : s ∈ signsL) : 1 ≤ s.length ∧ s.length ≤ 2 := by
 revert s; decide
theorem tokL_len (l : List UInt8) (h : (tokL wk l).1 ≠ 0) : 1 ≤ (tokL wk l).2 ∧ (tokL wk l).2 ≤ l.length := by
 revert h
 unfold tokL; split
 ·rename_i h; intro _; exact ⟨by show 1 ≤ runL l; omega, runL_le l⟩
 ·split
  ·rename_i s hs
   obtain ⟨h1, h2⟩ := sign_mem hs; intro _; exact ⟨(sign_pos h1).1, h2.length_le⟩
  ·intro h; simp at h
theorem lexF_fuel : ∀ (f g a : Nat) (l : List UInt8), l.length ≤ f → l.length ≤ g → lexF wk f a l = lexF wk g a l
 | 0, g, a, l, hf, hg => by
   obtain rfl : l = [] := List.eq_nil_of_length_eq_zero (by omega); cases g with
   | zero => rfl
   | succ g => simp [lexF]
 | f + 1, 0, a, l, hf, hg => by
   obtain rfl : l = [] := List.eq_nil_of_length_eq_zero (by omega); simp [lexF]
 | f + 1, g + 1, a, l, hf, hg => by
   unfold lexF; split
   ·rfl
   ·split
    ·rfl
    ·rename_i h1 h2
     have h3 := tokL_len _ h2
     have h4 : ((l.drop (skipG false l)).drop (tokL wk (l.drop (skipG false l))).2).length ≤ l.length - 1 := by
      simp only [List.length_drop] at h3 ⊢; omega
     rw [lexF_fuel f g _ _ (by omega) (by omega)]
theorem lexA_nil (a : Nat) (l : List UInt8) (h : l.drop (skipG false l) = []) : lexA wk a l = ([], none) := by
 unfold lexA; cases l with
 | nil => rfl
 | cons c r => simp only [List.length_cons]; unfold lexF; rw [if_pos h]
theorem lexA_bad (a : Nat) (l : List UInt8) (h : l.drop (skipG false l) ≠ []) (h0 : (tokL wk (l.drop (skipG false l))).1 = 0) : lexA wk a l = ([], some (a + skipG false l)) := by
 unfold lexA; cases l with
 | nil => simp at h
 | cons c r => simp only [List.length_cons]; unfold lexF; rw [if_neg h, if_pos h0]
theorem lexA_tok (a : Nat) (l : List UInt8) (h : l.drop (skipG false l) ≠ []) (h0 : (tokL wk (l.drop (skipG false l))).1 ≠ 0) :
 lexA wk a l = (⟨(tokL wk (l.drop (skipG false l))).1, (l.drop (skipG false l)).take (tokL wk (l.drop (skipG false l))).2, a + skipG false l⟩ ::
  (lexA wk (a + skipG false l + (tokL wk (l.drop (skipG false l))).2) ((l.drop (skipG false l)).drop (tokL wk (l.drop (skipG false l))).2)).1,
  (lexA wk (a + skipG false l + (tokL wk (l.drop (skipG false l))).2) ((l.drop (skipG false l)).drop (tokL wk (l.drop (skipG false l))).2)).2) := by
 have h3 := tokL_len _ h0; unfold lexA; cases l with
 | nil => simp at h
 | cons c r =>
   rw [show (c :: r).length = r.length + 1 from rfl]; conv => lhs; unfold lexF
   rw [if_neg h, if_neg h0]
   have h4 : (((c :: r).drop (skipG false (c :: r))).drop (tokL wk ((c :: r).drop (skipG false (c :: r)))).2).length ≤ r.length := by
    simp only [List.length_drop, List.length_cons] at h3 ⊢; omega
   rw [lexF_fuel r.length _ _ _ h4 (Nat.le_refl _)]
theorem skip_note : ∀ l : List UInt8, skipG true l = (l.takeWhile (· != 10)).length + skipG false (l.drop (l.takeWhile (· != 10)).length)
 | [] => by simp [skipG]
 | c :: r => by
   by_cases h : c = 10
   ·subst h; simp [skipG, blankB]
   ·have h1 := skip_note r; rw [skipG, if_neg h, h1]; simp [h]; omega
theorem lex_places : ∀ (n a : Nat) (l : List UInt8), l.length ≤ n → ∀ q ∈ (lexA wk a l).1, a ≤ q.a ∧ q.a + q.t.length ≤ a + l.length ∧ (l.drop (q.a - a)).take q.t.length = q.t
 | 0, a, l, hn, q, hq => by
   obtain rfl : l = [] := List.eq_nil_of_length_eq_zero (by omega); simp [lexA, lexF] at hq
 | n + 1, a, l, hn, q, hq => by
   by_cases h : l.drop (skipG false l) = []
   ·rw [lexA_nil _ _ h] at hq; simp at hq
   by_cases h0 : (tokL wk (l.drop (skipG false l))).1 = 0
   ·rw [lexA_bad _ _ h h0] at hq; simp at hq
   have h3 := tokL_len _ h0; rw [lexA_tok _ _ h h0] at hq; simp only [List.length_drop] at h3; have h6 := skipG_le l false; rcases List.mem_cons.1 hq with rfl | hq
   ·refine ⟨by simp, ?_, ?_⟩
    ·simp only [List.length_take, List.length_drop]; omega
    ·simp only [List.length_take, List.length_drop, Nat.add_sub_cancel_left]; rw [Nat.min_eq_left (by omega)]
   ·obtain ⟨q1, q2, q3⟩ := lex_places n _ _ (by simp only [List.length_drop]; omega) q hq; simp only [List.length_drop] at q2; refine ⟨by omega, by omega, ?_⟩; rw [List.drop_drop, List.drop_drop] at q3; rw [← q3]; congr 2
    ·omega
theorem lex_len : ∀ (n a : Nat) (l : List UInt8), l.length ≤ n → ((lexA wk a l).1.map fun q => q.t.length).sum ≤ l.length ∧ (lexA wk a l).1.length ≤ l.length
 | 0, a, l, hn => by
   obtain rfl : l = [] := List.eq_nil_of_length_eq_zero (by omega); simp [lexA, lexF]
 | n + 1, a, l, hn => by
   by_cases h : l.drop (skipG false l) = []
   ·rw [lexA_nil _ _ h]; simp
   by_cases h0 : (tokL wk (l.drop (skipG false l))).1 = 0
   ·rw [lexA_bad _ _ h h0]; simp
   have h3 := tokL_len _ h0; simp only [List.length_drop] at h3; have h6 := skipG_le l false; obtain ⟨q1, q2⟩ := lex_len n (a + skipG false l + (tokL wk (l.drop (skipG false l))).2) ((l.drop (skipG false l)).drop (tokL wk (l.drop (skipG false l))).2) (by simp only [List.length_drop]; omega); rw [lexA_tok _ _ h h0]; simp only [List.length_drop] at q1 q2; simp only [List.map_cons, List.sum_cons, List.length_cons, List.length_take, List.length_drop]; omega
def TextOf (wk : List UInt8 → Int) (q : Int) (t : List UInt8) : Prop := q ≠ 0 ∧ ((q = wk t ∧ t ≠ [] ∧ (∀ c ∈ t, insB c = true) ∧ t.head? ≠ some 95) ∨ (q = 5 ∧ t ∈ signsL))
theorem takeWhile_all {p : UInt8 → Bool} : ∀ (l : List UInt8) (c : UInt8), c ∈ l.takeWhile p → p c = true
 | [], c, h => by simp at h
 | d :: r, c, h => by
   rw [List.takeWhile_cons] at h; split at h
   ·rcases List.mem_cons.1 h with rfl | h
    ·assumption
    ·exact takeWhile_all r c h
   ·simp at h
theorem take_run (l : List UInt8) : l.take (runL l) = l.takeWhile insB := by
 unfold runL; exact (List.prefix_iff_eq_take.1 (List.takeWhile_prefix insB)).symm
theorem tok_text (l : List UInt8) (h : (tokL wk l).1 ≠ 0) : TextOf wk (tokL wk l).1 (l.take (tokL wk l).2) := by
 refine ⟨h, ?_⟩; revert h
 unfold tokL; split
 ·rename_i h
  intro _; refine .inl ⟨rfl, ?_, ?_, ?_⟩
  ·intro he; have := congrArg List.length he; have h2 := runL_le l; simp only [List.length_take, List.length_nil] at this; omega
  ·intro c hc; simp only [take_run] at hc; exact takeWhile_all _ _ hc
  ·cases l with
   | nil => simp [runL] at h
   | cons c r =>
     have h1 := h.1; have h2 := h.2; obtain ⟨k, hk⟩ : ∃ k, runL (c :: r) = k + 1 := ⟨runL (c :: r) - 1, by omega⟩
     simp only [hk, List.take_succ_cons]; simpa using h2
 ·split
  ·rename_i s hs
   obtain ⟨h1, h2⟩ := sign_mem hs; intro _; refine .inr ⟨rfl, ?_⟩; show l.take s.length ∈ signsL; rw [← List.prefix_iff_eq_take.1 h2]; exact h1
  ·intro h; simp at h
theorem lex_texts : ∀ (n a : Nat) (l : List UInt8), l.length ≤ n → ∀ q ∈ (lexA wk a l).1, TextOf wk q.k q.t
 | 0, a, l, hn, q, hq => by
   obtain rfl : l = [] := List.eq_nil_of_length_eq_zero (by omega); simp [lexA, lexF] at hq
 | n + 1, a, l, hn, q, hq => by
   by_cases h : l.drop (skipG false l) = []
   ·rw [lexA_nil _ _ h] at hq; simp at hq
   by_cases h0 : (tokL wk (l.drop (skipG false l))).1 = 0
   ·rw [lexA_bad _ _ h h0] at hq; simp at hq
   have h3 := tokL_len _ h0; rw [lexA_tok _ _ h h0] at hq; simp only [List.length_drop] at h3; rcases List.mem_cons.1 hq with rfl | hq
   ·exact tok_text _ h0
   ·exact lex_texts n _ _ (by simp only [List.length_drop]; omega) q hq
theorem skip_idem : ∀ (l : List UInt8) (b : Bool), skipG false (l.drop (skipG b l)) = 0
 | [], b => by simp [skipG]
 | c :: r, true => by
   have h1 := skip_idem r false; have h2 := skip_idem r true
   by_cases h : c = 10
   ·have e : skipG true (c :: r) = skipG false r + 1 := by simp [skipG, h]; omega
    rw [e, List.drop_succ_cons, h1]
   ·have e : skipG true (c :: r) = skipG true r + 1 := by simp [skipG, h]; omega
    rw [e, List.drop_succ_cons, h2]
 | c :: r, false => by
   have h1 := skip_idem r false; have h2 := skip_idem r true
   by_cases h : blankB c = true
   ·have e : skipG false (c :: r) = skipG false r + 1 := by simp [skipG, h]; omega
    rw [e, List.drop_succ_cons, h1]
   ·by_cases h3 : c = 37
    ·have h4 : blankB 37 = false := by decide
     have e : skipG false (c :: r) = skipG true r + 1 := by simp [skipG, h3, h4]; omega
     rw [e, List.drop_succ_cons, h2]
    ·have e : skipG false (c :: r) = 0 := by simp [skipG, h, h3]
     rw [e]; exact e
theorem lexA_adv {l : List UInt8} {k : Nat} (hk : skipG false l = k + skipG false (l.drop k)) (a : Nat) : lexA wk a l = lexA wk (a + k) (l.drop k) := by
 have e : l.drop (skipG false l) = (l.drop k).drop (skipG false (l.drop k)) := by rw [List.drop_drop, ← hk]
 have e2 : a + skipG false l = a + k + skipG false (l.drop k) := by omega
 by_cases h : l.drop (skipG false l) = []
 ·rw [lexA_nil a l h, lexA_nil (a + k) (l.drop k) (by rw [← e]; exact h)]
 by_cases h0 : (tokL wk (l.drop (skipG false l))).1 = 0
 ·rw [lexA_bad a l h h0, lexA_bad (a + k) (l.drop k) (by rw [← e]; exact h) (by rw [← e]; exact h0), e2]
 ·rw [lexA_tok a l h h0, lexA_tok (a + k) (l.drop k) (by rw [← e]; exact h) (by rw [← e]; exact h0), e2, e]
theorem lexA_skip (l : List UInt8) (a : Nat) : lexA wk a l = lexA wk (a + skipG false l) (l.drop (skipG false l)) := lexA_adv (by rw [skip_idem]; rfl) a
theorem lexA_at {l : List UInt8} (hl : l ≠ []) (hs : skipG false l = 0) (a : Nat) :
 lexA wk a l = if (tokL wk l).1 = 0 then ([], some a) else
  (⟨(tokL wk l).1, l.take (tokL wk l).2, a⟩ :: (lexA wk (a + (tokL wk l).2) (l.drop (tokL wk l).2)).1, (lexA wk (a + (tokL wk l).2) (l.drop (tokL wk l).2)).2) := by
 have e : l.drop (skipG false l) = l := by rw [hs]; rfl
 split
 ·rename_i h; rw [lexA_bad _ _ (by rw [e]; exact hl) (by rw [e]; exact h), hs]; rfl
 ·rename_i h; rw [lexA_tok _ _ (by rw [e]; exact hl) (by rw [e]; exact h), e, hs]; rfl
theorem skip_one {c : UInt8} {r : List UInt8} (h : blankB c = true) : skipG false (c :: r) = 1 + skipG false r := by simp [skipG, h]
theorem skip_per (r : List UInt8) : skipG false (37 :: r) = ((37 :: r).takeWhile (· != 10)).length + skipG false ((37 :: r).drop ((37 :: r).takeWhile (· != 10)).length) := by
 have h4 : blankB 37 = false := by decide
 rw [show skipG false (37 :: r) = 1 + skipG true r by simp [skipG, h4], skip_note r]; simp; omega
theorem skip_zero {c : UInt8} {r : List UInt8} (h : blankB c = false) (h2 : c ≠ 37) : skipG false (c :: r) = 0 := by simp [skipG, h, h2]
end Go.Proofs.YtaeedepojpablaaGreatDoor

namespace Go.Proofs.YtaeedepojpablaaGreatDoor
open Go.RowKit
theorem ba_ext (s : ByteArray) (a b : Nat) : (s.extract a b).toList = (s.toList.take b).drop a := by
 rw [ByteArray.toList_eq, ByteArray.toList_eq, ByteArray.data_extract, Array.toList_extract]; show List.take (b - a) (s.data.toList.drop a) = _; rw [List.drop_take]
theorem ba_drop (s : ByteArray) (a : Nat) : (s.extract a s.size).toList = s.toList.drop a := by
 rw [ba_ext, List.take_of_length_le (by rw [ba_len]; exact Nat.le_refl _)]
theorem ba_take (s : ByteArray) (b : Nat) : (s.extract 0 b).toList = s.toList.take b := by rw [ba_ext]; rfl
theorem ba_eq {s : ByteArray} {l : List UInt8} (h : s.toList = l) : s = ⟨l.toArray⟩ := by rw [← h]; exact (bytes_back s).symm
def greatB (n : Nat) : Bool := decide (65 ≤ n) && decide (n ≤ 90)
def figB (n : Nat) : Bool := decide (48 ≤ n) && decide (n ≤ 57)
theorem insB_eq (c : UInt8) : insB c = (lowB c.toNat || greatB c.toNat || figB c.toNat || decide (c.toNat = 95)) := rfl
theorem small_any (r : Nat) (w : World) : Calls Tryz.prog 190 #[.int .u8 r] w (RetSameB (lowB r) w) := by
 by_cases h1 : (97 : Int) ≤ r <;> by_cases h2 : (r : Int) ≤ 122 <;> (try (exfalso; omega))
 all_goals
  go_enter Tryz.func190, Tryz.ntmps190
  go_wp2
  go_ret; exact ⟨by simp [lowB]; omega, rfl⟩
theorem great_any (r : Nat) (w : World) : Calls Tryz.prog 191 #[.int .u8 r] w (RetSameB (greatB r) w) := by
 by_cases h1 : (65 : Int) ≤ r <;> by_cases h2 : (r : Int) ≤ 90 <;> (try (exfalso; omega))
 all_goals
  go_enter Tryz.func191, Tryz.ntmps191
  go_wp2
  go_ret; exact ⟨by simp [greatB]; omega, rfl⟩
theorem figure_any (r : Nat) (w : World) : Calls Tryz.prog 192 #[.int .u8 r] w (RetSameB (figB r) w) := by
 by_cases h1 : (48 : Int) ≤ r <;> by_cases h2 : (r : Int) ≤ 57 <;> (try (exfalso; omega))
 all_goals
  go_enter Tryz.func192, Tryz.ntmps192
  go_wp2
  go_ret; exact ⟨by simp [figB]; omega, rfl⟩
theorem ins_run : ∀ (l : List UInt8) (k : Nat) (c : UInt8), k ≤ runL l → l[k]? = some c → insB c = true → k + 1 ≤ runL l
 | [], k, c, h, hc, hi => by simp at hc
 | d :: r, 0, c, h, hc, hi => by
   simp at hc; subst hc
   simp [runL, hi]
 | d :: r, k + 1, c, h, hc, hi => by
   unfold runL at h ⊢; rw [List.takeWhile_cons] at h ⊢; cases hd : insB d with
   | false => rw [hd] at h; simp at h
   | true =>
     rw [hd] at h; simp only [if_true, List.length_cons] at h ⊢; have := ins_run r k c (by unfold runL; omega) (by simpa using hc) hi; unfold runL at this; omega
theorem run_out : ∀ (l : List UInt8) (k : Nat) (c : UInt8), k ≤ runL l → l[k]? = some c → insB c = false → runL l = k
 | [], k, c, h, hc, hi => by simp at hc
 | d :: r, 0, c, h, hc, hi => by
   simp at hc; subst hc
   simp [runL, hi]
 | d :: r, k + 1, c, h, hc, hi => by
   unfold runL at h ⊢; rw [List.takeWhile_cons] at h ⊢; cases hd : insB d with
   | false => rw [hd] at h; simp at h
   | true =>
     rw [hd] at h; simp only [if_true, List.length_cons] at h ⊢; have := run_out r k c (by unfold runL; omega) (by simpa using hc) hi; unfold runL at this; omega
def RetSame' (n : Int) (w : World) (e : Ending) (w' : World) : Prop := e = .returned (.int .i64 n) ∧ w' = w
theorem run_any (s : ByteArray) (hs : s.size ≤ 140737488351232) (w : World) : Calls Tryz.prog 164 #[.string s] w (RetSame' (runL s.toList) w) := by
 have Hle := hZ9 (runL_le s.toList); have Hlen := hZ9 (ba_len s); obtain ⟨R, HR⟩ : ∃ R, Hid (R = runL s.toList) := ⟨_, rfl⟩
 rw [← HR.out]; have Hs := hZ9 (fun r => small_any r w); have Hg := hZ9 (fun r => great_any r w); have Hf := hZ9 (fun r => figure_any r w); go_enter Tryz.func164, Tryz.ntmps164
 go_wp2
 go_loop [3] (fun i => ∃ k : Nat, k ≤ s.size ∧ i = .int .i64 k ∧ Hid (k ≤ runL s.toList)) (fun i => s.size - (intOf i).toNat)
 case atStart => exact ⟨0, by omega, rfl, Nat.zero_le _⟩
 case round =>
  obtain ⟨k, hk, rfl, HK⟩ := hrel; by_cases hlt : k < s.size
  ·have i0 : (0 : Int) ≤ (k : Int) := by omega
   have i1 : (k : Int) < (s.size : Int) := by omega
   have Hc := hZ9 (ba_get hlt); have HN : Hid (insB (s[k]'hlt) = true → k + 1 ≤ runL s.toList) := fun h => ins_run _ _ _ HK.out Hc.out h
   have HF : Hid (insB (s[k]'hlt) = false → R = k) := fun h => by rw [HR.out]; exact run_out _ _ _ HK.out Hc.out h
   have HE := hZ9 (insB_eq (s[k]'hlt)); cases h1 : lowB (s[k]'hlt).toNat with
   | true =>
     have HI : Hid (insB (s[k]'hlt) = true) := by show _ = _; rw [HE.out]; simp [h1]
     go_wp2_with (go_at_call 190; refine (Hs.out _).mono ?_; rintro e w1 ⟨rfl, rfl⟩)
     go_round
     case rel => exact ⟨k + 1, by omega, by go_num, HN.out HI.out⟩
     case measure => simp [intOf]; omega
   | false =>
   cases h2 : greatB (s[k]'hlt).toNat with
   | true =>
     have HI : Hid (insB (s[k]'hlt) = true) := by show _ = _; rw [HE.out]; simp [h2]
     go_wp2_with (first | (go_at_call 190; refine (Hs.out _).mono ?_; rintro e w1 ⟨rfl, rfl⟩) | (go_at_call 191; refine (Hg.out _).mono ?_; rintro e w1 ⟨rfl, rfl⟩))
     go_round
     case rel => exact ⟨k + 1, by omega, by go_num, HN.out HI.out⟩
     case measure => simp [intOf]; omega
   | false =>
   cases h3 : figB (s[k]'hlt).toNat with
   | true =>
     have HI : Hid (insB (s[k]'hlt) = true) := by show _ = _; rw [HE.out]; simp [h3]
     go_wp2_with (first | (go_at_call 190; refine (Hs.out _).mono ?_; rintro e w1 ⟨rfl, rfl⟩) | (go_at_call 191; refine (Hg.out _).mono ?_; rintro e w1 ⟨rfl, rfl⟩) | (go_at_call 192; refine (Hf.out _).mono ?_; rintro e w1 ⟨rfl, rfl⟩))
     go_round
     case rel => exact ⟨k + 1, by omega, by go_num, HN.out HI.out⟩
     case measure => simp [intOf]; omega
   | false =>
   by_cases h4 : (s[k]'hlt).toNat = 95
   ·have HI : Hid (insB (s[k]'hlt) = true) := by show _ = _; rw [HE.out]; simp [h4]
    have z5 : (((s[k]'hlt).toNat : Int) == 95) = true := by simp; omega
    clear h4; go_wp2_with (first | (go_at_call 190; refine (Hs.out _).mono ?_; rintro e w1 ⟨rfl, rfl⟩) | (go_at_call 191; refine (Hg.out _).mono ?_; rintro e w1 ⟨rfl, rfl⟩) | (go_at_call 192; refine (Hf.out _).mono ?_; rintro e w1 ⟨rfl, rfl⟩))
    go_round
    case rel => exact ⟨k + 1, by omega, by go_num, HN.out HI.out⟩
    case measure => simp [intOf]; omega
   ·have HI : Hid (insB (s[k]'hlt) = false) := by show _ = _; rw [HE.out]; simp [h1, h2, h3, h4]
    have z5 : (((s[k]'hlt).toNat : Int) == 95) = false := by simp; omega
    clear h4; go_wp2_with (first | (go_at_call 190; refine (Hs.out _).mono ?_; rintro e w1 ⟨rfl, rfl⟩) | (go_at_call 191; refine (Hg.out _).mono ?_; rintro e w1 ⟨rfl, rfl⟩) | (go_at_call 192; refine (Hf.out _).mono ?_; rintro e w1 ⟨rfl, rfl⟩))
    go_ret; exact ⟨by rw [HF.out HI.out]; rfl, rfl⟩
  ·have i1 : ¬ (k : Int) < (s.size : Int) := by omega
   have HE : Hid (R = k) := by
    show _ = _; have h1 := HK.out; have h2 := Hle.out; have h3 := Hlen.out; have h4 := HR.out
    omega
   go_wp2_with fail
   go_ret; exact ⟨by rw [HE.out]; rfl, rfl⟩
end Go.Proofs.YtaeedepojpablaaGreatDoor

namespace Go.Proofs.YtaeedepojpablaaGreatDoor
open Go.RowKit
theorem idx_byte (c : UInt8) : ∀ l : List UInt8, Lib.indexByte l c = if c ∈ l then ((l.takeWhile (· != c)).length : Int) else -1
 | [] => by simp [Lib.indexByte]
 | d :: l => by
   have ih := idx_byte c l; unfold Lib.indexByte; by_cases h : d = c
   ·subst h; simp
   ·have h1 : (d == c) = false := by simpa using h
    have h2 : (d != c) = true := by simpa using h
    rw [h1, ih, List.takeWhile_cons, h2]; by_cases hm : c ∈ l
    ·have h3 : ¬ (((l.takeWhile (· != c)).length : Int) == -1) = true := by simp
     simp [hm, h3]
    ·have h4 : ¬ c ∈ d :: l := by simp [hm, Ne.symm h]
     simp [hm, h4]
theorem idx_blank (c : UInt8) : decide (0 ≤ Lib.indexByte [9, 10, 13, 32] c) = blankB c := by
 rw [idx_byte]; unfold blankB; by_cases h : c = 9 ∨ c = 10 ∨ c = 13 ∨ c = 32
 ·rcases h with rfl | rfl | rfl | rfl <;> simp
 ·simp only [not_or] at h; simp [h]
theorem take_ne (l : List UInt8) (h : (10 : UInt8) ∉ l) : l.takeWhile (· != 10) = l := by
 induction l with
 | nil => rfl
 | cons d l ih =>
   simp only [List.mem_cons, not_or] at h; rw [List.takeWhile_cons]; have : (d != 10) = true := by simpa using Ne.symm h.1
   rw [this, if_pos rfl, ih h.2]
theorem take_lt (l : List UInt8) (h : (10 : UInt8) ∈ l) : (l.takeWhile (· != 10)).length + 1 ≤ l.length := by
 induction l with
 | nil => cases h
 | cons d l ih =>
   rw [List.takeWhile_cons]; by_cases hd : d = 10
   ·subst hd; simp
   ·have : (d != 10) = true := by simpa using hd
    rw [this, if_pos rfl]; have := ih (by simpa [Ne.symm hd] using h); simp only [List.length_cons]; omega
theorem idx10_any (s : ByteArray) (hne : (([10] : List UInt8) == s.toList) = false) (w : World) : Calls Tryz.prog 219 #[.string s, .string ⟨#[10]⟩] w (RetSame' (Lib.indexByte s.toList 10) w) := by
 have HI : Hid (∀ w, Calls Tryz.prog 188 #[.string s, .int .u8 10] w (RetSame' (Lib.indexByte s.toList 10) w)) := by
  intro w; have h := Any.stringslite_IndexByte { Tryz.lays137 with } s 10 w; rw [← ByteArray.toList_eq] at h; exact h
 generalize Lib.indexByte s.toList 10 = R at HI ⊢; go_enter Tryz.func219, Tryz.ntmps219
 go_wp2_with (go_at_call 188; refine (HI.out _).mono ?_; rintro e w1 ⟨rfl, rfl⟩)
 go_ret; exact ⟨rfl, rfl⟩
def CutPost (s : ByteArray) (w : World) (e : Ending) (w' : World) : Prop := ∃ (a : ByteArray) (b c : Value), e = .returned (.tuple #[.string a, b, c]) ∧ a.size = (s.toList.takeWhile (· != 10)).length ∧ Below w.heap.size w w'
theorem cutL_any (s : ByteArray) (hs : s.size ≤ 140737488351232) (hne : (([10] : List UInt8) == s.toList) = false) (w : World) : Calls Tryz.prog 189 #[.string s, .string ⟨#[10]⟩] w (CutPost s w) := by
 have HI := hZ9 (idx10_any s hne); have Hlen := hZ9 (ba_len s); by_cases hm : (10 : UInt8) ∈ s.toList
 ·have hlt := take_lt _ hm; have e1 : Lib.indexByte s.toList 10 = ((s.toList.takeWhile (· != 10)).length : Int) := by rw [idx_byte, if_pos hm]
  rw [e1] at HI; obtain ⟨k, hk⟩ : ∃ k, Hid (k = (s.toList.takeWhile (· != 10)).length) := ⟨_, rfl⟩
  have hks : k + 1 ≤ s.size := by have := hk.out; have := Hlen.out; omega
  rw [← hk.out] at HI; have c1 : (0 : Int) ≤ (k : Int) := by omega
  have c2 : (k : Int) ≤ (s.size : Int) := by omega
  have c3 : (0 : Int) ≤ (k : Int) + 1 := by omega
  have c4 : (k : Int) + 1 ≤ (s.size : Int) := by omega
  have c5 : IntKind.i64.wrap ((k : Int) + 1) = (k : Int) + 1 := by simp [IntKind.wrap, IntKind.signed, IntKind.bits]; omega
  clear hm hlt e1 hne; go_enter Tryz.func189, Tryz.ntmps189
  go_wp2_with (go_at_call 219; refine (HI.out _).mono ?_; rintro e w1 ⟨rfl, rfl⟩)
  go_quiet (fail)
  go_wp2_with fail
  go_ret3
  refine ⟨_, _, _, rfl, ?_, below_drewN _ _ _⟩; show ByteArray.size (s.extract 0 k) = _; rw [← hk.out]; simp; omega
 ·have e1 : Lib.indexByte s.toList 10 = -1 := by rw [idx_byte, if_neg hm]
  rw [e1] at HI; have hl : Hid (s.size = (s.toList.takeWhile (· != 10)).length) := by show _ = _; rw [take_ne _ hm, Hlen.out]
  clear hm e1 hne; go_enter Tryz.func189, Tryz.ntmps189
  go_wp2_with (go_at_call 219; refine (HI.out _).mono ?_; rintro e w1 ⟨rfl, rfl⟩)
  go_ret3
  exact ⟨_, _, _, rfl, hl.out, Below.refl _ _⟩
theorem cut_any (s : ByteArray) (hs : s.size ≤ 140737488351232) (hne : (([10] : List UInt8) == s.toList) = false) (w : World) : Calls Tryz.prog 163 #[.string s, .string ⟨#[10]⟩] w (CutPost s w) := by
 have HI := hZ9 (cutL_any s hs hne); clear hne; go_enter Tryz.func163, Tryz.ntmps163
 go_wp2_with fail
 refine (HI.out _).mono ?_; rintro e w1 ⟨a, b, c, rfl, ha, hb⟩; have Ha := hZ9 ha; clear ha; go_wp2_with fail
 go_ret3
 exact ⟨_, _, _, rfl, Ha.out, hb⟩
theorem skip_any (s : ByteArray) (hs : s.size ≤ 140737488351232) (a : Nat) (ha : a ≤ s.size) (w : World) : Calls Tryz.prog 129 #[.string s, .int .i64 a] w (RetInt ((a + skipG false (s.toList.drop a) : Nat) : Int) w) := by
 have Hlen := hZ9 (ba_len s)
 have HB : Hid (∀ (c : UInt8) w, Calls Tryz.prog 162 #[.string ⟨#[9, 10, 13, 32]⟩, .int .u8 c.toNat] w (fun e w' => ∃ n : Int, e = .returned (.int .i64 n) ∧ decide (0 ≤ n) = blankB c ∧ w' = w)) := by
  intro c w; refine (Tryz.strings_IndexByte ⟨#[9, 10, 13, 32]⟩ c.toNat w).mono ?_; rintro e w1 ⟨rfl, rfl⟩; refine ⟨_, rfl, ?_, rfl⟩; have h := idx_blank c; simpa using h
 obtain ⟨R, HR⟩ : ∃ R : Nat, Hid (R = a + skipG false (s.toList.drop a)) := ⟨_, rfl⟩
 rw [← HR.out]; go_enter Tryz.func129, Tryz.ntmps129
 go_wp2
 go_loopw [1, 5, 6, 7, 8, 17, 23] (fun i _ _ _ _ _ _ wr => ∃ k : Nat, k ≤ s.size ∧ i = .int .i64 k ∧ Hid (R = k + skipG false (s.toList.drop k)) ∧ Below w.heap.size w wr) (fun i _ _ _ _ _ _ _ => s.size - (intOf i).toNat)
 case atStart => exact ⟨a, ha, rfl, HR, Below.refl _ _⟩
 case round =>
  obtain ⟨k, hk, rfl, HK, hbr⟩ := hrel; have i0 : (0 : Int) ≤ (k : Int) := by omega
  by_cases hlt : k < s.size
  ·have i1 : (k : Int) < (s.size : Int) := by omega
   have i2 : (k : Int) ≤ (s.size : Int) := by omega
   have HD : Hid (s.toList.drop k = (s[k]'hlt) :: s.toList.drop (k + 1)) := by
    show _ = _; have h1 := ba_get hlt; obtain ⟨h2, h3⟩ := List.getElem?_eq_some_iff.1 h1; rw [List.drop_eq_getElem_cons h2, h3]
   have HC := hZ9 (HB.out (s[k]'hlt) wr); cases hbl : blankB (s[k]'hlt) with
   | true =>
     have HK2 : Hid (R = k + 1 + skipG false (s.toList.drop (k + 1))) := by
      show _ = _; rw [HK.out, HD.out, skip_one hbl]; omega
     clear HK HR ha; go_wp2_with fail
     refine HC.out.mono ?_; rintro e w1 ⟨n, rfl, hn, rfl⟩; rw [hbl] at hn; go_wp2_with fail
     go_roundw
     case rel => exact ⟨k + 1, by omega, by go_num, HK2, hbr⟩
     case measure => simp [intOf]; omega
   | false =>
     by_cases hp : (s[k]'hlt) = 37
     ·have z0 : (((s[k]'hlt).toNat : Int) == 37) = true := by rw [hp]; decide
      obtain ⟨m, Hm⟩ : ∃ m, Hid (m = ((s.toList.drop k).takeWhile (· != 10)).length) := ⟨_, rfl⟩
      have hk1 : 1 ≤ m := by
       rw [Hm.out, HD.out, hp]; simp
      have HT : Hid (m ≤ s.size - k) := by
       show _ ≤ _; rw [Hm.out]; have h1 : ((s.toList.drop k).takeWhile (· != 10)).length ≤ (s.toList.drop k).length := List.Sublist.length_le (List.takeWhile_sublist _); rw [List.length_drop, Hlen.out] at h1; exact h1
      have HK2 : Hid (R = k + m + skipG false (s.toList.drop (k + m))) := by
       show _ = _; rw [HK.out, Hm.out]; conv => lhs; rw [HD.out, hp, skip_per]
       rw [← hp, ← HD.out, List.drop_drop]; omega
      have hne : (([10] : List UInt8) == (s.extract k s.size).toList) = false := by
       rw [ba_drop, HD.out, hp]; simp
      have HCut := hZ9 (cut_any (s.extract k s.size) (by simp; omega) hne); rw [hbl] at HC; have ht := HT.out; clear HK HR ha hne hp; go_wp2_with fail
      refine HC.out.mono ?_; rintro e w1 ⟨n, rfl, hn, rfl⟩; go_wp2_with fail
      refine (HCut.out _).mono ?_; rintro e w2 ⟨x, b, c, rfl, hx, hbx⟩; have Hx : Hid (x.size = m) := by show _ = _; rw [hx, Hm.out, ba_drop]
      have hxx := Hx.out; clear hx; go_wp2_with fail
      go_roundw
      case rel => exact ⟨k + m, by omega, by go_num, HK2, below_next hbr hbx⟩
      case measure => simp [intOf]; omega
     ·have z0 : (((s[k]'hlt).toNat : Int) == 37) = false := by
       simp only [beq_eq_false_iff_ne, ne_eq]; intro h; apply hp
       have h2 : (s[k]'hlt).toNat = 37 := by omega
       exact UInt8.toNat_inj.1 (by rw [h2]; rfl)
      have HK2 : Hid (R = k) := by show _ = _; rw [HK.out, HD.out, skip_zero hbl hp]; rfl
      rw [hbl] at HC; clear HK HR ha hp; go_wp2_with fail
      refine HC.out.mono ?_; rintro e w1 ⟨n, rfl, hn, rfl⟩; go_wp2_with fail
      go_ret; exact ⟨by rw [HK2.out]; rfl, hbr⟩
  ·have i1 : ¬ (k : Int) < (s.size : Int) := by omega
   have HK2 : Hid (R = k) := by
    show _ = _; rw [HK.out, List.drop_eq_nil_of_le (by rw [Hlen.out]; omega)]; rfl
   clear HK HR ha; go_wp2_with fail
   go_ret; exact ⟨by rw [HK2.out]; rfl, hbr⟩
end Go.Proofs.YtaeedepojpablaaGreatDoor

namespace Go.Proofs.YtaeedepojpablaaGreatDoor
open Go.RowKit
theorem mem_take_succ {l : List ByteArray} {k : Nat} {s x : ByteArray} (hx : l[k]? = some x) : s ∈ l.take (k + 1) ↔ s ∈ l.take k ∨ x = s := by
 rw [List.take_add_one, hx]; simp [eq_comm]
def IdxMem (b : Bool) (w : World) (e : Ending) (w' : World) : Prop := ∃ k : Int, e = .returned (.int .i64 k) ∧ decide (0 ≤ k) = b ∧ Below w.heap.size w w'
theorem index_any (A : Option Addr) (n c : Nat) (l : List ByteArray) (s : ByteArray) (w : World) (hl : SliceIs Enc.str w w.heap.size A n c l) :
 Calls Tryz.prog 132 #[.slice A n c, .string s] w (IdxMem (decide (s ∈ l)) w) := by
 have hn := hl.bound; have hlen := hZ9 hl.1; go_enter Tryz.func132, Tryz.ntmps132
 go_wp2
 go_loop [5, 8] (fun _ i => ∃ k : Nat, k ≤ n ∧ i = .int .i64 k ∧ Hid (s ∉ l.take k)) (fun _ i => n - (intOf i).toNat)
 case atStart => exact ⟨0, by omega, rfl, by simp [Hid]⟩
 case round =>
  obtain ⟨k, hk, rfl, hpre⟩ := hrel; by_cases hlt : k < n
  ·obtain ⟨b, o, x, rfl, _, hx, hc, hs⟩ := hl.str_at hlt; have i0 : (0 : Int) ≤ (k : Int) := by omega
   have i1 : (k : Int) < (n : Int) := by omega
   have hb := World.block_lt_of_cell? w _ hc; clear hl; by_cases h1 : x = s
   ·have h1' : (s.toList == x.toList) = true := by simp [h1]
    have HR : Hid (decide (s ∈ l) = true) := by show decide (s ∈ l) = true; rw [← h1]; simpa using List.mem_of_getElem? hx.out
    clear h1; go_wp2
    go_ret; exact ⟨_, rfl, by rw [HR.out]; simp, Below.refl _ _⟩
   ·have h1' : (s.toList == x.toList) = false := by simp [toList_inj, Ne.symm h1]
    have HN : Hid (s ∉ l.take (k + 1)) := by
     show ¬ _; rw [mem_take_succ hx.out]; intro h; rcases h with h | h
     ·exact hpre.out h
     ·exact h1 h
    clear h1; go_wp2
    go_round
    case rel => exact ⟨k + 1, by omega, by go_num, HN⟩
    case measure => simp [intOf]; omega
  ·have HR : Hid (decide (s ∈ l) = false) := by
    show decide (s ∈ l) = false; have h := hpre.out; rw [List.take_of_length_le (by have := hlen.out; omega)] at h; simpa using h
   have i1 : ¬ (k : Int) < (n : Int) := by omega
   go_wp2
   go_ret; exact ⟨_, rfl, by rw [HR.out]; rfl, Below.refl _ _⟩
theorem contains_any (A : Option Addr) (n c : Nat) (l : List ByteArray) (s : ByteArray) (w : World) (hl : SliceIs Enc.str w w.heap.size A n c l) :
 Calls Tryz.prog 193 #[.slice A n c, .string s] w (RetBool (decide (s ∈ l)) w) := by
 have hi := hZ9 (index_any A n c l s w hl); clear hl; go_enter Tryz.func193, Tryz.ntmps193
 go_wp2_with fail
 refine hi.out.mono ?_; rintro e w1 ⟨k, rfl, hk, hb⟩; have Hk := hZ9 hk; clear hk; go_wp2_with fail
 go_ret; exact ⟨by rw [← Hk.out]; rfl, hb⟩
end Go.Proofs.YtaeedepojpablaaGreatDoor
