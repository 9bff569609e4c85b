/- My own texts LexLaw, as far as this claim needs them. -/
set_option linter.unusedVariables false
set_option linter.unusedSimpArgs false
namespace Go.Proofs.YtplekbpmfaghbaaDoor
def insB (c : UInt8) : Bool := (decide (97 ≤ c.toNat) && decide (c.toNat ≤ 122)) || (decide (65 ≤ c.toNat) && decide (c.toNat ≤ 90)) || (decide (48 ≤ c.toNat) && decide (c.toNat ≤ 57)) || decide (c.toNat = 95)
def blankB (c : UInt8) : Bool := decide (c = 9) || decide (c = 10) || decide (c = 32) || decide (c = 13)
def runL (l : List UInt8) : Nat := (l.takeWhile insB).length
/-- how many bytes are skipped; true: within a note -/
def skipG : Bool → List UInt8 → Nat
  | _, [] => 0
  | true, c :: r => if c = 10 then 1 + skipG false r else 1 + skipG true r
  | false, c :: r => if blankB c then 1 + skipG false r else if c = 37 then 1 + skipG true r else 0
/-- a token: its kind, its text, its place -/
structure GTok where
  k : Int
  t : List UInt8
  a : Nat
deriving DecidableEq
def signsL : List (List UInt8) := [[58, 45], [33, 61], [60, 61], [62, 61], [40], [41], [44], [46], [61], [60], [62], [43], [45], [42]]
/-- the token that a rest begins with: its kind (0: none), its length -/
def tokL (wk : List UInt8 → Int) (l : List UInt8) : Int × Nat :=
  if 0 < runL l ∧ l.head? ≠ some 95 then (wk (l.take (runL l)), runL l) else match signsL.find? (·.isPrefixOf l) with
    | some s => (5, s.length)
    | none => (0, 0)
def lexF (wk : List UInt8 → Int) : Nat → Nat → List UInt8 → List GTok × Option Nat
  | 0, _, _ => ([], none)
  | f + 1, a, l => if l.drop (skipG false l) = [] then ([], none) else
      if (tokL wk (l.drop (skipG false l))).1 = 0 then ([], some (a + skipG false l)) else
        (⟨(tokL wk (l.drop (skipG false l))).1, (l.drop (skipG false l)).take (tokL wk (l.drop (skipG false l))).2, a + skipG false l⟩ ::
          (lexF wk f (a + skipG false l + (tokL wk (l.drop (skipG false l))).2) ((l.drop (skipG false l)).drop (tokL wk (l.drop (skipG false l))).2)).1,
          (lexF wk f (a + skipG false l + (tokL wk (l.drop (skipG false l))).2) ((l.drop (skipG false l)).drop (tokL wk (l.drop (skipG false l))).2)).2)
/-- the tokens of the rest l that begins at a, and the place without one -/
def lexA (wk : List UInt8 → Int) (a : Nat) (l : List UInt8) : List GTok × Option Nat := lexF wk l.length a l
variable {wk : List UInt8 → Int}
theorem skipG_le : ∀ (l : List UInt8) (b : Bool), skipG b l ≤ l.length
  | [], b => by simp [skipG]
  | c :: r, true => by
    unfold skipG
    have h1 := skipG_le r false; have h2 := skipG_le r true
    simp only [List.length_cons]; split <;> omega
  | c :: r, false => by
    unfold skipG
    have h1 := skipG_le r false; have h2 := skipG_le r true
    simp only [List.length_cons]; split
    · omega
    · split <;> omega
theorem runL_le (l : List UInt8) : runL l ≤ l.length := by
  unfold runL
  exact List.Sublist.length_le (List.takeWhile_sublist insB)
theorem sign_mem {l s : List UInt8} (h : signsL.find? (·.isPrefixOf l) = some s) : s ∈ signsL ∧ s <+: l :=
  ⟨List.mem_of_find?_eq_some h, List.isPrefixOf_iff_prefix.1 (by have := List.find?_some h; simpa using this)⟩
theorem sign_pos {s : List UInt8} (h : s ∈ signsL) : 1 ≤ s.length ∧ s.length ≤ 2 := by
  revert s; decide
theorem tokL_len (l : List UInt8) (h : (tokL wk l).1 ≠ 0) : 1 ≤ (tokL wk l).2 ∧ (tokL wk l).2 ≤ l.length := by
  revert h
  unfold tokL
  split
  · rename_i h; intro _; exact ⟨by show 1 ≤ runL l; omega, runL_le l⟩
  · split
    · rename_i s hs
      obtain ⟨h1, h2⟩ := sign_mem hs
      intro _
      exact ⟨(sign_pos h1).1, h2.length_le⟩
    · intro h; simp at h
theorem lexF_fuel : ∀ (f g a : Nat) (l : List UInt8), l.length ≤ f → l.length ≤ g → lexF wk f a l = lexF wk g a l
  | 0, g, a, l, hf, hg => by
    obtain rfl : l = [] := List.eq_nil_of_length_eq_zero (by omega)
    cases g with
    | zero => rfl
    | succ g => simp [lexF]
  | f + 1, 0, a, l, hf, hg => by
    obtain rfl : l = [] := List.eq_nil_of_length_eq_zero (by omega)
    simp [lexF]
  | f + 1, g + 1, a, l, hf, hg => by
    unfold lexF
    split
    · rfl
    · split
      · rfl
      · rename_i h1 h2
        have h3 := tokL_len _ h2
        have h4 : ((l.drop (skipG false l)).drop (tokL wk (l.drop (skipG false l))).2).length ≤ l.length - 1 := by
          simp only [List.length_drop] at h3 ⊢; omega
        rw [lexF_fuel f g _ _ (by omega) (by omega)]
theorem lexA_nil (a : Nat) (l : List UInt8) (h : l.drop (skipG false l) = []) : lexA wk a l = ([], none) := by
  unfold lexA
  cases l with
  | nil => rfl
  | cons c r => simp only [List.length_cons]; unfold lexF; rw [if_pos h]
theorem lexA_bad (a : Nat) (l : List UInt8) (h : l.drop (skipG false l) ≠ []) (h0 : (tokL wk (l.drop (skipG false l))).1 = 0) : lexA wk a l = ([], some (a + skipG false l)) := by
  unfold lexA
  cases l with
  | nil => simp at h
  | cons c r => simp only [List.length_cons]; unfold lexF; rw [if_neg h, if_pos h0]
theorem lexA_tok (a : Nat) (l : List UInt8) (h : l.drop (skipG false l) ≠ []) (h0 : (tokL wk (l.drop (skipG false l))).1 ≠ 0) :
    lexA wk a l = (⟨(tokL wk (l.drop (skipG false l))).1, (l.drop (skipG false l)).take (tokL wk (l.drop (skipG false l))).2, a + skipG false l⟩ ::
      (lexA wk (a + skipG false l + (tokL wk (l.drop (skipG false l))).2) ((l.drop (skipG false l)).drop (tokL wk (l.drop (skipG false l))).2)).1,
      (lexA wk (a + skipG false l + (tokL wk (l.drop (skipG false l))).2) ((l.drop (skipG false l)).drop (tokL wk (l.drop (skipG false l))).2)).2) := by
  have h3 := tokL_len _ h0
  unfold lexA
  cases l with
  | nil => simp at h
  | cons c r =>
    rw [show (c :: r).length = r.length + 1 from rfl]
    conv => lhs; unfold lexF
    rw [if_neg h, if_neg h0]
    have h4 : (((c :: r).drop (skipG false (c :: r))).drop (tokL wk ((c :: r).drop (skipG false (c :: r)))).2).length ≤ r.length := by
      simp only [List.length_drop, List.length_cons] at h3 ⊢; omega
    rw [lexF_fuel r.length _ _ _ h4 (Nat.le_refl _)]
theorem skip_note : ∀ l : List UInt8, skipG true l = (l.takeWhile (· != 10)).length + skipG false (l.drop (l.takeWhile (· != 10)).length)
  | [] => by simp [skipG]
  | c :: r => by
    by_cases h : c = 10
    · subst h; simp [skipG, blankB]
    · have h1 := skip_note r
      rw [skipG, if_neg h, h1]
      simp [h]; omega
theorem lex_places : ∀ (n a : Nat) (l : List UInt8), l.length ≤ n → ∀ q ∈ (lexA wk a l).1, a ≤ q.a ∧ q.a + q.t.length ≤ a + l.length ∧ (l.drop (q.a - a)).take q.t.length = q.t
  | 0, a, l, hn, q, hq => by
    obtain rfl : l = [] := List.eq_nil_of_length_eq_zero (by omega)
    simp [lexA, lexF] at hq
  | n + 1, a, l, hn, q, hq => by
    by_cases h : l.drop (skipG false l) = []
    · rw [lexA_nil _ _ h] at hq; simp at hq
    by_cases h0 : (tokL wk (l.drop (skipG false l))).1 = 0
    · rw [lexA_bad _ _ h h0] at hq; simp at hq
    have h3 := tokL_len _ h0
    rw [lexA_tok _ _ h h0] at hq
    simp only [List.length_drop] at h3
    have h6 := skipG_le l false
    rcases List.mem_cons.1 hq with rfl | hq
    · refine ⟨by simp, ?_, ?_⟩
      · simp only [List.length_take, List.length_drop]; omega
      · simp only [List.length_take, List.length_drop, Nat.add_sub_cancel_left]
        rw [Nat.min_eq_left (by omega)]
    · obtain ⟨q1, q2, q3⟩ := lex_places n _ _ (by simp only [List.length_drop]; omega) q hq
      simp only [List.length_drop] at q2
      refine ⟨by omega, by omega, ?_⟩
      rw [List.drop_drop, List.drop_drop] at q3
      rw [← q3]
      congr 2
      · omega
theorem lex_len : ∀ (n a : Nat) (l : List UInt8), l.length ≤ n → ((lexA wk a l).1.map fun q => q.t.length).sum ≤ l.length ∧ (lexA wk a l).1.length ≤ l.length
  | 0, a, l, hn => by
    obtain rfl : l = [] := List.eq_nil_of_length_eq_zero (by omega)
    simp [lexA, lexF]
  | n + 1, a, l, hn => by
    by_cases h : l.drop (skipG false l) = []
    · rw [lexA_nil _ _ h]; simp
    by_cases h0 : (tokL wk (l.drop (skipG false l))).1 = 0
    · rw [lexA_bad _ _ h h0]; simp
    have h3 := tokL_len _ h0
    simp only [List.length_drop] at h3
    have h6 := skipG_le l false
    obtain ⟨q1, q2⟩ := lex_len n (a + skipG false l + (tokL wk (l.drop (skipG false l))).2) ((l.drop (skipG false l)).drop (tokL wk (l.drop (skipG false l))).2) (by simp only [List.length_drop]; omega)
    rw [lexA_tok _ _ h h0]
    simp only [List.length_drop] at q1 q2
    simp only [List.map_cons, List.sum_cons, List.length_cons, List.length_take, List.length_drop]
    omega
def TextOf (wk : List UInt8 → Int) (q : Int) (t : List UInt8) : Prop := q ≠ 0 ∧ ((q = wk t ∧ t ≠ [] ∧ (∀ c ∈ t, insB c = true) ∧ t.head? ≠ some 95) ∨ (q = 5 ∧ t ∈ signsL))
theorem takeWhile_all {p : UInt8 → Bool} : ∀ (l : List UInt8) (c : UInt8), c ∈ l.takeWhile p → p c = true
  | [], c, h => by simp at h
  | d :: r, c, h => by
    rw [List.takeWhile_cons] at h
    split at h
    · rcases List.mem_cons.1 h with rfl | h
      · assumption
      · exact takeWhile_all r c h
    · simp at h
theorem take_run (l : List UInt8) : l.take (runL l) = l.takeWhile insB := by
  unfold runL
  exact (List.prefix_iff_eq_take.1 (List.takeWhile_prefix insB)).symm
theorem tok_text (l : List UInt8) (h : (tokL wk l).1 ≠ 0) : TextOf wk (tokL wk l).1 (l.take (tokL wk l).2) := by
  refine ⟨h, ?_⟩
  revert h
  unfold tokL
  split
  · rename_i h
    intro _
    refine .inl ⟨rfl, ?_, ?_, ?_⟩
    · intro he
      have := congrArg List.length he
      have h2 := runL_le l
      simp only [List.length_take, List.length_nil] at this; omega
    · intro c hc
      simp only [take_run] at hc
      exact takeWhile_all _ _ hc
    · cases l with
      | nil => simp [runL] at h
      | cons c r =>
        have h1 := h.1
        have h2 := h.2
        obtain ⟨k, hk⟩ : ∃ k, runL (c :: r) = k + 1 := ⟨runL (c :: r) - 1, by omega⟩
        simp only [hk, List.take_succ_cons]
        simpa using h2
  · split
    · rename_i s hs
      obtain ⟨h1, h2⟩ := sign_mem hs
      intro _
      refine .inr ⟨rfl, ?_⟩
      show l.take s.length ∈ signsL
      rw [← List.prefix_iff_eq_take.1 h2]; exact h1
    · intro h; simp at h
theorem lex_texts : ∀ (n a : Nat) (l : List UInt8), l.length ≤ n → ∀ q ∈ (lexA wk a l).1, TextOf wk q.k q.t
  | 0, a, l, hn, q, hq => by
    obtain rfl : l = [] := List.eq_nil_of_length_eq_zero (by omega)
    simp [lexA, lexF] at hq
  | n + 1, a, l, hn, q, hq => by
    by_cases h : l.drop (skipG false l) = []
    · rw [lexA_nil _ _ h] at hq; simp at hq
    by_cases h0 : (tokL wk (l.drop (skipG false l))).1 = 0
    · rw [lexA_bad _ _ h h0] at hq; simp at hq
    have h3 := tokL_len _ h0
    rw [lexA_tok _ _ h h0] at hq
    simp only [List.length_drop] at h3
    rcases List.mem_cons.1 hq with rfl | hq
    · exact tok_text _ h0
    · exact lex_texts n _ _ (by simp only [List.length_drop]; omega) q hq
theorem skip_idem : ∀ (l : List UInt8) (b : Bool), skipG false (l.drop (skipG b l)) = 0
  | [], b => by simp [skipG]
  | c :: r, true => by
    have h1 := skip_idem r false; have h2 := skip_idem r true
    by_cases h : c = 10
    · have e : skipG true (c :: r) = skipG false r + 1 := by simp [skipG, h]; omega
      rw [e, List.drop_succ_cons, h1]
    · have e : skipG true (c :: r) = skipG true r + 1 := by simp [skipG, h]; omega
      rw [e, List.drop_succ_cons, h2]
  | c :: r, false => by
    have h1 := skip_idem r false; have h2 := skip_idem r true
    by_cases h : blankB c = true
    · have e : skipG false (c :: r) = skipG false r + 1 := by simp [skipG, h]; omega
      rw [e, List.drop_succ_cons, h1]
    · by_cases h3 : c = 37
      · have h4 : blankB 37 = false := by decide
        have e : skipG false (c :: r) = skipG true r + 1 := by simp [skipG, h3, h4]; omega
        rw [e, List.drop_succ_cons, h2]
      · have e : skipG false (c :: r) = 0 := by simp [skipG, h, h3]
        rw [e]; exact e
theorem lexA_adv {l : List UInt8} {k : Nat} (hk : skipG false l = k + skipG false (l.drop k)) (a : Nat) : lexA wk a l = lexA wk (a + k) (l.drop k) := by
  have e : l.drop (skipG false l) = (l.drop k).drop (skipG false (l.drop k)) := by rw [List.drop_drop, ← hk]
  have e2 : a + skipG false l = a + k + skipG false (l.drop k) := by omega
  by_cases h : l.drop (skipG false l) = []
  · rw [lexA_nil a l h, lexA_nil (a + k) (l.drop k) (by rw [← e]; exact h)]
  by_cases h0 : (tokL wk (l.drop (skipG false l))).1 = 0
  · rw [lexA_bad a l h h0, lexA_bad (a + k) (l.drop k) (by rw [← e]; exact h) (by rw [← e]; exact h0), e2]
  · rw [lexA_tok a l h h0, lexA_tok (a + k) (l.drop k) (by rw [← e]; exact h) (by rw [← e]; exact h0), e2, e]
theorem lexA_skip (l : List UInt8) (a : Nat) : lexA wk a l = lexA wk (a + skipG false l) (l.drop (skipG false l)) := lexA_adv (by rw [skip_idem]; rfl) a
/-- at a token's place -/
theorem lexA_at {l : List UInt8} (hl : l ≠ []) (hs : skipG false l = 0) (a : Nat) :
    lexA wk a l = if (tokL wk l).1 = 0 then ([], some a) else
      (⟨(tokL wk l).1, l.take (tokL wk l).2, a⟩ :: (lexA wk (a + (tokL wk l).2) (l.drop (tokL wk l).2)).1, (lexA wk (a + (tokL wk l).2) (l.drop (tokL wk l).2)).2) := by
  have e : l.drop (skipG false l) = l := by rw [hs]; rfl
  split
  · rename_i h; rw [lexA_bad _ _ (by rw [e]; exact hl) (by rw [e]; exact h), hs]; rfl
  · rename_i h; rw [lexA_tok _ _ (by rw [e]; exact hl) (by rw [e]; exact h), e, hs]; rfl
theorem skip_one {c : UInt8} {r : List UInt8} (h : blankB c = true) : skipG false (c :: r) = 1 + skipG false r := by simp [skipG, h]
theorem skip_per (r : List UInt8) : skipG false (37 :: r) = ((37 :: r).takeWhile (· != 10)).length + skipG false ((37 :: r).drop ((37 :: r).takeWhile (· != 10)).length) := by
  have h4 : blankB 37 = false := by decide
  rw [show skipG false (37 :: r) = 1 + skipG true r by simp [skipG, h4], skip_note r]
  simp; omega
theorem skip_zero {c : UInt8} {r : List UInt8} (h : blankB c = false) (h2 : c ≠ 37) : skipG false (c :: r) = 0 := by simp [skipG, h, h2]
end Go.Proofs.YtplekbpmfaghbaaDoor
