/- A text and the same tokens with other blanks and notes between are parsed alike. Plain. -/
import Derived.Test.YtplekbpmfaghbaaGreatDoorPbA
namespace Go.Proofs.YtplekbpmfaghbaaGreatDoor
open Go.RowKit

/-! ### other blanks and notes between tokens -/
def gapS (g : Nat) : List UInt8 := if g = 0 then [32] else if g = 1 then [10] else if g = 2 then [37, 120, 10] else [9, 32, 13]
def gapT (f : Nat → Nat) : Nat → List GTok → List UInt8
  | _, [] => []
  | i, q :: l => q.t ++ (gapS (f i) ++ gapT f (i + 1) l)
/-- at the end, or ahead of what is skipped -/
def CutG (r : List UInt8) : Prop := r = [] ∨ ∃ r', r = 32 :: r' ∨ r = 10 :: r' ∨ r = 37 :: r' ∨ r = 9 :: r'
section
variable {wk : List UInt8 → Int}
theorem gap_cut (g : Nat) (r : List UInt8) : CutG (gapS g ++ r) := by
  unfold gapS
  split
  · exact .inr ⟨r, .inl rfl⟩
  · split
    · exact .inr ⟨r, .inr (.inl rfl)⟩
    · split
      · exact .inr ⟨120 :: 10 :: r, .inr (.inr (.inl rfl))⟩
      · exact .inr ⟨32 :: 13 :: r, .inr (.inr (.inr rfl))⟩
theorem takeWhile_gap {t r : List UInt8} (h : ∀ c ∈ t, insB c = true) (hr : CutG r) : (t ++ r).takeWhile insB = t := by
  induction t with
  | nil => rcases hr with rfl | ⟨r', rfl | rfl | rfl | rfl⟩ <;> rfl
  | cons c t ih =>
    rw [List.cons_append, List.takeWhile_cons, h c (List.mem_cons_self ..)]
    simp only [if_true]
    rw [ih fun d hd => h d (List.mem_cons_of_mem _ hd)]
theorem text_gap {q : Int} {t : List UInt8} (h : TextOf wk q t) {r : List UInt8} (hr : CutG r) : tokL wk (t ++ r) = (q, t.length) := by
  rcases h.2 with ⟨h0, h1, h2, h3⟩ | ⟨h0, h1⟩
  · have e := takeWhile_gap h2 hr
    have e1 : runL (t ++ r) = t.length := by unfold runL; rw [e]
    have e2 : (t ++ r).head? = t.head? := by cases t with
      | nil => exact absurd rfl h1
      | cons c t => rfl
    unfold tokL
    rw [e1, e2, if_pos ⟨List.length_pos_iff.2 h1, h3⟩]
    simp [h0]
  · subst h0
    simp only [signsL, List.mem_cons, List.not_mem_nil, or_false] at h1
    rcases hr with rfl | ⟨r', rfl | rfl | rfl | rfl⟩ <;>
    rcases h1 with rfl | rfl | rfl | rfl | rfl | rfl | rfl | rfl | rfl | rfl | rfl | rfl | rfl | rfl <;> simp [tokL, runL, insB, signsL, List.find?, List.isPrefixOf]
theorem gap_skip (g : Nat) (r : List UInt8) : skipG false (gapS g ++ r) = (gapS g).length + skipG false r := by
  unfold gapS
  split
  · simp [skipG, blankB]
  · split
    · simp [skipG, blankB]
    · split
      · simp [skipG, blankB]; omega
      · simp [skipG, blankB]; omega
theorem lexA_gap (g a : Nat) (r : List UInt8) : lexA wk a (gapS g ++ r) = lexA wk (a + (gapS g).length) r := by
  have e : (gapS g ++ r).drop (gapS g).length = r := by simp
  have h := lexA_adv (wk := wk) (l := gapS g ++ r) (k := (gapS g).length) (by rw [e]; exact gap_skip g r) a
  rw [e] at h
  exact h
theorem lex_gaps (f : Nat → Nat) : ∀ (l : List GTok) (i a : Nat), (∀ q ∈ l, TextOf wk q.k q.t) → (lexA wk a (gapT f i l)).2 = none ∧ Same (lexA wk a (gapT f i l)).1 l
  | [], i, a, h => by simp [gapT, lexA, lexF, Same]
  | q :: l, i, a, h => by
    have ht := h q (List.mem_cons_self ..)
    obtain ⟨hne, hsk⟩ := text_skip ht (gapS (f i) ++ gapT f (i + 1) l)
    have htk := text_gap ht (gap_cut (f i) (gapT f (i + 1) l))
    have hrec := lex_gaps f l (i + 1) (a + q.t.length + (gapS (f i)).length) fun p hp => h p (List.mem_cons_of_mem _ hp)
    rw [gapT]
    rw [lexA_at (by simp [hne]) hsk, htk, if_neg ht.1]
    simp only [List.take_left', List.drop_left']
    rw [lexA_gap]
    refine ⟨hrec.1, ?_⟩
    unfold Same
    simp only [List.map_cons]
    rw [hrec.2]
end
/-- all of it: a text and the same tokens with other gaps -/
theorem gaps_whole {l : List UInt8} (f : Nat → Nat) (h1 : l.length ≤ 4000) (h2 : (gapT f 0 (lexS l).1).length ≤ 4000) (hn : (lexS l).2 = none) :
    (wholeP (⟨[], []⟩ : GProg) (fun T E s => programP T E s) l).2.2 = (wholeP (⟨[], []⟩ : GProg) (fun T E s => programP T E s) (gapT f 0 (lexS l).1)).2.2 ∧ (wholeP (⟨[], []⟩ : GProg) (fun T E s => programP T E s) l).1.e = (wholeP (⟨[], []⟩ : GProg) (fun T E s => programP T E s) (gapT f 0 (lexS l).1)).1.e := by
  obtain ⟨e1, e2⟩ := lex_gaps f (lexS l).1 0 0 (fun q hq => lex_texts l.length 0 l (Nat.le_refl _) q hq)
  exact whole_r h1 h2 hn e1 e2.symm
theorem gapT_snoc (f : Nat → Nat) : ∀ (l : List GTok) (i : Nat) (q : GTok), gapT f i (l ++ [q]) = gapT f i l ++ (q.t ++ gapS (f (i + l.length)))
  | [], i, q => by simp [gapT]
  | x :: l, i, q => by
    rw [List.cons_append, gapT, gapT, gapT_snoc f l]
    simp [Nat.add_comm 1, Nat.add_assoc]
theorem gapT_take {f : Nat → Nat} {l : List GTok} {k : Nat} {q : GTok} (h : l[k]? = some q) : gapT f 0 (l.take (k + 1)) = gapT f 0 (l.take k) ++ (q.t ++ gapS (f k)) := by
  have hk : k < l.length := (List.getElem?_eq_some_iff.1 h).1
  rw [List.take_add_one, h]
  simp only [Option.toList_some]
  rw [gapT_snoc, List.length_take, Nat.min_eq_left (by omega), Nat.zero_add]
theorem gapS_len (g : Nat) : (gapS g).length ≤ 3 := by
  unfold gapS
  repeat' split
  all_goals simp
end Go.Proofs.YtplekbpmfaghbaaGreatDoor
