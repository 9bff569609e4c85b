/- The parser reads the same of the same tokens, wherever they stand: all its readers, side by side. Plain. -/
import Derived.Test.YtplekbpmfaghbaaGreatDoorMp10
namespace Go.Proofs.YtplekbpmfaghbaaGreatDoor
open Go.RowKit

/-! ### what a reader makes of the same tokens at other places -/
def GLit.e (l : GLit) : GLit := ⟨l.k, l.atom, l.op, l.l, l.r, 0⟩
def GRule.e (r : GRule) : GRule := ⟨r.head, r.agg, r.col, r.body.map GLit.e, 0⟩
def GDecl.e (d : GDecl) : GDecl := ⟨d.rel, d.kinds, 0⟩
def GProg.e (p : GProg) : GProg := ⟨p.decls.map GDecl.e, p.rules.map GRule.e⟩
/-- states alike but for the place of the failure -/
def SR (s s' : PS) : Prop := s.next = s'.next ∧ s.deep = s'.deep ∧ s.err = s'.err
/-- states alike, values that R relates -/
def PR {σ : Type} (R : σ → σ → Prop) (x x' : PS × σ) : Prop := SR x.1 x'.1 ∧ R x.2 x'.2
section
variable {T T' : List GTok} {E E' : Nat}
theorem peek_r (h : Same T T') {s s' : PS} (hs : SR s s') (k : Nat) : (peekP T E s k).k = (peekP T' E' s' k).k ∧ (peekP T E s k).t = (peekP T' E' s' k).t := by
  unfold peekP
  rw [hs.1]
  have h2 : (T.map (fun q => (q.k, q.t)))[s'.next + k]? = (T'.map (fun q => (q.k, q.t)))[s'.next + k]? := by rw [h]
  rw [List.getElem?_map, List.getElem?_map] at h2
  cases h3 : T[s'.next + k]? <;> cases h4 : T'[s'.next + k]? <;> rw [h3, h4] at h2 <;> simp at h2 ⊢
  exact h2
theorem len_r (h : Same T T') : T.length = T'.length := by
  have := congrArg List.length h
  simpa using this
theorem is_r (h : Same T T') {s s' : PS} (hs : SR s s') (t : List UInt8) : isP T E s t = isP T' E' s' t := by
  obtain ⟨h1, h2⟩ := peek_r (E := E) (E' := E') h hs 0
  unfold isP
  rw [h1, h2]
theorem up_r {s s' : PS} (hs : SR s s') : SR s.up s'.up := ⟨by unfold PS.up; rw [hs.1], hs.2.1, hs.2.2⟩
theorem fail_r (h : Same T T') {s s' : PS} (hs : SR s s') (a a' : Nat) (e : Int) : SR (failP T s a e) (failP T' s' a' e) := by
  unfold failP
  rw [hs.2.2]
  split
  · exact ⟨len_r h, hs.2.1, rfl⟩
  · exact hs
theorem want_r (h : Same T T') {s s' : PS} (hs : SR s s') (t : List UInt8) : SR (wantP T E s t) (wantP T' E' s' t) := by
  unfold wantP
  rw [is_r (E := E) (E' := E') h hs t]
  split
  · exact up_r hs
  · exact fail_r h hs _ _ _
theorem may_r (h : Same T T') {s s' : PS} (hs : SR s s') (t : List UInt8) : SR (mayP T E s t) (mayP T' E' s' t) := by
  unfold mayP
  rw [is_r (E := E) (E' := E') h hs t]
  split
  · exact up_r hs
  · exact hs
theorem take_r (h : Same T T') {s s' : PS} (hs : SR s s') (k : Int) : SR (takeP T E s k) (takeP T' E' s' k) := by
  unfold takeP
  rw [(peek_r (E := E) (E' := E') h hs 0).1]
  split
  · exact up_r hs
  · exact fail_r h hs _ _ _
theorem takeT_r (h : Same T T') {s s' : PS} (hs : SR s s') (k : Int) : takeT T E s k = takeT T' E' s' k := by
  obtain ⟨h1, h2⟩ := peek_r (E := E) (E' := E') h hs 0
  unfold takeT
  rw [h1, h2]
theorem loop_r {σ : Type} {R : σ → σ → Prop} (h : Same T T') (most : Nat) {rd rd' : Nat → PS × σ → PS × σ} (hr : ∀ i x x', PR R x x' → PR R (rd i x) (rd' i x')) : ∀ (f i : Nat) (x x' : PS × σ), PR R x x' → PR R (loopP T E most rd f i x) (loopP T' E' most rd' f i x')
  | 0, _, _, _, hx => hx
  | f + 1, i, x, x', hx => by
    have h1 := hr i x x' hx
    unfold loopP
    rw [hx.1.2.2, is_r (E := E) (E' := E') h h1.1]
    split
    · exact hx
    · split
      · exact ⟨fail_r h hx.1 _ _ _, hx.2⟩
      · split
        · exact loop_r h most hr f (i + 1) _ _ ⟨up_r h1.1, h1.2⟩
        · exact h1
theorem commas_r {σ : Type} {R : σ → σ → Prop} (h : Same T T') (most : Nat) {rd rd' : Nat → PS × σ → PS × σ} (hr : ∀ i x x', PR R x x' → PR R (rd i x) (rd' i x')) {x x' : PS × σ} (hx : PR R x x') : PR R (commasP T E most rd x) (commasP T' E' most rd' x') := by
  have h1 := want_r (E := E) (E' := E') h hx.1 [40]
  have h2 := loop_r (E := E) (E' := E') h most hr (most + 1) 0 (wantP T E x.1 [40], x.2) (wantP T' E' x'.1 [40], x'.2) ⟨h1, hx.2⟩
  unfold commasP
  rw [is_r (E := E) (E' := E') h h1]
  split
  · exact ⟨up_r h1, hx.2⟩
  · exact ⟨want_r h h2.1 _, h2.2⟩
theorem term_r (h : Same T T') {s s' : PS} (hs : SR s s') : PR Eq (termP T E s) (termP T' E' s') := by
  have h1 := may_r (E := E) (E' := E') h hs [45]
  obtain ⟨h2, h3⟩ := peek_r (E := E) (E' := E') h h1 0
  unfold termP
  dsimp only
  rw [h2, h3, is_r (E := E) (E' := E') h hs]
  repeat' split
  all_goals first
    | exact ⟨up_r h1, rfl⟩
    | exact ⟨fail_r h h1 _ _ _, rfl⟩
theorem args_r (h : Same T T') (i : Nat) (x x' : PS × List GTold) (hx : PR Eq x x') : PR Eq (argsR T E i x) (argsR T' E' i x') := by
  have h1 := term_r (E := E) (E' := E') h hx.1
  exact ⟨h1.1, by show x.2 ++ _ = x'.2 ++ _; rw [hx.2, h1.2]⟩
theorem atom_r (h : Same T T') {s s' : PS} (hs : SR s s') : PR Eq (atomP T E s) (atomP T' E' s') := by
  have h1 := commas_r (E := E) (E' := E') h 6 (args_r (E := E) (E' := E') h) (x := (takeP T E s 2, [])) (x' := (takeP T' E' s' 2, [])) ⟨take_r h hs 2, rfl⟩
  unfold atomP
  exact ⟨h1.1, by dsimp only; rw [h1.2, takeT_r (E := E) (E' := E') h hs]⟩
theorem headR_r (h : Same T T') (i : Nat) (x x' : PS × PH) (hx : PR Eq x x') : PR Eq (headR T E i x) (headR T' E' i x') := by
  obtain ⟨h2, h3⟩ := peek_r (E := E) (E' := E') h hx.1 0
  have h1 := term_r (E := E) (E' := E') h hx.1
  have hv := hx.2
  unfold headR
  dsimp only
  rw [h2, h3, ← hv]
  split
  · have h4 : SR (if 0 < x.2.agg then failP T x.1 (peekP T E x.1 0).a 2 else x.1) (if 0 < x.2.agg then failP T' x'.1 (peekP T' E' x'.1 0).a 2 else x'.1) := by
      split
      · exact fail_r h hx.1 _ _ _
      · exact hx.1
    have h5 := want_r (E := E) (E' := E') h (want_r (E := E) (E' := E') h h4 (peekP T' E' x'.1 0).t) [40]
    refine ⟨want_r h (take_r h h5 3) _, ?_⟩
    dsimp only
    rw [takeT_r (E := E) (E' := E') h h5]
  · exact ⟨h1.1, by dsimp only; rw [h1.2]⟩
theorem head_r (h : Same T T') {s s' : PS} (hs : SR s s') : PR Eq (headP T E s) (headP T' E' s') :=
  commas_r h 6 (headR_r (E := E) (E' := E') h) ⟨take_r h hs 2, rfl⟩
/-- readers of expressions that make the same of the same -/
def RR (f f' : PS → PS × GExp) : Prop := ∀ s s', SR s s' → PR Eq (f s) (f' s')
theorem operand_r (h : Same T T') {i i' : Option (PS → PS × GExp)} (hi : (i = none ∧ i' = none) ∨ ∃ f f', i = some f ∧ i' = some f' ∧ RR f f') : RR (operandP T E i) (operandP T' E' i') := by
  intro s s' hs
  have h1 := term_r (E := E) (E' := E') h hs
  unfold operandP
  rw [is_r (E := E) (E' := E') h hs]
  split
  · rcases hi with ⟨rfl, rfl⟩ | ⟨f, f', rfl, rfl, hf⟩
    · exact ⟨fail_r h hs _ _ _, rfl⟩
    · have h2 := hf _ _ (want_r (E := E) (E' := E') h (s := ⟨s.next, s.deep + 1, s.pl, s.err⟩) (s' := ⟨s'.next, s'.deep + 1, s'.pl, s'.err⟩) ⟨hs.1, by show _ + 1 = _ + 1; rw [hs.2.1], hs.2.2⟩ [40])
      have h3 := want_r (E := E) (E' := E') h h2.1 [41]
      exact ⟨⟨h3.1, by show _ - 1 = _ - 1; rw [h3.2.1], h3.2.2⟩, h2.2⟩
  · exact ⟨h1.1, by rw [h1.2]⟩
theorem prodL_r (h : Same T T') {o o' : PS → PS × GExp} (ho : RR o o') : ∀ (f : Nat) (x x' : PS × GExp), PR Eq x x' → PR Eq (prodL T E o f x) (prodL T' E' o' f x')
  | 0, _, _, hx => hx
  | f + 1, x, x', hx => by
    have h1 := ho _ _ (up_r hx.1)
    unfold prodL
    rw [is_r (E := E) (E' := E') h hx.1]
    split
    · exact prodL_r h ho f _ _ ⟨h1.1, by dsimp only; rw [hx.2, h1.2]⟩
    · exact hx
theorem product_r (h : Same T T') {o o' : PS → PS × GExp} (ho : RR o o') : RR (productP T E o) (productP T' E' o') := by
  intro s s' hs
  unfold productP
  rw [len_r h]
  exact prodL_r h ho _ _ _ (ho _ _ hs)
theorem sumL_r (h : Same T T') {o o' : PS → PS × GExp} (ho : RR o o') : ∀ (f : Nat) (x x' : PS × GExp), PR Eq x x' → PR Eq (sumL T E o f x) (sumL T' E' o' f x')
  | 0, _, _, hx => hx
  | f + 1, x, x', hx => by
    have h1 := ho _ _ (up_r hx.1)
    unfold sumL
    rw [is_r (E := E) (E' := E') h hx.1, is_r (E := E) (E' := E') h hx.1]
    split
    · exact sumL_r h ho f _ _ ⟨h1.1, by dsimp only; rw [hx.2, h1.2]⟩
    · split
      · exact sumL_r h ho f _ _ ⟨h1.1, by dsimp only; rw [hx.2, h1.2]⟩
      · exact hx
theorem sumOf_r (h : Same T T') {o o' : PS → PS × GExp} (ho : RR o o') : RR (sumOf T E o) (sumOf T' E' o') := by
  intro s s' hs
  unfold sumOf
  rw [len_r h]
  exact sumL_r h (product_r h ho) _ _ _ (product_r h ho _ _ hs)
theorem sum_r (h : Same T T') : ∀ n, RR (sumP T E n) (sumP T' E' n)
  | 0 => sumOf_r h (operand_r h (.inl ⟨rfl, rfl⟩))
  | n + 1 => sumOf_r h (operand_r h (.inr ⟨_, _, rfl, rfl, sum_r h n⟩))
def LitR (a b : GLit) : Prop := a.e = b.e
theorem compared_r (h : Same T T') (p p' : Nat) {s s' : PS} (hs : SR s s') : PR LitR (comparedP T E p s) (comparedP T' E' p' s') := by
  have h1 := sum_r (E := E) (E' := E') h 20 _ _ hs
  obtain ⟨h2, h3⟩ := peek_r (E := E) (E' := E') h h1.1 0
  have h4 := sum_r (E := E) (E' := E') h 20 _ _ (want_r (E := E) (E' := E') h h1.1 (peekP T' E' (sumP T' E' 20 s').1 0).t)
  unfold comparedP
  dsimp only
  rw [h2, h3]
  split
  · rw [h4.1.2.2, h4.2, h1.2]
    refine ⟨?_, rfl⟩
    dsimp only
    split
    · exact fail_r h h4.1 _ _ _
    · exact h4.1
  · refine ⟨fail_r h h1.1 _ _ _, ?_⟩
    dsimp only
    rw [h1.2]; rfl
theorem literal_r (h : Same T T') {s s' : PS} (hs : SR s s') : PR LitR (literalP T E s) (literalP T' E' s') := by
  have h1 := atom_r (E := E) (E' := E') h hs
  have h2 := atom_r (E := E) (E' := E') h (up_r hs)
  obtain ⟨a1, a2⟩ := peek_r (E := E) (E' := E') h hs 0
  obtain ⟨b1, b2⟩ := peek_r (E := E) (E' := E') h hs 1
  unfold literalP
  dsimp only
  rw [is_r (E := E) (E' := E') h hs, a1, b1, b2]
  split
  · exact ⟨h2.1, by dsimp only; rw [h2.2]; rfl⟩
  · split
    · exact ⟨h1.1, by dsimp only; rw [h1.2]; rfl⟩
    · exact compared_r h _ _ hs
def LitsR (a b : List GLit) : Prop := a.map GLit.e = b.map GLit.e
theorem bodyR_r (h : Same T T') (i : Nat) (x x' : PS × List GLit) (hx : PR LitsR x x') : PR LitsR (bodyR T E i x) (bodyR T' E' i x') := by
  have h1 := literal_r (E := E) (E' := E') h hx.1
  refine ⟨h1.1, ?_⟩
  show List.map _ (x.2 ++ _) = List.map _ (x'.2 ++ _)
  rw [List.map_append, List.map_append, show x.2.map GLit.e = x'.2.map GLit.e from hx.2]
  simp only [List.map_cons, List.map_nil]
  rw [show (literalP T E x.1).2.e = (literalP T' E' x'.1).2.e from h1.2]
theorem body_r (h : Same T T') {s s' : PS} (hs : SR s s') : PR LitsR (bodyP T E s) (bodyP T' E' s') := by
  unfold bodyP
  rw [is_r (E := E) (E' := E') h hs]
  split
  · exact loop_r h 8 (bodyR_r (E := E) (E' := E') h) 9 0 _ _ ⟨up_r hs, rfl⟩
  · exact ⟨hs, rfl⟩
theorem rule_r (h : Same T T') {s s' : PS} (hs : SR s s') : PR (fun a b => a.e = b.e) (ruleP T E s) (ruleP T' E' s') := by
  have h1 := head_r (E := E) (E' := E') h hs
  have h2 := body_r (E := E) (E' := E') h h1.1
  refine ⟨want_r h h2.1 _, ?_⟩
  have h3 : (bodyP T E (headP T E s).1).2.map GLit.e = (bodyP T' E' (headP T' E' s').1).2.map GLit.e := h2.2
  simp only [ruleP, GRule.e, h3, h1.2, takeT_r (E := E) (E' := E') h hs]
theorem kind_r (h : Same T T') (i : Nat) (x x' : PS × List Int) (hx : PR Eq x x') : PR Eq (kindR T E i x) (kindR T' E' i x') := by
  unfold kindR
  rw [is_r (E := E) (E' := E') h hx.1, hx.2]
  split
  · exact ⟨up_r hx.1, rfl⟩
  · exact ⟨want_r h hx.1 _, rfl⟩
theorem decl_r (h : Same T T') {s s' : PS} (hs : SR s s') : PR (fun a b => a.e = b.e) (declP T E s) (declP T' E' s') := by
  have h0 := want_r (E := E) (E' := E') h hs relW
  have h1 := commas_r (E := E) (E' := E') h 6 (kind_r (E := E) (E' := E') h) (x := (takeP T E (wantP T E s relW) 2, [])) (x' := (takeP T' E' (wantP T' E' s' relW) 2, [])) ⟨take_r h h0 2, rfl⟩
  refine ⟨want_r h h1.1 _, ?_⟩
  simp only [declP, GDecl.e, h1.2, takeT_r (E := E) (E' := E') h h0]
def ProgR (a b : GProg) : Prop := a.e = b.e
theorem progL_r (h : Same T T') : ∀ (f : Nat) (x x' : PS × GProg), PR ProgR x x' → PR ProgR (progL T E f x) (progL T' E' f x')
  | 0, _, _, hx => hx
  | f + 1, x, x', hx => by
    have hd := decl_r (E := E) (E' := E') h hx.1
    have hr := rule_r (E := E) (E' := E') h hx.1
    have e1 : x.2.decls.map GDecl.e = x'.2.decls.map GDecl.e := congrArg GProg.decls (show x.2.e = x'.2.e from hx.2)
    have e2 : x.2.rules.map GRule.e = x'.2.rules.map GRule.e := congrArg GProg.rules (show x.2.e = x'.2.e from hx.2)
    have l1 : x.2.decls.length = x'.2.decls.length := by simpa using congrArg List.length e1
    have l2 : x.2.rules.length = x'.2.rules.length := by simpa using congrArg List.length e2
    unfold progL
    rw [hx.1.2.2, hx.1.1, len_r h, is_r (E := E) (E' := E') h hx.1, l1, l2]
    split
    · split
      · split
        · exact ⟨fail_r h hx.1 _ _ _, hx.2⟩
        · refine progL_r h f _ _ ⟨hd.1, ?_⟩
          simp only [ProgR, GProg.e, List.map_append, e1, e2, List.map_cons, List.map_nil]
          rw [show (declP T E x.1).2.e = (declP T' E' x'.1).2.e from hd.2]
      · split
        · exact ⟨fail_r h hx.1 _ _ _, hx.2⟩
        · refine progL_r h f _ _ ⟨hr.1, ?_⟩
          simp only [ProgR, GProg.e, List.map_append, e1, e2, List.map_cons, List.map_nil]
          rw [show (ruleP T E x.1).2.e = (ruleP T' E' x'.1).2.e from hr.2]
    · exact hx
theorem program_r (h : Same T T') {s s' : PS} (hs : SR s s') : PR ProgR (programP T E s) (programP T' E' s') := by
  unfold programP
  rw [len_r h]
  exact progL_r h _ _ _ ⟨hs, rfl⟩
theorem last_r (h : Same T T') {s s' : PS} (hs : SR s s') : SR (lastP T E s) (lastP T' E' s') := by
  unfold lastP
  rw [hs.1, len_r h]
  split
  · exact fail_r h hs _ _ _
  · exact hs
end
theorem whole_r {l l' : List UInt8} (h1 : l.length ≤ 4000) (h2 : l'.length ≤ 4000) (hn : (lexS l).2 = none) (hn' : (lexS l').2 = none) (h : Same (lexS l).1 (lexS l').1) :
    (wholeP (⟨[], []⟩ : GProg) (fun T E s => programP T E s) l).2.2 = (wholeP (⟨[], []⟩ : GProg) (fun T E s => programP T E s) l').2.2 ∧ (wholeP (⟨[], []⟩ : GProg) (fun T E s => programP T E s) l).1.e = (wholeP (⟨[], []⟩ : GProg) (fun T E s => programP T E s) l').1.e := by
  have hp := program_r (E := l.length) (E' := l'.length) h (s := ps0) (s' := ps0) ⟨rfl, rfl, rfl⟩
  have hl := last_r (E := l.length) (E' := l'.length) h hp.1
  unfold wholeP
  rw [if_neg (show ¬ 4000 < l.length by omega), if_neg (show ¬ 4000 < l'.length by omega), hn, hn']
  dsimp only
  rw [hl.2.2]
  by_cases he : (lastP (lexS l').1 l'.length (programP (lexS l').1 l'.length ps0).1).err = 0
  · rw [if_pos he, if_pos he]
    exact ⟨rfl, hp.2⟩
  · rw [if_neg he, if_neg he]
    exact ⟨rfl, rfl⟩
end Go.Proofs.YtplekbpmfaghbaaGreatDoor
