/- My own texts PaLaw, PaAdv, CpRule, PaR, as far as this claim needs them. -/
import Derived.Test.YtgphngjniplonaaGreatDoorZp9
import Derived.IntWalk
set_option linter.unusedVariables false
set_option linter.unusedSimpArgs false
set_option maxRecDepth 1000000
set_option maxHeartbeats 16000000
namespace Go.Proofs.YtgphngjniplonaaGreatDoor
open Go.RowKit
structure PS where
  next : Nat
  deep : Nat
  pl : Nat
  err : Int
def PS.up (s : PS) : PS := ⟨s.next + 1, s.deep, s.pl, s.err⟩
def numT (l : List UInt8) : Int := match Lib.atoiAll l with
  | .ok n => n
  | _ => 0
section
variable (T : List GTok) (E : Nat)
def peekP (s : PS) (k : Nat) : GTok := (T[s.next + k]?).getD ⟨0, [], E⟩
def failP (s : PS) (a : Nat) (e : Int) : PS := if s.err = 0 then ⟨T.length, s.deep, a, e⟩ else s
def isP (s : PS) (t : List UInt8) : Bool := (decide ((peekP T E s 0).k = 1) || decide ((peekP T E s 0).k = 5)) && decide ((peekP T E s 0).t = t)
def wantP (s : PS) (t : List UInt8) : PS := if isP T E s t = true then s.up else failP T s (peekP T E s 0).a 2
def mayP (s : PS) (t : List UInt8) : PS := if isP T E s t = true then s.up else s
def takeP (s : PS) (k : Int) : PS := if (peekP T E s 0).k = k then s.up else failP T s (peekP T E s 0).a 2
def takeT (s : PS) (k : Int) : List UInt8 := if (peekP T E s 0).k = k then (peekP T E s 0).t else []
def loopP {σ : Type} (most : Nat) (rd : Nat → PS × σ → PS × σ) : Nat → Nat → PS × σ → PS × σ
  | 0, _, x => x
  | f + 1, i, x => if x.1.err ≠ 0 then x else if most ≤ i then (failP T x.1 (peekP T E x.1 0).a 3, x.2) else
      if isP T E (rd i x).1 [44] = true then loopP most rd f (i + 1) ((rd i x).1.up, (rd i x).2) else rd i x
def commasP {σ : Type} (most : Nat) (rd : Nat → PS × σ → PS × σ) (x : PS × σ) : PS × σ :=
  if isP T E (wantP T E x.1 [40]) [41] = true then ((wantP T E x.1 [40]).up, x.2)
  else (wantP T E (loopP T E most rd (most + 1) 0 (wantP T E x.1 [40], x.2)).1 [41], (loopP T E most rd (most + 1) 0 (wantP T E x.1 [40], x.2)).2)
def termP (s : PS) : PS × GTold :=
  let s1 := mayP T E s [45]
  let q := peekP T E s1 0
  if q.k = 4 then (s1.up, ⟨⟨#[]⟩, ⟨1, (if isP T E s [45] = true then -1 else 1) * numT q.t, ⟨#[]⟩⟩⟩)
  else if isP T E s [45] = true then (failP T s1 q.a 2, zT)
  else if q.k = 3 then (s1.up, ⟨bytes q.t, gv0⟩)
  else if q.k = 2 then (s1.up, ⟨⟨#[]⟩, ⟨2, 0, bytes q.t⟩⟩)
  else (failP T s1 q.a 2, zT)
def argsR (_ : Nat) (x : PS × List GTold) : PS × List GTold := ((termP T E x.1).1, x.2 ++ [(termP T E x.1).2])
def atomP (s : PS) : PS × GAtom :=
  let y := commasP T E 6 (argsR T E) (takeP T E s 2, [])
  (y.1, ⟨bytes (takeT T E s 2), y.2⟩)
def aggN (t : List UInt8) : Nat := if t = [99, 111, 117, 110, 116] then 1 else if t = [115, 117, 109] then 2 else if t = [109, 105, 110] then 3 else if t = [109, 97, 120] then 4 else 0
structure PH where
  args : List GTold
  agg : Int
  col : Int
def headR (i : Nat) (x : PS × PH) : PS × PH :=
  let q := peekP T E x.1 0
  if q.k = 1 ∧ aggN q.t ≠ 0 then
    let s1 := if 0 < x.2.agg then failP T x.1 q.a 2 else x.1
    let s2 := wantP T E (wantP T E s1 q.t) [40]
    (wantP T E (takeP T E s2 3) [41], ⟨x.2.args ++ [⟨bytes (takeT T E s2 3), gv0⟩], aggN q.t, i⟩)
  else ((termP T E x.1).1, ⟨x.2.args ++ [(termP T E x.1).2], x.2.agg, x.2.col⟩)
def headP (s : PS) : PS × PH := commasP T E 6 (headR T E) (takeP T E s 2, ⟨[], 0, 0⟩)
def operandP (inner : Option (PS → PS × GExp)) (s : PS) : PS × GExp :=
  if isP T E s [40] = true then match inner with
    | none => (failP T s (peekP T E s 0).a 4, zE)
    | some sum =>
      let y := sum (wantP T E ⟨s.next, s.deep + 1, s.pl, s.err⟩ [40])
      let s2 := wantP T E y.1 [41]
      (⟨s2.next, s2.deep - 1, s2.pl, s2.err⟩, y.2)
  else ((termP T E s).1, .mk 0 (termP T E s).2 [])
def prodL (op : PS → PS × GExp) : Nat → PS × GExp → PS × GExp
  | 0, x => x
  | f + 1, x => if isP T E x.1 [42] = true then prodL op f ((op x.1.up).1, .mk 3 zT [x.2, (op x.1.up).2]) else x
def productP (op : PS → PS × GExp) (s : PS) : PS × GExp := prodL T E op T.length (op s)
def sumL (pr : PS → PS × GExp) : Nat → PS × GExp → PS × GExp
  | 0, x => x
  | f + 1, x => if isP T E x.1 [43] = true then sumL pr f ((pr x.1.up).1, .mk 1 zT [x.2, (pr x.1.up).2])
    else if isP T E x.1 [45] = true then sumL pr f ((pr x.1.up).1, .mk 2 zT [x.2, (pr x.1.up).2]) else x
def sumOf (op : PS → PS × GExp) (s : PS) : PS × GExp := sumL T E (productP T E op) T.length (productP T E op s)
def sumP : Nat → PS → PS × GExp
  | 0 => sumOf T E (operandP T E none)
  | n + 1 => sumOf T E (operandP T E (some (sumP n)))
def sgnN (t : List UInt8) : Nat := if t = [61] then 1 else if t = [33, 61] then 2 else if t = [60] then 3 else if t = [60, 61] then 4 else if t = [62] then 5 else if t = [62, 61] then 6 else 0
def comparedP (p : Nat) (s : PS) : PS × GLit :=
  let x := sumP T E 20 s
  let q := peekP T E x.1 0
  if q.k = 5 ∧ sgnN q.t ≠ 0 then
    let y := sumP T E 20 (wantP T E x.1 q.t)
    (if y.1.err = 0 ∧ ¬ (rightE 20 x.2 = true ∧ rightE 20 y.2 = true) then failP T y.1 p 4 else y.1, ⟨3, ⟨⟨#[]⟩, []⟩, sgnN q.t, x.2, y.2, p⟩)
  else (failP T x.1 q.a 2, ⟨3, ⟨⟨#[]⟩, []⟩, sgnN q.t, x.2, zE, p⟩)
def literalP (s : PS) : PS × GLit :=
  let p := (peekP T E s 0).a
  if isP T E s [110, 111, 116] = true then ((atomP T E s.up).1, ⟨2, (atomP T E s.up).2, 0, zE, zE, p⟩)
  else if (peekP T E s 0).k = 2 ∧ (peekP T E s 1).k = 5 ∧ (peekP T E s 1).t = [40] then ((atomP T E s).1, ⟨1, (atomP T E s).2, 0, zE, zE, p⟩)
  else comparedP T E p s
def bodyR (_ : Nat) (x : PS × List GLit) : PS × List GLit := ((literalP T E x.1).1, x.2 ++ [(literalP T E x.1).2])
def bodyP (s : PS) : PS × List GLit := if isP T E s [58, 45] = true then loopP T E 8 (bodyR T E) 9 0 (s.up, []) else (s, [])
def ruleP (s : PS) : PS × GRule :=
  let p := (peekP T E s 0).a
  let h := headP T E s
  let b := bodyP T E h.1
  (wantP T E b.1 [46], ⟨⟨bytes (takeT T E s 2), h.2.args⟩, h.2.agg, h.2.col, b.2, p⟩)
def kindR (_ : Nat) (x : PS × List Int) : PS × List Int :=
  if isP T E x.1 [105, 110, 116] = true then (x.1.up, x.2 ++ [1]) else (wantP T E x.1 [115, 121, 109], x.2 ++ [2])
def relW : List UInt8 := [114, 101, 108]
def declP (s : PS) : PS × GDecl :=
  let p := (peekP T E s 0).a
  let s1 := wantP T E s relW
  let y := commasP T E 6 (kindR T E) (takeP T E s1 2, [])
  (wantP T E y.1 [46], ⟨bytes (takeT T E s1 2), y.2, p⟩)
def progL : Nat → PS × GProg → PS × GProg
  | 0, x => x
  | f + 1, x => if x.1.err = 0 ∧ x.1.next < T.length then
      if isP T E x.1 relW = true then
        if 32 ≤ x.2.decls.length then (failP T x.1 (peekP T E x.1 0).a 3, x.2)
        else progL f ((declP T E x.1).1, ⟨x.2.decls ++ [(declP T E x.1).2], x.2.rules⟩)
      else
        if 64 ≤ x.2.rules.length then (failP T x.1 (peekP T E x.1 0).a 3, x.2)
        else progL f ((ruleP T E x.1).1, ⟨x.2.decls, x.2.rules ++ [(ruleP T E x.1).2]⟩)
    else x
def programP (s : PS) : PS × GProg := progL T E T.length (s, ⟨[], []⟩)
def lastP (s : PS) : PS := if s.next < T.length then failP T s (peekP T E s 0).a 2 else s
end
def ps0 : PS := ⟨0, 0, 0, 0⟩
def wholeP {α : Type} (zero : α) (rd : List GTok → Nat → PS → PS × α) (l : List UInt8) : α × Nat × Int :=
  if 4000 < l.length then (zero, 4000, 3) else match (lexS l).2 with
    | some p => (zero, p, 2)
    | none =>
      let y := rd (lexS l).1 l.length ps0
      let s := lastP (lexS l).1 l.length y.1
      if s.err = 0 then (y.2, 0, 0) else (zero, s.pl, s.err)
end Go.Proofs.YtgphngjniplonaaGreatDoor

namespace Go.Proofs.YtgphngjniplonaaGreatDoor
open Go.RowKit
section
variable {T : List GTok} {E : Nat}
def Within (T : List GTok) (E : Nat) : Prop := ∀ q ∈ T, q.a ≤ E
structure Fine (T : List GTok) (E : Nat) (s : PS) : Prop where
  next : s.next ≤ T.length
  fail : s.err ≠ 0 → s.next = T.length
  pl : s.pl ≤ E
  err : 0 ≤ s.err ∧ s.err ≤ 4
structure Adv (T : List GTok) (E : Nat) (s s' : PS) : Prop where
  le : s.next ≤ s'.next
  deep : s'.deep = s.deep
  fine : Fine T E s → Fine T E s'
  err : s.err ≠ 0 → s'.err ≠ 0
theorem Adv.refl (s : PS) : Adv T E s s := ⟨Nat.le_refl _, rfl, id, id⟩
theorem Adv.trans {s s1 s2 : PS} (h : Adv T E s s1) (h' : Adv T E s1 s2) : Adv T E s s2 :=
  ⟨Nat.le_trans h.le h'.le, h'.deep.trans h.deep, fun f => h'.fine (h.fine f), fun e => h'.err (h.err e)⟩
theorem peek_some {s : PS} {k : Nat} (h : (peekP T E s k).k ≠ 0) : s.next + k < T.length := by
  unfold peekP at h
  rcases Nat.lt_or_ge (s.next + k) T.length with hl | hl
  · exact hl
  · rw [List.getElem?_eq_none hl] at h; exact absurd rfl h
theorem peek_at {s : PS} {k : Nat} (h : s.next + k < T.length) : T[s.next + k]? = some (peekP T E s k) := by
  unfold peekP
  rw [List.getElem?_eq_getElem h]; rfl
theorem peek_none {s : PS} {k : Nat} (h : T.length ≤ s.next + k) : peekP T E s k = ⟨0, [], E⟩ := by
  unfold peekP
  rw [List.getElem?_eq_none h]; rfl
theorem peek_le (hW : Within T E) (s : PS) (k : Nat) : (peekP T E s k).a ≤ E := by
  rcases Nat.lt_or_ge (s.next + k) T.length with hl | hl
  · exact hW _ (List.mem_of_getElem? (peek_at hl))
  · rw [peek_none hl]; exact Nat.le_refl _
theorem is_some {s : PS} {t : List UInt8} (h : isP T E s t = true) : s.next < T.length := by
  have h1 : (peekP T E s 0).k ≠ 0 := by
    intro e
    unfold isP at h
    rw [e] at h
    simp at h
  simpa using peek_some h1
theorem is_err {s : PS} {t : List UInt8} (hf : Fine T E s) (h : isP T E s t = true) : s.err = 0 := by
  apply Classical.byContradiction
  intro he
  have := is_some h
  have := hf.fail he
  omega
theorem take_some {s : PS} {k : Int} (hk : k ≠ 0) (h : (peekP T E s 0).k = k) : s.next < T.length := by
  simpa using peek_some (s := s) (k := 0) (E := E) (by rw [h]; exact hk)
theorem up_adv {s : PS} (h : s.next < T.length) : Adv T E s s.up :=
  ⟨Nat.le_succ _, rfl, fun f => ⟨h, fun he => by have := f.fail he; omega, f.pl, f.err⟩, id⟩
theorem fail_adv (s : PS) {a : Nat} {e : Int} (hn : s.next ≤ T.length) (ha : a ≤ E) (he : 1 ≤ e ∧ e ≤ 4) : Adv T E s (failP T s a e) := by
  unfold failP
  split
  · exact ⟨hn, rfl, fun _ => ⟨Nat.le_refl _, fun _ => rfl, ha, by show 0 ≤ e; omega, he.2⟩, fun h => by omega⟩
  · exact Adv.refl s
theorem want_adv (hW : Within T E) (s : PS) (t : List UInt8) (hn : s.next ≤ T.length) : Adv T E s (wantP T E s t) := by
  unfold wantP
  split
  · exact up_adv (is_some ‹_›)
  · exact fail_adv s hn (peek_le hW s 0) (by omega)
theorem may_adv (s : PS) (t : List UInt8) : Adv T E s (mayP T E s t) := by
  unfold mayP
  split
  · exact up_adv (is_some ‹_›)
  · exact Adv.refl s
theorem take_adv (hW : Within T E) (s : PS) {k : Int} (hk : k ≠ 0) (hn : s.next ≤ T.length) : Adv T E s (takeP T E s k) := by
  unfold takeP
  split
  · exact up_adv (take_some hk ‹_›)
  · exact fail_adv s hn (peek_le hW s 0) (by omega)
def Goes (T : List GTok) (E : Nat) (s s' : PS) : Prop := Fine T E s → Adv T E s s'
theorem Goes.trans {s s1 s2 : PS} (h : Goes T E s s1) (h' : Goes T E s1 s2) : Goes T E s s2 := fun f => (h f).trans (h' ((h f).fine f))
theorem Goes.refl (s : PS) : Goes T E s s := fun _ => Adv.refl s
theorem want_goes (hW : Within T E) (s : PS) (t : List UInt8) : Goes T E s (wantP T E s t) := fun f => want_adv hW s t f.next
theorem may_goes (s : PS) (t : List UInt8) : Goes T E s (mayP T E s t) := fun _ => may_adv s t
theorem take_goes (hW : Within T E) (s : PS) {k : Int} (hk : k ≠ 0) : Goes T E s (takeP T E s k) := fun f => take_adv hW s hk f.next
theorem fail_goes (s : PS) {a : Nat} {e : Int} (ha : a ≤ E) (he : 1 ≤ e ∧ e ≤ 4) : Goes T E s (failP T s a e) := fun f => fail_adv s f.next ha he
theorem up_goes {s : PS} (h : s.next < T.length) : Goes T E s s.up := fun _ => up_adv h
theorem loop_goes (hW : Within T E) {σ : Type} (most : Nat) (rd : Nat → PS × σ → PS × σ) (hr : ∀ i x, Goes T E x.1 (rd i x).1) : ∀ (f i : Nat) (x : PS × σ), Goes T E x.1 (loopP T E most rd f i x).1
  | 0, _, x => Goes.refl _
  | f + 1, i, x => by
    rw [loopP]
    split
    · exact Goes.refl _
    · split
      · exact fail_goes _ (peek_le hW _ _) (by omega)
      · split
        · exact (hr i x).trans ((up_goes (is_some ‹_›)).trans (loop_goes hW most rd hr f (i + 1) ((rd i x).1.up, (rd i x).2)))
        · exact hr i x
theorem commas_goes (hW : Within T E) {σ : Type} (most : Nat) (rd : Nat → PS × σ → PS × σ) (hr : ∀ i x, Goes T E x.1 (rd i x).1) (x : PS × σ) : Goes T E x.1 (commasP T E most rd x).1 := by
  unfold commasP
  split
  · exact (want_goes hW _ _).trans (up_goes (is_some ‹_›))
  · exact (want_goes hW _ _).trans ((loop_goes hW most rd hr _ _ (wantP T E x.1 [40], x.2)).trans (want_goes hW _ _))
theorem term_goes (hW : Within T E) (s : PS) : Goes T E s (termP T E s).1 := by
  have h4 : ∀ {k : Int}, k ≠ 0 → (peekP T E (mayP T E s [45]) 0).k = k → Goes T E s (mayP T E s [45]).up := fun hk h => (may_goes s _).trans (up_goes (take_some hk h))
  have hf : Goes T E s (failP T (mayP T E s [45]) (peekP T E (mayP T E s [45]) 0).a 2) := (may_goes s _).trans (fail_goes _ (peek_le hW _ _) (by omega))
  unfold termP
  dsimp only
  by_cases k4 : (peekP T E (mayP T E s [45]) 0).k = 4
  · rw [if_pos k4]; exact h4 (by decide) k4
  · rw [if_neg k4]
    by_cases hm : isP T E s [45] = true
    · rw [if_pos hm]; exact hf
    · rw [if_neg hm]
      by_cases k3 : (peekP T E (mayP T E s [45]) 0).k = 3
      · rw [if_pos k3]; exact h4 (by decide) k3
      · rw [if_neg k3]
        by_cases k2 : (peekP T E (mayP T E s [45]) 0).k = 2
        · rw [if_pos k2]; exact h4 (by decide) k2
        · rw [if_neg k2]; exact hf
theorem atom_goes (hW : Within T E) (s : PS) : Goes T E s (atomP T E s).1 :=
  (take_goes hW s (k := 2) (by decide)).trans (commas_goes hW 6 (argsR T E) (fun _ x => term_goes hW x.1) (takeP T E s 2, []))
theorem headR_goes (hW : Within T E) (i : Nat) (x : PS × PH) : Goes T E x.1 (headR T E i x).1 := by
  unfold headR
  dsimp only
  split
  · refine Goes.trans (s1 := if 0 < x.2.agg then failP T x.1 (peekP T E x.1 0).a 2 else x.1) ?_ ((want_goes hW _ _).trans ((want_goes hW _ _).trans ((take_goes hW _ (by decide)).trans (want_goes hW _ _))))
    split
    · exact fail_goes _ (peek_le hW _ _) (by omega)
    · exact Goes.refl _
  · exact term_goes hW x.1
theorem head_goes (hW : Within T E) (s : PS) : Goes T E s (headP T E s).1 :=
  (take_goes hW s (k := 2) (by decide)).trans (commas_goes hW 6 (headR T E) (headR_goes hW) (takeP T E s 2, ⟨[], 0, 0⟩))
theorem deep_goes {s : PS} {d : Nat} (s' : PS) (h : Goes T E ⟨s.next, d, s.pl, s.err⟩ s') : Fine T E s → s.next ≤ s'.next ∧ s'.deep = d ∧ Fine T E s' ∧ (s.err ≠ 0 → s'.err ≠ 0) := fun f => by
  have a := h ⟨f.next, f.fail, f.pl, f.err⟩
  exact ⟨a.le, a.deep, a.fine ⟨f.next, f.fail, f.pl, f.err⟩, a.err⟩
theorem operand_goes (hW : Within T E) (inner : Option (PS → PS × GExp)) (hi : ∀ f, inner = some f → ∀ s, Goes T E s (f s).1) (s : PS) : Goes T E s (operandP T E inner s).1 := by
  unfold operandP
  split
  · split
    · exact fail_goes _ (peek_le hW _ _) (by omega)
    · rename_i sum
      intro f
      have h := deep_goes (s := s) (d := s.deep + 1) _ ((want_goes hW ⟨s.next, s.deep + 1, s.pl, s.err⟩ [40]).trans ((hi sum rfl _).trans (want_goes hW _ [41]))) f
      obtain ⟨h1, h2, h3, h4⟩ := h
      exact ⟨h1, by show _ - 1 = _; rw [h2]; omega, fun _ => ⟨h3.next, h3.fail, h3.pl, h3.err⟩, h4⟩
  · exact term_goes hW s
theorem prodL_goes {op : PS → PS × GExp} (ho : ∀ s, Goes T E s (op s).1) : ∀ (f : Nat) (x : PS × GExp), Goes T E x.1 (prodL T E op f x).1
  | 0, x => Goes.refl _
  | f + 1, x => by
    rw [prodL]
    split
    · exact (up_goes (is_some ‹_›)).trans ((ho _).trans (prodL_goes ho f ((op x.1.up).1, .mk 3 zT [x.2, (op x.1.up).2])))
    · exact Goes.refl _
theorem product_goes {op : PS → PS × GExp} (ho : ∀ s, Goes T E s (op s).1) (s : PS) : Goes T E s (productP T E op s).1 := (ho s).trans (prodL_goes ho T.length (op s))
theorem sumL_goes {pr : PS → PS × GExp} (ho : ∀ s, Goes T E s (pr s).1) : ∀ (f : Nat) (x : PS × GExp), Goes T E x.1 (sumL T E pr f x).1
  | 0, x => Goes.refl _
  | f + 1, x => by
    rw [sumL]
    split
    · exact (up_goes (is_some ‹_›)).trans ((ho _).trans (sumL_goes ho f ((pr x.1.up).1, .mk 1 zT [x.2, (pr x.1.up).2])))
    · split
      · exact (up_goes (is_some ‹_›)).trans ((ho _).trans (sumL_goes ho f ((pr x.1.up).1, .mk 2 zT [x.2, (pr x.1.up).2])))
      · exact Goes.refl _
theorem sumOf_goes {op : PS → PS × GExp} (ho : ∀ s, Goes T E s (op s).1) (s : PS) : Goes T E s (sumOf T E op s).1 := (product_goes ho s).trans (sumL_goes (product_goes ho) T.length (productP T E op s))
theorem sum_goes (hW : Within T E) : ∀ (n : Nat) (s : PS), Goes T E s (sumP T E n s).1
  | 0, s => sumOf_goes (operand_goes hW none (fun f h => by cases h)) s
  | n + 1, s => sumOf_goes (operand_goes hW (some (sumP T E n)) (fun f h => by injection h with h; subst h; exact sum_goes hW n)) s
theorem compared_goes (hW : Within T E) (p : Nat) (hp : p ≤ E) (s : PS) : Goes T E s (comparedP T E p s).1 := by
  unfold comparedP
  dsimp only
  split
  · refine Goes.trans (sum_goes hW 20 s) (Goes.trans (want_goes hW (sumP T E 20 s).1 (peekP T E (sumP T E 20 s).1 0).t) (Goes.trans (sum_goes hW 20 (wantP T E (sumP T E 20 s).1 (peekP T E (sumP T E 20 s).1 0).t)) ?_))
    split
    · exact fail_goes _ hp (by omega)
    · exact Goes.refl _
  · exact (sum_goes hW 20 s).trans (fail_goes _ (peek_le hW _ _) (by omega))
theorem literal_goes (hW : Within T E) (s : PS) : Goes T E s (literalP T E s).1 := by
  unfold literalP
  dsimp only
  split
  · exact (up_goes (is_some ‹_›)).trans (atom_goes hW _)
  · split
    · exact atom_goes hW s
    · exact compared_goes hW _ (peek_le hW _ _) s
theorem body_goes (hW : Within T E) (s : PS) : Goes T E s (bodyP T E s).1 := by
  unfold bodyP
  split
  · exact (up_goes (is_some ‹_›)).trans (loop_goes hW 8 (bodyR T E) (fun _ x => literal_goes hW x.1) 9 0 (s.up, []))
  · exact Goes.refl _
theorem rule_goes (hW : Within T E) (s : PS) : Goes T E s (ruleP T E s).1 := (head_goes hW s).trans ((body_goes hW _).trans (want_goes hW _ _))
theorem kindR_goes (hW : Within T E) (i : Nat) (x : PS × List Int) : Goes T E x.1 (kindR T E i x).1 := by
  unfold kindR
  split
  · exact up_goes (is_some ‹_›)
  · exact want_goes hW _ _
theorem decl_goes (hW : Within T E) (s : PS) : Goes T E s (declP T E s).1 :=
  (want_goes hW s relW).trans ((take_goes hW _ (k := 2) (by decide)).trans ((commas_goes hW 6 (kindR T E) (kindR_goes hW) (takeP T E (wantP T E s relW) 2, [])).trans (want_goes hW _ _)))
theorem head_more {s : PS} (f : Fine T E s) (h : s.next < T.length) : s.next < (takeP T E s 2).next := by
  have he : s.err = 0 := Classical.byContradiction fun e => by have := f.fail e; omega
  unfold takeP
  split
  · show s.next < s.next + 1; omega
  · unfold failP; rw [if_pos he]; exact h
theorem rule_more (hW : Within T E) {s : PS} (f : Fine T E s) (h : s.next < T.length) : s.next < (ruleP T E s).1.next := by
  have h1 := head_more f h
  have h2 := ((commas_goes hW 6 (headR T E) (headR_goes hW) (takeP T E s 2, ⟨[], 0, 0⟩)).trans ((body_goes hW _).trans (want_goes hW _ [46]))) ((take_goes hW s (by decide) f).fine f)
  exact Nat.lt_of_lt_of_le h1 h2.le
theorem decl_more (hW : Within T E) {s : PS} (f : Fine T E s) (h : isP T E s relW = true) : s.next < (declP T E s).1.next := by
  have h2 := ((take_goes hW _ (k := 2) (by decide)).trans ((commas_goes hW 6 (kindR T E) (kindR_goes hW) (takeP T E (wantP T E s relW) 2, [])).trans (want_goes hW _ [46]))) ((want_goes hW s relW f).fine f)
  refine Nat.lt_of_lt_of_le ?_ h2.le
  unfold wantP
  rw [if_pos h]
  show s.next < s.next + 1
  omega
end
end Go.Proofs.YtgphngjniplonaaGreatDoor

namespace Go.Proofs.YtgphngjniplonaaGreatDoor
open Go.RowKit
abbrev zrC : List Value := [.string ⟨#[]⟩, .slice none 0 0, .int .i64 0, .int .i64 0, .slice none 0 0, .int .i64 0]
end Go.Proofs.YtgphngjniplonaaGreatDoor

namespace Go.Proofs.YtgphngjniplonaaGreatDoor
open Go.RowKit
def paggsL : List (List UInt8) := [[99, 111, 117, 110, 116], [115, 117, 109], [109, 105, 110], [109, 97, 120]]
def psignsL : List (List UInt8) := [[61], [33, 61], [60], [60, 61], [62], [62, 61]]
structure ParW (W : World) : Prop where
  lex : LexW W
  aggs : StrsW 0 paggsL W
  signs : StrsW 2 psignsL W
theorem ParW.on {w W : World} (h : ParW w) (hb : Below w.heap.size w W) : ParW W := ⟨h.lex.on hb, h.aggs.on hb, h.signs.on hb⟩
def parG : List Nat := 0 :: 2 :: lexG
theorem ParW.lt {W : World} (h : ParW W) : ∀ b ∈ parG, b < W.heap.size := by
  obtain ⟨t1, fr1, h1⟩ := h.aggs
  obtain ⟨t2, fr2, h2⟩ := h.signs
  intro b hb
  simp only [parG, List.mem_cons] at hb
  rcases hb with rfl | rfl | hb
  · exact (Array.getElem?_eq_some_iff.1 h1).1
  · exact (Array.getElem?_eq_some_iff.1 h2).1
  · exact h.lex.lt b hb
theorem StrsW.keep {g : Nat} {L : List (List UInt8)} {w W : World} (h : StrsW g L w) (hk : W.heap[g]? = w.heap[g]?) : StrsW g L W := by
  obtain ⟨t, fr, h⟩ := h
  exact ⟨t, fr, hk.trans h⟩
theorem ParW.keep {W W' : World} (h : ParW W) (hk : ∀ b ∈ parG, W'.heap[b]? = W.heap[b]?) : ParW W' :=
  ⟨h.lex.keep (fun b hb => hk b (by simp [parG, hb])), h.aggs.keep (hk _ (by simp [parG])), h.signs.keep (hk _ (by simp [parG]))⟩
abbrev rdC (A : Option Addr) (c : Nat) (T : List GTok) (E : Nat) (s : PS) : List Value := [.slice A T.length c, .int .i64 s.next, .int .i64 E, .int .i64 s.deep, .int .i64 s.pl, .int .i64 s.err]
structure Rd (B g : Nat) (A : Option Addr) (c : Nat) (T : List GTok) (E : Nat) (s : PS) (W : World) : Prop where
  row : W.heap[g]? = some (.cells (rdC A c T E s).toArray 161 (0, 0))
  toks : SliceIs Enc.tok (sans W [g]) B A T.length c T
  par : ParW W
  lt : g < B
  size : B ≤ W.heap.size
  tabs : ∀ b ∈ parG, b < B ∧ b ≠ g
  fine : Fine T E s
  within : Within T E
  elen : E ≤ 4000
  tlen : T.length ≤ 4000
  deep : s.deep ≤ 20
  texts : ∀ q ∈ T, TextOf wordK q.k q.t
section
variable {B g : Nat} {A : Option Addr} {c : Nat} {T : List GTok} {E : Nat} {s s' : PS} {W W' : World}
theorem Rd.out (h : Rd B g A c T E s W) {S : List Nat} (ho : Out S W W') (hS : ∀ b ∈ S, b < W.heap.size → B ≤ b) : Rd B g A c T E s W' := by
  have hb : ∀ b, b < B → W'.heap[b]? = W.heap[b]? := fun b hb => ho.block b (Nat.lt_of_lt_of_le hb h.size) (fun hm => by have := hS b hm (Nat.lt_of_lt_of_le hb h.size); omega)
  refine ⟨(hb g h.lt).trans h.row, h.toks.mono' (Nat.le_refl _) ?_, h.par.keep (fun b hm => hb b (h.tabs b hm).1), h.lt, Nat.le_trans h.size ho.size, h.tabs, h.fine, h.within, h.elen, h.tlen, h.deep, h.texts⟩
  intro b hbB cs t fr hcs hc
  obtain ⟨hn, hw⟩ := sans_in hcs hc
  rw [sans_out hn, hb b hbB, hw]
theorem Rd.on (h : Rd B g A c T E s W) (hb : Below W.heap.size W W') : Rd B g A c T E s W' := h.out (Out.of_below hb []) (fun _ h => by cases h)
theorem Rd.put (h : Rd B g A c T E s W) (ho : Out [g] W W') (hr : W'.heap[g]? = some (.cells (rdC A c T E s').toArray 161 (0, 0))) (hf : Fine T E s') (hd : s'.deep ≤ 20) : Rd B g A c T E s' W' := by
  have hb : ∀ b, b < B → b ≠ g → W'.heap[b]? = W.heap[b]? := fun b hb hne => ho.block b (Nat.lt_of_lt_of_le hb h.size) (by simpa using hne)
  refine ⟨hr, h.toks.mono' (Nat.le_refl _) ?_, h.par.keep (fun b hm => hb b (h.tabs b hm).1 (h.tabs b hm).2), h.lt, Nat.le_trans h.size ho.size, h.tabs, hf, h.within, h.elen, h.tlen, hd, h.texts⟩
  intro b hbB cs t fr hcs hc
  obtain ⟨hn, hw⟩ := sans_in hcs hc
  have hne : b ≠ g := by simpa using hn
  rw [sans_out hn, hb b hbB hne, hw]
theorem Rd.cells (h : Rd B g A c T E s W) :
    W.cell? ⟨g, 0, none⟩ = some (.slice A T.length c) ∧ W.cell? ⟨g, 1, none⟩ = some (.int .i64 s.next) ∧ W.cell? ⟨g, 2, none⟩ = some (.int .i64 E) ∧ W.cell? ⟨g, 3, none⟩ = some (.int .i64 s.deep) ∧ W.cell? ⟨g, 4, none⟩ = some (.int .i64 s.pl) ∧ W.cell? ⟨g, 5, none⟩ = some (.int .i64 s.err) := facts6 h.row
theorem Rd.glt (h : Rd B g A c T E s W) : g < W.heap.size := Nat.lt_of_lt_of_le h.lt h.size
theorem Rd.fr (h : Rd B g A c T E s W) (i : Nat) : W.frozen? ⟨g, i, none⟩ = false := frozen_of_row _ _ _ _ _ h.row
theorem Rd.tok_at (h : Rd B g A c T E s W) {i : Nat} (hi : i < T.length) :
    ∃ b o x, A = some ⟨b, o, none⟩ ∧ b < B ∧ Hid (T[i]? = some x) ∧ W.cell? ⟨b, o + i * 3, none⟩ = some (.int .i64 x.k) ∧ W.cell? ⟨b, o + i * 3 + 1, none⟩ = some (.string (bytes x.t)) ∧
      W.cell? ⟨b, o + i * 3 + 2, none⟩ = some (.int .i64 x.a) ∧ fits x.k ∧ fits x.a ∧ x.t.length ≤ reachN :=
  (h.toks.mono' (Nat.le_refl _) (kept_up W [g] B)).tok_at hi
end
def RdPost (B g : Nat) (A : Option Addr) (c : Nat) (T : List GTok) (E : Nat) (s' : PS) (v : Value) (w : World) (e : Ending) (w' : World) : Prop := e = .returned v ∧ Rd B g A c T E s' w' ∧ Out [g] w w'
theorem out_next {g : Nat} {w w1 w2 : World} (h : Out [g] w w1) (h' : Out [g] w1 w2) : Out [g] w w2 := h.trans h' (fun _ h _ => h)
theorem out_below {g : Nat} {w w1 w2 : World} (h : Out [g] w w1) (h' : Below w1.heap.size w1 w2) : Out [g] w w2 := h.trans (Out.of_below h' []) (fun _ h _ => by cases h)
section
variable {B g : Nat} {A : Option Addr} {c : Nat} {T : List GTok} {E : Nat} {s : PS} {w : World}
theorem tokC_eq (q : GTok) : tokC q = .agg #[.int .i64 q.k, .string (bytes q.t), .int .i64 q.a] := rfl
theorem rpeek_any (h : Rd B g A c T E s w) (k : Nat) (hk : k ≤ 1) : Calls Tryz.prog 110 #[.pointer (some ⟨g, 0, none⟩), .int .i64 k] w (RetV (tokC (peekP T E s k)) w) := by
  obtain ⟨c0, c1, c2, c3, c4, c5⟩ := h.cells
  have hT := h.tlen
  have hn := h.fine.next
  have hgl := h.glt
  by_cases hlt : s.next + k < T.length
  · obtain ⟨b, o, x, rfl, hb, hx, x0, x1, x2, -, -, -⟩ := h.tok_at hlt
    have hbw : b < w.heap.size := Nat.lt_of_lt_of_le hb h.size
    have HE : Hid (peekP T E s k = x) := by show _ = _; unfold peekP; rw [hx.out]; rfl
    rw [HE.out, tokC_eq]
    obtain ⟨i, Hi⟩ : ∃ i : Nat, Hid (i = s.next + k) := ⟨_, rfl⟩
    rw [← Hi.out] at x0 x1 x2
    have h1 : ((s.next : Int) + (k : Int)) = (i : Int) := by rw [Hi.out]; simp
    have hi : i < T.length := by rw [Hi.out]; exact hlt
    have hi1 : ¬ ((T.length : Int) ≤ (i : Int)) := by omega
    have hi2 : (i : Int) < (T.length : Int) := by omega
    have hw1 : wrap64 (i : Int) = (i : Int) := by unfold wrap64; omega
    have hi3 : (0 : Int) ≤ (i : Int) := by omega
    have hw2 : IntKind.i64.wrap (i : Int) = (i : Int) := by rw [IntWalk.i64_left]; exact hw1
    have hw3 : (i : Int).toNat = i := rfl
    generalize s.next = sn at *
    clear h hx hlt HE hn hk hT
    go_enter Tryz.func110, Tryz.ntmps110
    go_wp2_with fail
    go_quiet (fail)
    go_wp2_with fail
    go_region_with (fail)
    all_goals
      go_wp2_with fail
      refine bodyPost_ret (v := .agg #[.int .i64 x.k, .string (bytes x.t), .int .i64 x.a]) (by simp [results, Tryz.results110, go_sem]) rfl ⟨rfl, ?_⟩
      exact belowS (belowS (belowS ((belowA (Below.refl _ _) _).trans (below_drewN _ _ _)) _ _ (Nat.le_refl _) _) _ _ (Nat.le_refl _) _) _ _ (Nat.le_refl _) _
  · have HE : Hid (peekP T E s k = ⟨0, [], E⟩) := peek_none (by omega)
    rw [HE.out, tokC_eq]
    obtain ⟨i, Hi⟩ : ∃ i : Nat, Hid (i = s.next + k) := ⟨_, rfl⟩
    have h1 : ((s.next : Int) + (k : Int)) = (i : Int) := by rw [Hi.out]; simp
    have hi1 : ((T.length : Int) ≤ (i : Int)) := by rw [Hi.out]; omega
    have hib : i ≤ 5000 := by rw [Hi.out]; omega
    have hw1 : wrap64 (i : Int) = (i : Int) := by unfold wrap64; omega
    generalize s.next = sn at *
    clear h hlt HE hn hk hT hib
    go_enter Tryz.func110, Tryz.ntmps110
    go_wp2_with fail
    go_quiet (fail)
    go_wp2_with fail
    refine bodyPost_ret (v := .agg #[.int .i64 0, .string ⟨#[]⟩, .int .i64 E]) (by simp [results, Tryz.results110, go_sem]) rfl ⟨rfl, ?_⟩
    exact belowS (belowS (belowS ((belowA (Below.refl _ _) _).trans (below_drewN _ _ _)) _ _ (Nat.le_refl _) _) _ _ (Nat.le_refl _) _) _ _ (Nat.le_refl _) _
theorem peek_le2 (h : Rd B g A c T E s w) (k : Nat) : (peekP T E s k).a ≤ 4000 := Nat.le_trans (peek_le h.within s k) h.elen
theorem tok_field2 (k a : Int) (t : ByteArray) (W : World) : (Instr.field 193 (.agg #[.int .i64 k, .string t, .int .i64 a]) 2).run Tryz.prog W = .ok (.int .i64 a) W := by kernel_rfl
theorem tok_field0 (k a : Int) (t : ByteArray) (W : World) : (Instr.field 193 (.agg #[.int .i64 k, .string t, .int .i64 a]) 0).run Tryz.prog W = .ok (.int .i64 k) W := by kernel_rfl
theorem rplace_any (h : Rd B g A c T E s w) : Calls Tryz.prog 76 #[.pointer (some ⟨g, 0, none⟩)] w (RetV (.int .i64 (peekP T E s 0).a) w) := by
  have HC := Lib.hid (rpeek_any h 0 (by omega))
  rw [tokC_eq] at HC
  generalize peekP T E s 0 = q at *
  clear h
  have f2 := tok_field2 q.k q.a (bytes q.t)
  go_enter Tryz.func76, Tryz.ntmps76
  go_wp2_with fail
  refine HC.out.mono ?_
  rintro e w1 ⟨rfl, hb⟩
  have Hb := Lib.hid hb
  clear hb
  go_wp2_with fail
  go_ret
  exact ⟨rfl, Hb.out⟩
theorem ris_any (h : Rd B g A c T E s w) (t : ByteArray) : Calls Tryz.prog 77 #[.pointer (some ⟨g, 0, none⟩), .string t] w (RetV (.bool (isP T E s t.toList)) w) := by
  have HC := Lib.hid (rpeek_any h 0 (by omega))
  rw [tokC_eq] at HC
  unfold isP
  generalize peekP T E s 0 = q at *
  obtain ⟨k, x, a⟩ := q
  dsimp only at *
  have HE : Hid (((bytes x).toList == t.toList) = decide (x = t.toList)) := by
    show _ = _
    have e1 : (bytes x).toList = x := toList_mk x
    rw [e1]
    rw [Bool.eq_iff_iff]; simp
  clear h
  by_cases k1 : k = 1
  · subst k1
    go_enter Tryz.func77, Tryz.ntmps77
    go_wp2_with fail
    refine HC.out.mono ?_
    rintro e w1 ⟨rfl, hb⟩
    have Hb := Lib.hid hb
    clear hb
    go_wp2_with fail
    go_ret
    exact ⟨by rw [HE.out]; rfl, belowA Hb.out _⟩
  have e1 : (k == 1) = false := by simp [k1]
  by_cases k5 : k = 5
  · subst k5
    clear k1
    go_enter Tryz.func77, Tryz.ntmps77
    go_wp2_with fail
    refine HC.out.mono ?_
    rintro e w1 ⟨rfl, hb⟩
    have Hb := Lib.hid hb
    clear hb
    go_wp2_with fail
    go_ret
    exact ⟨by rw [HE.out]; rfl, belowA Hb.out _⟩
  have e5 : (k == 5) = false := by simp [k5]
  have HF : Hid (((decide (k = 1) || decide (k = 5)) && decide (x = t.toList)) = false) := by show _ = _; simp [k1, k5]
  rw [HF.out]
  clear k1 k5 HE HF
  go_enter Tryz.func77, Tryz.ntmps77
  go_wp2_with fail
  refine HC.out.mono ?_
  rintro e w1 ⟨rfl, hb⟩
  have Hb := Lib.hid hb
  clear hb
  go_wp2_with fail
  go_ret
  exact ⟨rfl, belowA Hb.out _⟩
theorem rd_set {W : World} (hr : W.heap[g]? = some (.cells (rdC A c T E s).toArray 161 (0, 0))) (n : Nat) : (W.setCell ⟨g, 1, none⟩ (.int .i64 n)).heap[g]? = some (.cells (rdC A c T E ⟨n, s.deep, s.pl, s.err⟩).toArray 161 (0, 0)) := by
  simp [World.setCell, Array.getElem?_modify, hr]
theorem Rd.up (h : Rd B g A c T E s w) (hn : s.next < T.length) : Rd B g A c T E s.up (w.setCell ⟨g, 1, none⟩ (.int .i64 ((s.next : Int) + 1))) ∧ Out [g] w (w.setCell ⟨g, 1, none⟩ (.int .i64 ((s.next : Int) + 1))) :=
  ⟨h.put (set_out w g 1 _) (rd_set h.row (s.next + 1)) ((up_adv hn).fine h.fine) h.deep, set_out w g 1 _⟩
theorem rfail_any (h : Rd B g A c T E s w) (a : Nat) (ha : a ≤ E) (e : Int) (he : 1 ≤ e ∧ e ≤ 4) : Calls Tryz.prog 75 #[.pointer (some ⟨g, 0, none⟩), .int .i64 a, .int .i64 e] w (RdPost B g A c T E (failP T s a e) (.tuple #[]) w) := by
  obtain ⟨c0, c1, c2, c3, c4, c5⟩ := h.cells
  obtain ⟨r0, r1, r2, r3, r4, r5⟩ : (∀ i, w.frozen? ⟨g, i, none⟩ = false) ∧ True ∧ True ∧ True ∧ True ∧ True := ⟨h.fr, trivial, trivial, trivial, trivial, trivial⟩
  by_cases h0 : s.err = 0
  · have e0 : (s.err == 0) = true := by simp [h0]
    have HP : Hid (failP T s a e = ⟨T.length, s.deep, a, e⟩) := by show _ = _; unfold failP; rw [if_pos h0]
    have HF := Lib.hid ((fail_adv (E := E) s h.fine.next ha he).fine h.fine)
    rw [HP.out] at HF ⊢
    have HH := Lib.hid h
    clear h h0 HP r1 r2 r3 r4 r5
    go_enter Tryz.func75, Tryz.ntmps75
    go_wp2_with fail
    go_end0
    have ho : Out [g] w (((w.setCell ⟨g, 4, none⟩ (.int .i64 a)).setCell ⟨g, 5, none⟩ (.int .i64 e)).setCell ⟨g, 1, none⟩ (.int .i64 T.length)) := out_next (out_next (set_out _ _ _ _) (set_out _ _ _ _)) (set_out _ _ _ _)
    exact ⟨rfl, HH.out.put ho (by simp [World.setCell, Array.getElem?_modify, HH.out.row]) HF.out HH.out.deep, ho⟩
  · have e0 : (s.err == 0) = false := by simp [h0]
    have HP : Hid (failP T s a e = s) := by show _ = _; unfold failP; rw [if_neg h0]
    rw [HP.out]
    have HH := Lib.hid h
    clear h h0 HP r1 r2 r3 r4 r5
    go_enter Tryz.func75, Tryz.ntmps75
    go_wp2_with fail
    go_end0
    exact ⟨rfl, HH.out, Out.refl _ _⟩
theorem rwant_any (h : Rd B g A c T E s w) (t : ByteArray) : Calls Tryz.prog 111 #[.pointer (some ⟨g, 0, none⟩), .string t] w (RdPost B g A c T E (wantP T E s t.toList) (.tuple #[]) w) := by
  have HI := Lib.hid (ris_any h t)
  have HH := Lib.hid h
  cases hi : isP T E s t.toList with
  | true =>
    have hn := is_some hi
    have hT := h.tlen
    have hz : (s.next : Int) + 1 = ((s.next + 1 : Nat) : Int) := by omega
    have HP : Hid (wantP T E s t.toList = s.up) := by show _ = _; unfold wantP; rw [if_pos hi]
    rw [HP.out]
    rw [hi] at HI
    have hgl := h.glt
    clear h hi HP
    go_enter Tryz.func111, Tryz.ntmps111
    go_wp2_with fail
    refine HI.out.mono ?_
    rintro e w1 ⟨rfl, hb⟩
    have HR := Lib.hid (HH.out.on hb)
    obtain ⟨c0, c1, c2, c3, c4, c5⟩ := HR.out.cells
    have r0 := HR.out.fr
    have Hb := Lib.hid hb
    clear hb hz
    go_wp2_with fail
    go_end0
    exact ⟨rfl, (HR.out.up hn).1, (Out.of_below Hb.out [g]).trans (HR.out.up hn).2 (fun _ h _ => h)⟩
  | false =>
    have HPl := Lib.hid (rplace_any h)
    have HP : Hid (wantP T E s t.toList = failP T s (peekP T E s 0).a 2) := by show _ = _; unfold wantP; rw [if_neg (by rw [hi]; decide)]
    rw [HP.out]
    rw [hi] at HI
    have HE := Lib.hid (peek_le (E := E) h.within s 0)
    have HF := Lib.hid (fun (W : World) (hR : Rd B g A c T E s W) => rfail_any hR (peekP T E s 0).a HE.out 2 (by omega))
    have HPl2 := Lib.hid (fun (W : World) (hR : Rd B g A c T E s W) => rplace_any hR)
    generalize (peekP T E s 0).a = a at *
    clear h hi HP HPl HE
    go_enter Tryz.func111, Tryz.ntmps111
    go_wp2_with fail
    refine HI.out.mono ?_
    rintro e w1 ⟨rfl, hb⟩
    have HR := Lib.hid (HH.out.on hb)
    have Hb := Lib.hid hb
    clear hb HI
    go_wp2_with fail
    refine (HPl2.out _ HR.out).mono ?_
    rintro e w2 ⟨rfl, hb2⟩
    have HR2 := Lib.hid (HR.out.on hb2)
    have Hb2 := Lib.hid (below_next Hb.out hb2)
    clear hb2 HPl2
    go_wp2_with fail
    refine (HF.out _ HR2.out).mono ?_
    rintro e w3 ⟨rfl, hr3, ho3⟩
    have HR3 := Lib.hid hr3
    have HO := Lib.hid ((Out.of_below Hb2.out [g]).trans ho3 (fun _ h _ => h))
    clear hr3 ho3 HF
    go_wp2_with fail
    first | go_end0 | go_ret | refine bodyPost_ret (results_none rfl _ _ _) rfl ?_
    exact ⟨rfl, HR3.out, HO.out⟩
theorem rmay_any (h : Rd B g A c T E s w) (t : ByteArray) : Calls Tryz.prog 115 #[.pointer (some ⟨g, 0, none⟩), .string t] w (RdPost B g A c T E (mayP T E s t.toList) (.bool (isP T E s t.toList)) w) := by
  have HI := Lib.hid (ris_any h t)
  have HH := Lib.hid h
  cases hi : isP T E s t.toList with
  | true =>
    have hn := is_some hi
    have hT := h.tlen
    have hz : (s.next : Int) + 1 = ((s.next + 1 : Nat) : Int) := by omega
    have HP : Hid (mayP T E s t.toList = s.up) := by show _ = _; unfold mayP; rw [if_pos hi]
    rw [HP.out]
    rw [hi] at HI
    have hgl := h.glt
    clear h hi HP
    go_enter Tryz.func115, Tryz.ntmps115
    go_wp2_with fail
    refine HI.out.mono ?_
    rintro e w1 ⟨rfl, hb⟩
    have HR := Lib.hid (HH.out.on hb)
    obtain ⟨c0, c1, c2, c3, c4, c5⟩ := HR.out.cells
    have r0 := HR.out.fr
    have Hb := Lib.hid hb
    clear hb hz
    go_wp2_with fail
    go_ret
    exact ⟨rfl, (HR.out.up hn).1, (Out.of_below Hb.out [g]).trans (HR.out.up hn).2 (fun _ h _ => h)⟩
  | false =>
    have HP : Hid (mayP T E s t.toList = s) := by show _ = _; unfold mayP; rw [if_neg (by rw [hi]; decide)]
    rw [HP.out]
    rw [hi] at HI
    clear h hi HP
    go_enter Tryz.func115, Tryz.ntmps115
    go_wp2_with fail
    refine HI.out.mono ?_
    rintro e w1 ⟨rfl, hb⟩
    have HR := Lib.hid (HH.out.on hb)
    have Hb := Lib.hid hb
    clear hb HI
    go_wp2_with fail
    go_ret
    exact ⟨rfl, HR.out, Out.of_below Hb.out [g]⟩
theorem rtake_any (h : Rd B g A c T E s w) (k : Nat) (hk : k ≠ 0) : Calls Tryz.prog 112 #[.pointer (some ⟨g, 0, none⟩), .int .i64 k] w (RdPost B g A c T E (takeP T E s k) (.string (bytes (takeT T E s k))) w) := by
  have HC := Lib.hid (rpeek_any h 0 (by omega))
  have HH := Lib.hid h
  rw [tokC_eq] at HC
  by_cases hq : (peekP T E s 0).k = k
  · have hn := take_some (T := T) (E := E) (s := s) (k := k) (by omega) hq
    have hT := h.tlen
    have HP : Hid (takeP T E s k = s.up) := by show _ = _; unfold takeP; rw [if_pos hq]
    have HT : Hid (takeT T E s k = (peekP T E s 0).t) := by show _ = _; unfold takeT; rw [if_pos hq]
    rw [HP.out, HT.out]
    rw [hq] at HC
    have hgl := h.glt
    generalize peekP T E s 0 = q at *
    obtain ⟨qk, x, a⟩ := q
    dsimp only at *
    clear h HP HT hq
    go_enter Tryz.func112, Tryz.ntmps112
    go_wp2_with fail
    refine HC.out.mono ?_
    rintro e w1 ⟨rfl, hb⟩
    have HR := Lib.hid (HH.out.on hb)
    obtain ⟨c0, c1, c2, c3, c4, c5⟩ := HR.out.cells
    have r0 := HR.out.fr
    have hgl1 := HR.out.glt
    have Hb := Lib.hid hb
    clear hb
    go_wp2_with fail
    go_ret
    have hb2 := belowA (Below.refl (w1.setCell ⟨g, 1, none⟩ (.int .i64 ((s.next : Int) + 1))).heap.size (w1.setCell ⟨g, 1, none⟩ (.int .i64 ((s.next : Int) + 1)))) (.cells #[.int .i64 k, .string (bytes x), .int .i64 a] 193)
    exact ⟨rfl, (HR.out.up hn).1.on hb2, out_below ((Out.of_below Hb.out [g]).trans (HR.out.up hn).2 (fun _ h _ => h)) hb2⟩
  · have HP : Hid (takeP T E s k = failP T s (peekP T E s 0).a 2) := by show _ = _; unfold takeP; rw [if_neg hq]
    have HT : Hid (takeT T E s k = []) := by show _ = _; unfold takeT; rw [if_neg hq]
    rw [HP.out, HT.out]
    have HE := Lib.hid (peek_le (E := E) h.within s 0)
    have HF := Lib.hid (fun (W : World) (hR : Rd B g A c T E s W) => rfail_any hR (peekP T E s 0).a HE.out 2 (by omega))
    have e1 : ((peekP T E s 0).k == (k : Int)) = false := by simp [hq]
    have e2 : ((peekP T E s 0).k != (k : Int)) = true := by simp [hq]
    generalize peekP T E s 0 = q at *
    obtain ⟨qk, x, a⟩ := q
    dsimp only at *
    clear h HP HT hq HE
    go_enter Tryz.func112, Tryz.ntmps112
    go_wp2_with fail
    refine HC.out.mono ?_
    rintro e w1 ⟨rfl, hb⟩
    have HR := Lib.hid (HH.out.on hb)
    have Hb := Lib.hid hb
    have HR2 := Lib.hid (HR.out.on (belowA (Below.refl _ _) (.cells #[.int .i64 qk, .string (bytes x), .int .i64 a] 193)))
    have Hb2 := Lib.hid (belowA Hb.out (.cells #[.int .i64 qk, .string (bytes x), .int .i64 a] 193))
    clear hb HC
    go_wp2_with fail
    refine (HF.out _ HR2.out).mono ?_
    rintro e w3 ⟨rfl, hr3, ho3⟩
    have HR3 := Lib.hid hr3
    have HO := Lib.hid ((Out.of_below Hb2.out [g]).trans ho3 (fun _ h _ => h))
    clear hr3 ho3 HF
    go_wp2_with fail
    go_ret
    exact ⟨rfl, HR3.out, HO.out⟩
structure Fr (B g : Nat) (A : Option Addr) (c : Nat) (T : List GTok) (E : Nat) (w0 : World) (L : List (Nat × Obj)) (s : PS) (W : World) : Prop where
  rd : Rd B g A c T E s W
  out : Out [g] w0 W
  rows : ∀ p ∈ L, w0.heap.size ≤ p.1 ∧ W.heap[p.1]? = some p.2
  glt : g < w0.heap.size
theorem Fr.start (h : Rd B g A c T E s w) : Fr B g A c T E w [] s w := ⟨h, Out.refl _ _, fun _ h => (by cases h), h.glt⟩
section
variable {w0 W W' : World} {L : List (Nat × Obj)} {s' : PS}
theorem Fr.go (h : Fr B g A c T E w0 L s W) (hr : Rd B g A c T E s' W') (ho : Out [g] W W') : Fr B g A c T E w0 L s' W' :=
  ⟨hr, out_next h.out ho, fun p hp => by
    have h1 := h.rows p hp
    have h2 := h.glt
    refine ⟨h1.1, (ho.block _ (Array.getElem?_eq_some_iff.1 h1.2).1 (by simp; omega)).trans h1.2⟩, h.glt⟩
theorem Fr.on (h : Fr B g A c T E w0 L s W) (hb : Below W.heap.size W W') : Fr B g A c T E w0 L s W' := h.go (h.rd.on hb) (Out.of_below hb [g])
theorem Fr.alloc (h : Fr B g A c T E w0 L s W) (o : Obj) : Fr B g A c T E w0 ((W.heap.size, o) :: L) s (W.alloc o) := by
  have h1 := h.on (belowA (Below.refl _ _) o)
  refine ⟨h1.rd, h1.out, fun p hp => ?_, h.glt⟩
  rcases List.mem_cons.1 hp with rfl | hp
  · exact ⟨h.out.size, heapNew rfl⟩
  · exact h1.rows p hp
theorem Fr.put (h : Fr B g A c T E w0 L s W) {L' : List (Nat × Obj)} {b : Nat} (hb : w0.heap.size ≤ b) (ho : Out [b] W W') (hL : ∀ p ∈ L', (p ∈ L ∧ p.1 ≠ b) ∨ (p.1 = b ∧ W'.heap[b]? = some p.2)) (hB : B ≤ w0.heap.size) : Fr B g A c T E w0 L' s W' := by
  refine ⟨h.rd.out ho (fun x hx _ => by simp at hx; omega), h.out.trans ho (fun x hx hl => by simp at hx; omega), fun p hp => ?_, h.glt⟩
  rcases hL p hp with ⟨h1, h2⟩ | ⟨h1, h2⟩
  · have h3 := h.rows p h1
    exact ⟨h3.1, (ho.block _ (Array.getElem?_eq_some_iff.1 h3.2).1 (by simpa using h2)).trans h3.2⟩
  · exact ⟨by omega, by rw [h1]; exact h2⟩
theorem Fr.fin (h : Fr B g A c T E w0 L s W) {b : Nat} (hb : w0.heap.size ≤ b) (ho : Out [b] W W') (hB : B ≤ w0.heap.size) : Rd B g A c T E s W' ∧ Out [g] w0 W' :=
  have h1 := h.put (L' := []) hb ho (fun _ h => by cases h) hB
  ⟨h1.rd, h1.out⟩
theorem Fr.row (h : Fr B g A c T E w0 L s W) {p : Nat × Obj} (hp : p ∈ L) : W.heap[p.1]? = some p.2 := (h.rows p hp).2
end
end
end Go.Proofs.YtgphngjniplonaaGreatDoor
