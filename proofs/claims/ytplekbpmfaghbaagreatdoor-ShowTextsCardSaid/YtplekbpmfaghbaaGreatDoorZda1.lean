/- My own texts Base, VFrame, LexLaw, ShowSz, PaLaw, PaAdv, as far as this claim needs them. -/
import Derived.Test.YtplekbpmfaghbaaGreatDoorZd1
import Derived.Test.YtplekbpmfaghbaaGreatDoorZd2
import Derived.Test.YtplekbpmfaghbaaGreatDoorZd3
import Derived.Test.YtplekbpmfaghbaaGreatDoorZd4
import Derived.Test.YtplekbpmfaghbaaGreatDoorZd5
import Derived.Test.YtplekbpmfaghbaaGreatDoorZd6
import Derived.Test.YtplekbpmfaghbaaGreatDoorZd7
import Derived.Test.YtplekbpmfaghbaaGreatDoorZd8
import Derived.Test.YtplekbpmfaghbaaGreatDoorZd9
import Derived.Test.YtplekbpmfaghbaaGreatDoorZd10
import Derived.Test.YtplekbpmfaghbaaGreatDoorZd11
import Derived.WalkKit
import Derived.WalkSpells
import Derived.WalkLawsBesides
import Derived.MapKept
import Derived.BigQuiet
import Derived.Lib.Hide
import Derived.Deep.Draws
import Derived.Deep.QuietTactic
import Derived.SizedLaws
import Derived.ProofKit
import Derived.Deep.Slices
import Derived.Test.YtplekbpmfaghbaaGreatDoorProg
import Derived.Shelf.Strings.Builder1
import Derived.Shelf.Strings.Builder2
import Derived.Shelf.Strings.OnBuilder
import Derived.Shelf.Small.Strs
import Derived.Shelf.Strconv.Atoi
import Derived.Shelf.Strconv.Itoa0
import Derived.Shelf.Strconv.Itoa1
import Derived.Shelf.LaysM
import Derived.Shelf.Strconv.Itoa2
import Derived.Shelf.Strconv.Itoa3
import Derived.Shelf.Strconv.AtoiErrFast
import Derived.Shelf.Strconv.ParseIntEmpty
import Derived.Shelf.Strconv.AtoiFail
import Derived.Shelf.Strconv.Clone
import Derived.Shelf.Strconv.SyntaxError
import Derived.Shelf.LaysC
import Derived.Shelf.Strconv.ToError
import Derived.Shelf.Strconv.Lower
import Derived.Shelf.Strconv.ParseUint10
import Derived.Shelf.Strconv.ParseUint10Empty
import Derived.Shelf.Strconv.ParseUint10Any
import Derived.Shelf.Strconv.ParseInt10
import Derived.Shelf.Strconv.AtoiLong
import Derived.Shelf.Strconv.AtoiInnerAll
import Derived.Shelf.Strconv.RangeError
import Derived.Shelf.Strconv.ToErrorRange
import Derived.Shelf.Strconv.AtoiAll
import Derived.Shelf.Strconv.ErrVarAll
import Derived.Shelf.Strings.Search1
import Derived.Shelf.Strings.Search2
import Derived.Shelf.Strings.Cut
import Derived.Shelf.Strings.Shaped
import Derived.Shelf.Strings.Prefix
import Derived.Lib.AppendIntMem
import Derived.Lib.ItoaLen
import Derived.Test.YtplekbpmfaghbaaGreatDoorRows
import Derived.OpenShut
import Derived.ChangeOld
import Derived.ChangeSame
import Derived.ChangeVars
import Derived.JoinedOf
import Derived.LaidLaws
import Derived.LaidHandle
import Derived.Stop.LaidErr
import Derived.Lib.LaidTab
import Derived.Below
import Derived.Deep.MidRow
import Derived.Great.Walk
import Derived.Great.BuildSlice
import Derived.RangeFuncBox
import Derived.RangeFuncNested
import Derived.RangeFuncLeaves
import Derived.Lib.TrimU
import Derived.Lib.OthersKept
import Derived.Deep.LoopGhost
import Derived.Laws.BitsAllLaws
import Derived.Laws.IdiomStrings
import Derived.Lib.AtoiTie
import Derived.Lib.ItoaNum
import Derived.Lib.ItoaMem
import Derived.Deep.DeepCutAuto
import Derived.Lib.CutLaws
import Derived.Deep.RegionWith
import Derived.Deep.RegionHeld3
import Derived.OwnWalkIn
import Derived.TacticsInMore
import Derived.RegionIn
import Derived.LoopNIn
import Derived.LoopIn
import Derived.Shelf.Abstract
set_option linter.unusedVariables false
set_option linter.unusedSimpArgs false
namespace Go.Proofs.YtplekbpmfaghbaaGreatDoor
open Go.RowKit
section
variable {P : Program} {w : World} {b : Nat} {kvs : List (ByteArray × Value)}
theorem MapIs.made : MapIs (w.alloc (.map #[] 0)) w.heap.size [] :=
  ⟨⟨#[], 0, heap_alloc_new w _, rfl, by simp, by simp⟩, by simp⟩
end
theorem belowS {w W : World} (h : Below w.heap.size w W) (n i : Nat) (hn : w.heap.size ≤ n) (u : Value) : Below w.heap.size w (W.setCell ⟨n, i, none⟩ u) := h.setCell hn u
section
variable {w : World} {B : Nat} {A : Option Addr} {n c : Nat}
end
theorem GV.ok_zero : GV.ok ⟨0, 0, ⟨#[]⟩⟩ := ⟨by unfold fits; decide, by unfold fits; decide, Nat.zero_le _⟩
theorem beq_str (a b : ByteArray) : (a.toList == b.toList) = decide (a = b) := by
  rw [Bool.eq_iff_iff]; simp [toList_inj]
section
variable {P : Program} {w : World} {it g : Nat} {kvs done : List (ByteArray × Value)}
end
end Go.Proofs.YtplekbpmfaghbaaGreatDoor

namespace Go.Proofs.YtplekbpmfaghbaaGreatDoor
open Go.ChangeShapes Go.WideShapes Go.ChangeAt Go.RowKit
set_option linter.unusedVariables false
theorem open_str' {H : Type} {enc : TypeId × Value → H} {P : Program} {w : World} {t : TypeId} {v : Value} {d : DataW H} {p : List MemPlace} {r : Reach} {b0 : Nat} (hs : P.underlying t = some .string) (hval : Value.okWide P w r b0 t v)
    (h : DataW.Trod enc P w 0 (fun _ => true) true t v d p) (hwt : ∀ n ∈ d.weights P t, n ≤ reachBytes) : ∃ s : ByteArray, v = .string s ∧ s.size ≤ reachN := by
  obtain ⟨fuel, hx⟩ := h
  obtain ⟨s0, rfl⟩ := okWide_string hs hval
  obtain ⟨s, e, hok⟩ := opens_str hs H enc w fuel _ _ hx hwt
  simp [Value.cells] at e
  subst e
  exact ⟨_, rfl, hok⟩
end Go.Proofs.YtplekbpmfaghbaaGreatDoor

namespace Go.Proofs.YtplekbpmfaghbaaGreatDoor
variable {wk : List UInt8 → Int}
theorem takeWhile_all {p : UInt8 → Bool} : ∀ (l : List UInt8) (c : UInt8), c ∈ l.takeWhile p → p c = true
  | [], c, h => by simp at h
  | d :: r, c, h => by
    rw [List.takeWhile_cons] at h
    split at h
    · rcases List.mem_cons.1 h with rfl | h
      · assumption
      · exact takeWhile_all r c h
    · simp at h
theorem take_run (l : List UInt8) : l.take (runL l) = l.takeWhile insB := by
  unfold runL
  exact (List.prefix_iff_eq_take.1 (List.takeWhile_prefix insB)).symm
theorem tok_text (l : List UInt8) (h : (tokL wk l).1 ≠ 0) : TextOf wk (tokL wk l).1 (l.take (tokL wk l).2) := by
  refine ⟨h, ?_⟩
  revert h
  unfold tokL
  split
  · rename_i h
    intro _
    refine .inl ⟨rfl, ?_, ?_, ?_⟩
    · intro he
      have := congrArg List.length he
      have h2 := runL_le l
      simp only [List.length_take, List.length_nil] at this; omega
    · intro c hc
      simp only [take_run] at hc
      exact takeWhile_all _ _ hc
    · cases l with
      | nil => simp [runL] at h
      | cons c r =>
        have h1 := h.1
        have h2 := h.2
        obtain ⟨k, hk⟩ : ∃ k, runL (c :: r) = k + 1 := ⟨runL (c :: r) - 1, by omega⟩
        simp only [hk, List.take_succ_cons]
        simpa using h2
  · split
    · rename_i s hs
      obtain ⟨h1, h2⟩ := sign_mem hs
      intro _
      refine .inr ⟨rfl, ?_⟩
      show l.take s.length ∈ signsL
      rw [← List.prefix_iff_eq_take.1 h2]; exact h1
    · intro h; simp at h
/-- behind a blank or at the end -/
def Cut (r : List UInt8) : Prop := r = [] ∨ ∃ r', r = 32 :: r'
theorem takeWhile_cut {t r : List UInt8} (h : ∀ c ∈ t, insB c = true) (hr : Cut r) : (t ++ r).takeWhile insB = t := by
  induction t with
  | nil =>
    rcases hr with rfl | ⟨r', rfl⟩
    · rfl
    · rfl
  | cons c t ih =>
    rw [List.cons_append, List.takeWhile_cons, h c (List.mem_cons_self ..)]
    simp only [if_true]
    rw [ih fun d hd => h d (List.mem_cons_of_mem _ hd)]
theorem ins_skip {c : UInt8} (h : insB c = true) : blankB c = false ∧ c ≠ 37 := by
  refine ⟨?_, ?_⟩
  · unfold blankB
    have : ∀ d : UInt8, d = 9 ∨ d = 10 ∨ d = 32 ∨ d = 13 → insB d = false := by rintro d (rfl | rfl | rfl | rfl) <;> decide
    by_cases h9 : c = 9 ∨ c = 10 ∨ c = 32 ∨ c = 13
    · rw [this c h9] at h; cases h
    · simp only [not_or] at h9; simp [h9]
  · rintro rfl; revert h; decide
theorem text_skip {q : Int} {t : List UInt8} (h : TextOf wk q t) (r : List UInt8) : t ≠ [] ∧ skipG false (t ++ r) = 0 := by
  rcases h.2 with ⟨-, h1, h2, -⟩ | ⟨-, h1⟩
  · refine ⟨h1, ?_⟩
    cases t with
    | nil => exact absurd rfl h1
    | cons c t =>
      obtain ⟨h3, h4⟩ := ins_skip (h2 c (List.mem_cons_self ..))
      simp [skipG, h3, h4]
  · refine ⟨by rintro rfl; revert h1; decide, ?_⟩
    simp only [signsL, List.mem_cons, List.not_mem_nil, or_false] at h1
    rcases h1 with rfl | rfl | rfl | rfl | rfl | rfl | rfl | rfl | rfl | rfl | rfl | rfl | rfl | rfl <;> simp [skipG, blankB]
theorem text_tok {q : Int} {t : List UInt8} (h : TextOf wk q t) {r : List UInt8} (hr : Cut r) : tokL wk (t ++ r) = (q, t.length) := by
  rcases h.2 with ⟨h0, h1, h2, h3⟩ | ⟨h0, h1⟩
  · have e := takeWhile_cut h2 hr
    have e1 : runL (t ++ r) = t.length := by unfold runL; rw [e]
    have e2 : (t ++ r).head? = t.head? := by cases t with
      | nil => exact absurd rfl h1
      | cons c t => rfl
    unfold tokL
    rw [e1, e2, if_pos ⟨List.length_pos_iff.2 h1, h3⟩]
    simp [h0]
  · subst h0
    simp only [signsL, List.mem_cons, List.not_mem_nil, or_false] at h1
    rcases hr with rfl | ⟨r', rfl⟩ <;>
    rcases h1 with rfl | rfl | rfl | rfl | rfl | rfl | rfl | rfl | rfl | rfl | rfl | rfl | rfl | rfl <;> simp [tokL, runL, insB, signsL, List.find?, List.isPrefixOf]
def joinS : List (List UInt8) → List UInt8
  | [] => []
  | [t] => t
  | t :: r => t ++ 32 :: joinS r
theorem joinS_cut (t : List UInt8) (r : List (List UInt8)) : ∃ s, joinS (t :: r) = t ++ s ∧ Cut s ∧ (r = [] → s = []) ∧ (r ≠ [] → s = 32 :: joinS r) := by
  cases r with
  | nil => exact ⟨[], by simp [joinS], .inl rfl, fun _ => rfl, fun h => absurd rfl h⟩
  | cons u r => exact ⟨32 :: joinS (u :: r), rfl, .inr ⟨_, rfl⟩, fun h => (by cases h), fun _ => rfl⟩
/-- the same tokens, but for their places -/
def Same (l m : List GTok) : Prop := l.map (fun q => (q.k, q.t)) = m.map (fun q => (q.k, q.t))
theorem skip_blank (r : List UInt8) : skipG false (32 :: r) = 1 + skipG false r := by simp [skipG, blankB]
theorem lexA_blank (a : Nat) (r : List UInt8) : lexA wk a (32 :: r) = lexA wk (a + 1) r := by
  have e : (32 :: r).drop (skipG false (32 :: r)) = r.drop (skipG false r) := by rw [skip_blank, Nat.add_comm]; rfl
  have e2 : a + skipG false (32 :: r) = a + 1 + skipG false r := by rw [skip_blank]; omega
  by_cases h : r.drop (skipG false r) = []
  · rw [lexA_nil _ _ h, lexA_nil _ _ (by rw [e]; exact h)]
  by_cases h0 : (tokL wk (r.drop (skipG false r))).1 = 0
  · rw [lexA_bad _ _ h h0, lexA_bad _ _ (by rw [e]; exact h) (by rw [e]; exact h0), e2]
  · rw [lexA_tok _ _ h h0, lexA_tok _ _ (by rw [e]; exact h) (by rw [e]; exact h0), e, e2]
theorem lex_back : ∀ (l : List GTok) (a : Nat), (∀ q ∈ l, TextOf wk q.k q.t) → (lexA wk a (joinS (l.map GTok.t))).2 = none ∧ Same (lexA wk a (joinS (l.map GTok.t))).1 l
  | [], a, h => by simp [joinS, lexA, lexF, Same]
  | q :: l, a, h => by
    obtain ⟨s, hs, hc, h1, h2⟩ := joinS_cut q.t (l.map GTok.t)
    have ht := h q (List.mem_cons_self ..)
    obtain ⟨hne, hsk⟩ := text_skip ht s
    have htk := text_tok ht hc
    rw [List.map_cons, hs]
    have e : (q.t ++ s).drop (skipG false (q.t ++ s)) = q.t ++ s := by rw [hsk]; rfl
    have hn : (q.t ++ s).drop (skipG false (q.t ++ s)) ≠ [] := by rw [e]; simp [hne]
    have h0 : (tokL wk ((q.t ++ s).drop (skipG false (q.t ++ s)))).1 ≠ 0 := by rw [e, htk]; exact ht.1
    rw [lexA_tok _ _ hn h0, e, htk]
    simp only [List.take_left', List.drop_left']
    have hrec : (lexA wk (a + skipG false (q.t ++ s) + q.t.length) s).2 = none ∧ Same (lexA wk (a + skipG false (q.t ++ s) + q.t.length) s).1 l := by
      by_cases hl : l = []
      · subst hl
        rw [h1 rfl]
        simp [lexA, lexF, Same]
      · rw [h2 (by simpa using hl), lexA_blank]
        exact lex_back l _ fun p hp => h p (List.mem_cons_of_mem _ hp)
    refine ⟨hrec.1, ?_⟩
    unfold Same
    simp only [List.map_cons]
    rw [hrec.2]
theorem lex_texts : ∀ (n a : Nat) (l : List UInt8), l.length ≤ n → ∀ q ∈ (lexA wk a l).1, TextOf wk q.k q.t
  | 0, a, l, hn, q, hq => by
    obtain rfl : l = [] := List.eq_nil_of_length_eq_zero (by omega)
    simp [lexA, lexF] at hq
  | n + 1, a, l, hn, q, hq => by
    by_cases h : l.drop (skipG false l) = []
    · rw [lexA_nil _ _ h] at hq; simp at hq
    by_cases h0 : (tokL wk (l.drop (skipG false l))).1 = 0
    · rw [lexA_bad _ _ h h0] at hq; simp at hq
    have h3 := tokL_len _ h0
    rw [lexA_tok _ _ h h0] at hq
    simp only [List.length_drop] at h3
    rcases List.mem_cons.1 hq with rfl | hq
    · exact tok_text _ h0
    · exact lex_texts n _ _ (by simp only [List.length_drop]; omega) q hq
end Go.Proofs.YtplekbpmfaghbaaGreatDoor

namespace Go.Proofs.YtplekbpmfaghbaaGreatDoor
open Go.RowKit
theorem SliceIs.up {α : Type} {E E' : Enc α} {w : World} {B : Nat} {A : Option Addr} {n c : Nat} {l : List α} (hs : E'.sz = E.sz) (h : ∀ cs x, E.ok w B cs x → E'.ok w B cs x) (hl : SliceIs E w B A n c l) : SliceIs E' w B A n c l := by
  obtain ⟨h1, h2, h3, hr, h4⟩ := hl
  refine ⟨h1, h2, h3, hr, ?_⟩
  rcases h4 with h4 | ⟨b, o, hA, hb, hc⟩
  · exact .inl h4
  · refine .inr ⟨b, o, hA, hb, fun i x hx => ?_⟩
    obtain ⟨cs, hok, hcs⟩ := hc i x hx
    exact ⟨cs, h cs x hok, by rw [hs]; exact hcs⟩
theorem exp_up1 : ∀ (d : Nat) (w : World) (B : Nat) (cs : List Value) (x : GExp), (Enc.exp d).ok w B cs x → (Enc.exp (d + 1)).ok w B cs x
  | 0, _, _, _, _, h => h.elim
  | d + 1, w, B, cs, x, h => by
    obtain ⟨A, n, c, rfl, h1, h2, h3, h4⟩ := h
    exact ⟨A, n, c, rfl, h1, h2, h3, h4.up (by rw [Enc.exp_sz, Enc.exp_sz]) (fun cs x => exp_up1 d w B cs x)⟩
theorem exp_up {w : World} {B : Nat} {cs : List Value} {x : GExp} : ∀ (k d : Nat), (Enc.exp d).ok w B cs x → (Enc.exp (d + k)).ok w B cs x
  | 0, _, h => h
  | k + 1, d, h => exp_up1 (d + k) w B cs x (exp_up k d h)
theorem kids_up {d d' : Nat} {w : World} {B : Nat} {A : Option Addr} {n c : Nat} {l : List GExp} (hd : d ≤ d') (h : SliceIs (Enc.exp d) w B A n c l) : SliceIs (Enc.exp d') w B A n c l :=
  h.up (by rw [Enc.exp_sz, Enc.exp_sz]) (fun cs x hx => by
    have := exp_up (d' - d) d hx
    rwa [show d + (d' - d) = d' by omega] at this)
theorem LitAt.up {d d' : Nat} {w : World} {B : Nat} {x : GLit} {a p q : Hd} (hd : d ≤ d') (h : LitAt d w B x a p q) : LitAt d' w B x a p q :=
  ⟨h.k, h.op, h.pos, h.rel, h.args, h.lop, h.lx, h.lv, kids_up hd h.lk, h.rop, h.rx, h.rv, kids_up hd h.rk⟩
def zE : GExp := .mk 0 zT []
end Go.Proofs.YtplekbpmfaghbaaGreatDoor

namespace Go.Proofs.YtplekbpmfaghbaaGreatDoor
open Go.RowKit
def PS.up (s : PS) : PS := ⟨s.next + 1, s.deep, s.pl, s.err⟩
/-- what a token of digits is -/
def numT (l : List UInt8) : Int := match Lib.atoiAll l with
  | .ok n => n
  | _ => 0
section
variable (T : List GTok) (E : Nat)
def peekP (s : PS) (k : Nat) : GTok := (T[s.next + k]?).getD ⟨0, [], E⟩
def failP (s : PS) (a : Nat) (e : Int) : PS := if s.err = 0 then ⟨T.length, s.deep, a, e⟩ else s
def isP (s : PS) (t : List UInt8) : Bool := (decide ((peekP T E s 0).k = 1) || decide ((peekP T E s 0).k = 5)) && decide ((peekP T E s 0).t = t)
def wantP (s : PS) (t : List UInt8) : PS := if isP T E s t = true then s.up else failP T s (peekP T E s 0).a 2
def mayP (s : PS) (t : List UInt8) : PS := if isP T E s t = true then s.up else s
def takeP (s : PS) (k : Int) : PS := if (peekP T E s 0).k = k then s.up else failP T s (peekP T E s 0).a 2
def takeT (s : PS) (k : Int) : List UInt8 := if (peekP T E s 0).k = k then (peekP T E s 0).t else []
/-- things with commas between -/
def loopP {σ : Type} (most : Nat) (rd : Nat → PS × σ → PS × σ) : Nat → Nat → PS × σ → PS × σ
  | 0, _, x => x
  | f + 1, i, x => if x.1.err ≠ 0 then x else if most ≤ i then (failP T x.1 (peekP T E x.1 0).a 3, x.2) else
      if isP T E (rd i x).1 [44] = true then loopP most rd f (i + 1) ((rd i x).1.up, (rd i x).2) else rd i x
def commasP {σ : Type} (most : Nat) (rd : Nat → PS × σ → PS × σ) (x : PS × σ) : PS × σ :=
  if isP T E (wantP T E x.1 [40]) [41] = true then ((wantP T E x.1 [40]).up, x.2)
  else (wantP T E (loopP T E most rd (most + 1) 0 (wantP T E x.1 [40], x.2)).1 [41], (loopP T E most rd (most + 1) 0 (wantP T E x.1 [40], x.2)).2)
def termP (s : PS) : PS × GTold :=
  let s1 := mayP T E s [45]
  let q := peekP T E s1 0
  if q.k = 4 then (s1.up, ⟨⟨#[]⟩, ⟨1, (if isP T E s [45] = true then -1 else 1) * numT q.t, ⟨#[]⟩⟩⟩)
  else if isP T E s [45] = true then (failP T s1 q.a 2, zT)
  else if q.k = 3 then (s1.up, ⟨bytes q.t, gv0⟩)
  else if q.k = 2 then (s1.up, ⟨⟨#[]⟩, ⟨2, 0, bytes q.t⟩⟩)
  else (failP T s1 q.a 2, zT)
def argsR (_ : Nat) (x : PS × List GTold) : PS × List GTold := ((termP T E x.1).1, x.2 ++ [(termP T E x.1).2])
def atomP (s : PS) : PS × GAtom :=
  let y := commasP T E 6 (argsR T E) (takeP T E s 2, [])
  (y.1, ⟨bytes (takeT T E s 2), y.2⟩)
/-- which aggregate a word is; 0: none -/
def aggN (t : List UInt8) : Nat := if t = [99, 111, 117, 110, 116] then 1 else if t = [115, 117, 109] then 2 else if t = [109, 105, 110] then 3 else if t = [109, 97, 120] then 4 else 0
/-- a head under way: arguments, aggregate, column -/
structure PH where
  args : List GTold
  agg : Int
  col : Int
def headR (i : Nat) (x : PS × PH) : PS × PH :=
  let q := peekP T E x.1 0
  if q.k = 1 ∧ aggN q.t ≠ 0 then
    let s1 := if 0 < x.2.agg then failP T x.1 q.a 2 else x.1
    let s2 := wantP T E (wantP T E s1 q.t) [40]
    (wantP T E (takeP T E s2 3) [41], ⟨x.2.args ++ [⟨bytes (takeT T E s2 3), gv0⟩], aggN q.t, i⟩)
  else ((termP T E x.1).1, ⟨x.2.args ++ [(termP T E x.1).2], x.2.agg, x.2.col⟩)
def headP (s : PS) : PS × PH := commasP T E 6 (headR T E) (takeP T E s 2, ⟨[], 0, 0⟩)
/-- an operand, where inner reads what stands in brackets (none: too deep) -/
def operandP (inner : Option (PS → PS × GExp)) (s : PS) : PS × GExp :=
  if isP T E s [40] = true then match inner with
    | none => (failP T s (peekP T E s 0).a 4, zE)
    | some sum =>
      let y := sum (wantP T E ⟨s.next, s.deep + 1, s.pl, s.err⟩ [40])
      let s2 := wantP T E y.1 [41]
      (⟨s2.next, s2.deep - 1, s2.pl, s2.err⟩, y.2)
  else ((termP T E s).1, .mk 0 (termP T E s).2 [])
def prodL (op : PS → PS × GExp) : Nat → PS × GExp → PS × GExp
  | 0, x => x
  | f + 1, x => if isP T E x.1 [42] = true then prodL op f ((op x.1.up).1, .mk 3 zT [x.2, (op x.1.up).2]) else x
def productP (op : PS → PS × GExp) (s : PS) : PS × GExp := prodL T E op T.length (op s)
def sumL (pr : PS → PS × GExp) : Nat → PS × GExp → PS × GExp
  | 0, x => x
  | f + 1, x => if isP T E x.1 [43] = true then sumL pr f ((pr x.1.up).1, .mk 1 zT [x.2, (pr x.1.up).2])
    else if isP T E x.1 [45] = true then sumL pr f ((pr x.1.up).1, .mk 2 zT [x.2, (pr x.1.up).2]) else x
def sumOf (op : PS → PS × GExp) (s : PS) : PS × GExp := sumL T E (productP T E op) T.length (productP T E op s)
/-- an expression, with so many brackets left -/
def sumP : Nat → PS → PS × GExp
  | 0 => sumOf T E (operandP T E none)
  | n + 1 => sumOf T E (operandP T E (some (sumP n)))
/-- which comparison a sign is; 0: none -/
def sgnN (t : List UInt8) : Nat := if t = [61] then 1 else if t = [33, 61] then 2 else if t = [60] then 3 else if t = [60, 61] then 4 else if t = [62] then 5 else if t = [62, 61] then 6 else 0
def comparedP (p : Nat) (s : PS) : PS × GLit :=
  let x := sumP T E 20 s
  let q := peekP T E x.1 0
  if q.k = 5 ∧ sgnN q.t ≠ 0 then
    let y := sumP T E 20 (wantP T E x.1 q.t)
    (if y.1.err = 0 ∧ ¬ (rightE 20 x.2 = true ∧ rightE 20 y.2 = true) then failP T y.1 p 4 else y.1, ⟨3, ⟨⟨#[]⟩, []⟩, sgnN q.t, x.2, y.2, p⟩)
  else (failP T x.1 q.a 2, ⟨3, ⟨⟨#[]⟩, []⟩, sgnN q.t, x.2, zE, p⟩)
def literalP (s : PS) : PS × GLit :=
  let p := (peekP T E s 0).a
  if isP T E s [110, 111, 116] = true then ((atomP T E s.up).1, ⟨2, (atomP T E s.up).2, 0, zE, zE, p⟩)
  else if (peekP T E s 0).k = 2 ∧ (peekP T E s 1).k = 5 ∧ (peekP T E s 1).t = [40] then ((atomP T E s).1, ⟨1, (atomP T E s).2, 0, zE, zE, p⟩)
  else comparedP T E p s
def bodyR (_ : Nat) (x : PS × List GLit) : PS × List GLit := ((literalP T E x.1).1, x.2 ++ [(literalP T E x.1).2])
def bodyP (s : PS) : PS × List GLit := if isP T E s [58, 45] = true then loopP T E 8 (bodyR T E) 9 0 (s.up, []) else (s, [])
def ruleP (s : PS) : PS × GRule :=
  let p := (peekP T E s 0).a
  let h := headP T E s
  let b := bodyP T E h.1
  (wantP T E b.1 [46], ⟨⟨bytes (takeT T E s 2), h.2.args⟩, h.2.agg, h.2.col, b.2, p⟩)
def kindR (_ : Nat) (x : PS × List Int) : PS × List Int :=
  if isP T E x.1 [105, 110, 116] = true then (x.1.up, x.2 ++ [1]) else (wantP T E x.1 [115, 121, 109], x.2 ++ [2])
def relW : List UInt8 := [114, 101, 108]
def declP (s : PS) : PS × GDecl :=
  let p := (peekP T E s 0).a
  let s1 := wantP T E s relW
  let y := commasP T E 6 (kindR T E) (takeP T E s1 2, [])
  (wantP T E y.1 [46], ⟨bytes (takeT T E s1 2), y.2, p⟩)
def progL : Nat → PS × GProg → PS × GProg
  | 0, x => x
  | f + 1, x => if x.1.err = 0 ∧ x.1.next < T.length then
      if isP T E x.1 relW = true then
        if 32 ≤ x.2.decls.length then (failP T x.1 (peekP T E x.1 0).a 3, x.2)
        else progL f ((declP T E x.1).1, ⟨x.2.decls ++ [(declP T E x.1).2], x.2.rules⟩)
      else
        if 64 ≤ x.2.rules.length then (failP T x.1 (peekP T E x.1 0).a 3, x.2)
        else progL f ((ruleP T E x.1).1, ⟨x.2.decls, x.2.rules ++ [(ruleP T E x.1).2]⟩)
    else x
def programP (s : PS) : PS × GProg := progL T E T.length (s, ⟨[], []⟩)
/-- behind all: what is left is a fault -/
def lastP (s : PS) : PS := if s.next < T.length then failP T s (peekP T E s 0).a 2 else s
end
def ps0 : PS := ⟨0, 0, 0, 0⟩
/-- a whole text: what is read, where it fails, and how -/
def wholeP {α : Type} (zero : α) (rd : List GTok → Nat → PS → PS × α) (l : List UInt8) : α × Nat × Int :=
  if 4000 < l.length then (zero, 4000, 3) else match (lexS l).2 with
    | some p => (zero, p, 2)
    | none =>
      let y := rd (lexS l).1 l.length ps0
      let s := lastP (lexS l).1 l.length y.1
      if s.err = 0 then (y.2, 0, 0) else (zero, s.pl, s.err)
end Go.Proofs.YtplekbpmfaghbaaGreatDoor

namespace Go.Proofs.YtplekbpmfaghbaaGreatDoor
open Go.RowKit
section
variable {T : List GTok} {E : Nat}
/-- tokens stand within the text -/
def Within (T : List GTok) (E : Nat) : Prop := ∀ q ∈ T, q.a ≤ E
theorem peek_some {s : PS} {k : Nat} (h : (peekP T E s k).k ≠ 0) : s.next + k < T.length := by
  unfold peekP at h
  rcases Nat.lt_or_ge (s.next + k) T.length with hl | hl
  · exact hl
  · rw [List.getElem?_eq_none hl] at h; exact absurd rfl h
theorem peek_at {s : PS} {k : Nat} (h : s.next + k < T.length) : T[s.next + k]? = some (peekP T E s k) := by
  unfold peekP
  rw [List.getElem?_eq_getElem h]; rfl
theorem peek_none {s : PS} {k : Nat} (h : T.length ≤ s.next + k) : peekP T E s k = ⟨0, [], E⟩ := by
  unfold peekP
  rw [List.getElem?_eq_none h]; rfl
theorem peek_le (hW : Within T E) (s : PS) (k : Nat) : (peekP T E s k).a ≤ E := by
  rcases Nat.lt_or_ge (s.next + k) T.length with hl | hl
  · exact hW _ (List.mem_of_getElem? (peek_at hl))
  · rw [peek_none hl]; exact Nat.le_refl _
theorem is_some {s : PS} {t : List UInt8} (h : isP T E s t = true) : s.next < T.length := by
  have h1 : (peekP T E s 0).k ≠ 0 := by
    intro e
    unfold isP at h
    rw [e] at h
    simp at h
  simpa using peek_some h1
theorem is_err {s : PS} {t : List UInt8} (hf : Fine T E s) (h : isP T E s t = true) : s.err = 0 := by
  apply Classical.byContradiction
  intro he
  have := is_some h
  have := hf.fail he
  omega
theorem take_some {s : PS} {k : Int} (hk : k ≠ 0) (h : (peekP T E s 0).k = k) : s.next < T.length := by
  simpa using peek_some (s := s) (k := 0) (E := E) (by rw [h]; exact hk)
theorem up_adv {s : PS} (h : s.next < T.length) : Adv T E s s.up :=
  ⟨Nat.le_succ _, rfl, fun f => ⟨h, fun he => by have := f.fail he; omega, f.pl, f.err⟩, id⟩
theorem fail_adv (s : PS) {a : Nat} {e : Int} (hn : s.next ≤ T.length) (ha : a ≤ E) (he : 1 ≤ e ∧ e ≤ 4) : Adv T E s (failP T s a e) := by
  unfold failP
  split
  · exact ⟨hn, rfl, fun _ => ⟨Nat.le_refl _, fun _ => rfl, ha, by show 0 ≤ e; omega, he.2⟩, fun h => by omega⟩
  · exact Adv.refl s
theorem want_adv (hW : Within T E) (s : PS) (t : List UInt8) (hn : s.next ≤ T.length) : Adv T E s (wantP T E s t) := by
  unfold wantP
  split
  · exact up_adv (is_some ‹_›)
  · exact fail_adv s hn (peek_le hW s 0) (by omega)
theorem may_adv (s : PS) (t : List UInt8) : Adv T E s (mayP T E s t) := by
  unfold mayP
  split
  · exact up_adv (is_some ‹_›)
  · exact Adv.refl s
theorem take_adv (hW : Within T E) (s : PS) {k : Int} (hk : k ≠ 0) (hn : s.next ≤ T.length) : Adv T E s (takeP T E s k) := by
  unfold takeP
  split
  · exact up_adv (take_some hk ‹_›)
  · exact fail_adv s hn (peek_le hW s 0) (by omega)
theorem want_goes (hW : Within T E) (s : PS) (t : List UInt8) : Goes T E s (wantP T E s t) := fun f => want_adv hW s t f.next
theorem may_goes (s : PS) (t : List UInt8) : Goes T E s (mayP T E s t) := fun _ => may_adv s t
theorem take_goes (hW : Within T E) (s : PS) {k : Int} (hk : k ≠ 0) : Goes T E s (takeP T E s k) := fun f => take_adv hW s hk f.next
theorem fail_goes (s : PS) {a : Nat} {e : Int} (ha : a ≤ E) (he : 1 ≤ e ∧ e ≤ 4) : Goes T E s (failP T s a e) := fun f => fail_adv s f.next ha he
theorem up_goes {s : PS} (h : s.next < T.length) : Goes T E s s.up := fun _ => up_adv h
theorem loop_goes (hW : Within T E) {σ : Type} (most : Nat) (rd : Nat → PS × σ → PS × σ) (hr : ∀ i x, Goes T E x.1 (rd i x).1) : ∀ (f i : Nat) (x : PS × σ), Goes T E x.1 (loopP T E most rd f i x).1
  | 0, _, x => Goes.refl _
  | f + 1, i, x => by
    rw [loopP]
    split
    · exact Goes.refl _
    · split
      · exact fail_goes _ (peek_le hW _ _) (by omega)
      · split
        · exact (hr i x).trans ((up_goes (is_some ‹_›)).trans (loop_goes hW most rd hr f (i + 1) ((rd i x).1.up, (rd i x).2)))
        · exact hr i x
theorem commas_goes (hW : Within T E) {σ : Type} (most : Nat) (rd : Nat → PS × σ → PS × σ) (hr : ∀ i x, Goes T E x.1 (rd i x).1) (x : PS × σ) : Goes T E x.1 (commasP T E most rd x).1 := by
  unfold commasP
  split
  · exact (want_goes hW _ _).trans (up_goes (is_some ‹_›))
  · exact (want_goes hW _ _).trans ((loop_goes hW most rd hr _ _ (wantP T E x.1 [40], x.2)).trans (want_goes hW _ _))
theorem term_goes (hW : Within T E) (s : PS) : Goes T E s (termP T E s).1 := by
  have h4 : ∀ {k : Int}, k ≠ 0 → (peekP T E (mayP T E s [45]) 0).k = k → Goes T E s (mayP T E s [45]).up := fun hk h => (may_goes s _).trans (up_goes (take_some hk h))
  have hf : Goes T E s (failP T (mayP T E s [45]) (peekP T E (mayP T E s [45]) 0).a 2) := (may_goes s _).trans (fail_goes _ (peek_le hW _ _) (by omega))
  unfold termP
  dsimp only
  by_cases k4 : (peekP T E (mayP T E s [45]) 0).k = 4
  · rw [if_pos k4]; exact h4 (by decide) k4
  · rw [if_neg k4]
    by_cases hm : isP T E s [45] = true
    · rw [if_pos hm]; exact hf
    · rw [if_neg hm]
      by_cases k3 : (peekP T E (mayP T E s [45]) 0).k = 3
      · rw [if_pos k3]; exact h4 (by decide) k3
      · rw [if_neg k3]
        by_cases k2 : (peekP T E (mayP T E s [45]) 0).k = 2
        · rw [if_pos k2]; exact h4 (by decide) k2
        · rw [if_neg k2]; exact hf
theorem atom_goes (hW : Within T E) (s : PS) : Goes T E s (atomP T E s).1 :=
  (take_goes hW s (k := 2) (by decide)).trans (commas_goes hW 6 (argsR T E) (fun _ x => term_goes hW x.1) (takeP T E s 2, []))
theorem headR_goes (hW : Within T E) (i : Nat) (x : PS × PH) : Goes T E x.1 (headR T E i x).1 := by
  unfold headR
  dsimp only
  split
  · refine Goes.trans (s1 := if 0 < x.2.agg then failP T x.1 (peekP T E x.1 0).a 2 else x.1) ?_ ((want_goes hW _ _).trans ((want_goes hW _ _).trans ((take_goes hW _ (by decide)).trans (want_goes hW _ _))))
    split
    · exact fail_goes _ (peek_le hW _ _) (by omega)
    · exact Goes.refl _
  · exact term_goes hW x.1
theorem head_goes (hW : Within T E) (s : PS) : Goes T E s (headP T E s).1 :=
  (take_goes hW s (k := 2) (by decide)).trans (commas_goes hW 6 (headR T E) (headR_goes hW) (takeP T E s 2, ⟨[], 0, 0⟩))
theorem deep_goes {s : PS} {d : Nat} (s' : PS) (h : Goes T E ⟨s.next, d, s.pl, s.err⟩ s') : Fine T E s → s.next ≤ s'.next ∧ s'.deep = d ∧ Fine T E s' ∧ (s.err ≠ 0 → s'.err ≠ 0) := fun f => by
  have a := h ⟨f.next, f.fail, f.pl, f.err⟩
  exact ⟨a.le, a.deep, a.fine ⟨f.next, f.fail, f.pl, f.err⟩, a.err⟩
theorem operand_goes (hW : Within T E) (inner : Option (PS → PS × GExp)) (hi : ∀ f, inner = some f → ∀ s, Goes T E s (f s).1) (s : PS) : Goes T E s (operandP T E inner s).1 := by
  unfold operandP
  split
  · split
    · exact fail_goes _ (peek_le hW _ _) (by omega)
    · rename_i sum
      intro f
      have h := deep_goes (s := s) (d := s.deep + 1) _ ((want_goes hW ⟨s.next, s.deep + 1, s.pl, s.err⟩ [40]).trans ((hi sum rfl _).trans (want_goes hW _ [41]))) f
      obtain ⟨h1, h2, h3, h4⟩ := h
      exact ⟨h1, by show _ - 1 = _; rw [h2]; omega, fun _ => ⟨h3.next, h3.fail, h3.pl, h3.err⟩, h4⟩
  · exact term_goes hW s
theorem prodL_goes {op : PS → PS × GExp} (ho : ∀ s, Goes T E s (op s).1) : ∀ (f : Nat) (x : PS × GExp), Goes T E x.1 (prodL T E op f x).1
  | 0, x => Goes.refl _
  | f + 1, x => by
    rw [prodL]
    split
    · exact (up_goes (is_some ‹_›)).trans ((ho _).trans (prodL_goes ho f ((op x.1.up).1, .mk 3 zT [x.2, (op x.1.up).2])))
    · exact Goes.refl _
theorem product_goes {op : PS → PS × GExp} (ho : ∀ s, Goes T E s (op s).1) (s : PS) : Goes T E s (productP T E op s).1 := (ho s).trans (prodL_goes ho T.length (op s))
theorem sumL_goes {pr : PS → PS × GExp} (ho : ∀ s, Goes T E s (pr s).1) : ∀ (f : Nat) (x : PS × GExp), Goes T E x.1 (sumL T E pr f x).1
  | 0, x => Goes.refl _
  | f + 1, x => by
    rw [sumL]
    split
    · exact (up_goes (is_some ‹_›)).trans ((ho _).trans (sumL_goes ho f ((pr x.1.up).1, .mk 1 zT [x.2, (pr x.1.up).2])))
    · split
      · exact (up_goes (is_some ‹_›)).trans ((ho _).trans (sumL_goes ho f ((pr x.1.up).1, .mk 2 zT [x.2, (pr x.1.up).2])))
      · exact Goes.refl _
theorem sumOf_goes {op : PS → PS × GExp} (ho : ∀ s, Goes T E s (op s).1) (s : PS) : Goes T E s (sumOf T E op s).1 := (product_goes ho s).trans (sumL_goes (product_goes ho) T.length (productP T E op s))
theorem sum_goes (hW : Within T E) : ∀ (n : Nat) (s : PS), Goes T E s (sumP T E n s).1
  | 0, s => sumOf_goes (operand_goes hW none (fun f h => by cases h)) s
  | n + 1, s => sumOf_goes (operand_goes hW (some (sumP T E n)) (fun f h => by injection h with h; subst h; exact sum_goes hW n)) s
theorem compared_goes (hW : Within T E) (p : Nat) (hp : p ≤ E) (s : PS) : Goes T E s (comparedP T E p s).1 := by
  unfold comparedP
  dsimp only
  split
  · refine Goes.trans (sum_goes hW 20 s) (Goes.trans (want_goes hW (sumP T E 20 s).1 (peekP T E (sumP T E 20 s).1 0).t) (Goes.trans (sum_goes hW 20 (wantP T E (sumP T E 20 s).1 (peekP T E (sumP T E 20 s).1 0).t)) ?_))
    split
    · exact fail_goes _ hp (by omega)
    · exact Goes.refl _
  · exact (sum_goes hW 20 s).trans (fail_goes _ (peek_le hW _ _) (by omega))
theorem literal_goes (hW : Within T E) (s : PS) : Goes T E s (literalP T E s).1 := by
  unfold literalP
  dsimp only
  split
  · exact (up_goes (is_some ‹_›)).trans (atom_goes hW _)
  · split
    · exact atom_goes hW s
    · exact compared_goes hW _ (peek_le hW _ _) s
theorem body_goes (hW : Within T E) (s : PS) : Goes T E s (bodyP T E s).1 := by
  unfold bodyP
  split
  · exact (up_goes (is_some ‹_›)).trans (loop_goes hW 8 (bodyR T E) (fun _ x => literal_goes hW x.1) 9 0 (s.up, []))
  · exact Goes.refl _
theorem rule_goes (hW : Within T E) (s : PS) : Goes T E s (ruleP T E s).1 := (head_goes hW s).trans ((body_goes hW _).trans (want_goes hW _ _))
theorem kindR_goes (hW : Within T E) (i : Nat) (x : PS × List Int) : Goes T E x.1 (kindR T E i x).1 := by
  unfold kindR
  split
  · exact up_goes (is_some ‹_›)
  · exact want_goes hW _ _
theorem decl_goes (hW : Within T E) (s : PS) : Goes T E s (declP T E s).1 :=
  (want_goes hW s relW).trans ((take_goes hW _ (k := 2) (by decide)).trans ((commas_goes hW 6 (kindR T E) (kindR_goes hW) (takeP T E (wantP T E s relW) 2, [])).trans (want_goes hW _ _)))
/-- a rule or a declaration takes a token at least -/
theorem head_more {s : PS} (f : Fine T E s) (h : s.next < T.length) : s.next < (takeP T E s 2).next := by
  have he : s.err = 0 := Classical.byContradiction fun e => by have := f.fail e; omega
  unfold takeP
  split
  · show s.next < s.next + 1; omega
  · unfold failP; rw [if_pos he]; exact h
theorem rule_more (hW : Within T E) {s : PS} (f : Fine T E s) (h : s.next < T.length) : s.next < (ruleP T E s).1.next := by
  have h1 := head_more f h
  have h2 := ((commas_goes hW 6 (headR T E) (headR_goes hW) (takeP T E s 2, ⟨[], 0, 0⟩)).trans ((body_goes hW _).trans (want_goes hW _ [46]))) ((take_goes hW s (by decide) f).fine f)
  exact Nat.lt_of_lt_of_le h1 h2.le
theorem decl_more (hW : Within T E) {s : PS} (f : Fine T E s) (h : isP T E s relW = true) : s.next < (declP T E s).1.next := by
  have h2 := ((take_goes hW _ (k := 2) (by decide)).trans ((commas_goes hW 6 (kindR T E) (kindR_goes hW) (takeP T E (wantP T E s relW) 2, [])).trans (want_goes hW _ [46]))) ((want_goes hW s relW f).fine f)
  refine Nat.lt_of_lt_of_le ?_ h2.le
  unfold wantP
  rw [if_pos h]
  show s.next < s.next + 1
  omega
end
end Go.Proofs.YtplekbpmfaghbaaGreatDoor
