/- My own texts TSize, ShowSz, PaLaw, PaAdv, CpLit, CpRule, as far as this claim needs them. -/
import Derived.Test.YtaeedepojpablaaGreatDoorZq9
set_option linter.unusedVariables false
set_option linter.unusedSimpArgs false
set_option maxRecDepth 1000000
set_option maxHeartbeats 16000000
namespace Go.Proofs.YtaeedepojpablaaGreatDoor
open Go.RowKit
abbrev atomC (x : GAtom) (a : Hd) : List Value := [.string x.rel, a.v]
theorem range_off {w : World} {g o : Nat} {T : TypeId} {cs cs' : List Value} (h : w.heap[g]? = some (.cells cs.toArray T (0, 0))) (hc : (cs.drop o).take cs'.length = cs') : w.rangeAt g o cs' := fun j v hj => by
 rw [cell_of_row _ _ _ _ _ _ h]; rw [← hc, List.getElem?_take] at hj; split at hj
 ·rw [List.getElem?_drop] at hj; simpa using hj
 ·cases hj
theorem exp_size (e : GExp) (A : Option Addr) (n c : Nat) : (Tryz.prog.info? 78).map (·.size) = some (expC e A n c).length := by
 show _ = some 6; kernel_rfl
theorem atom_size (x : GAtom) (a : Hd) : (Tryz.prog.info? 53).map (·.size) = some (atomC x a).length := by
 show _ = some 2; kernel_rfl
abbrev progC (a b : Hd) : List Value := [a.v, b.v]
end Go.Proofs.YtaeedepojpablaaGreatDoor

namespace Go.Proofs.YtaeedepojpablaaGreatDoor
open Go.RowKit
theorem SliceIs.up {α : Type} {E E' : Enc α} {w : World} {B : Nat} {A : Option Addr} {n c : Nat} {l : List α} (hs : E'.sz = E.sz) (h : ∀ cs x, E.ok w B cs x → E'.ok w B cs x) (hl : SliceIs E w B A n c l) : SliceIs E' w B A n c l := by
 obtain ⟨h1, h2, h3, hr, h4⟩ := hl; refine ⟨h1, h2, h3, hr, ?_⟩; rcases h4 with h4 | ⟨b, o, hA, hb, hc⟩
 ·exact .inl h4
 ·refine .inr ⟨b, o, hA, hb, fun i x hx => ?_⟩; obtain ⟨cs, hok, hcs⟩ := hc i x hx; exact ⟨cs, h cs x hok, by rw [hs]; exact hcs⟩
theorem exp_up1 : ∀ (d : Nat) (w : World) (B : Nat) (cs : List Value) (x : GExp), (Enc.exp d).ok w B cs x → (Enc.exp (d + 1)).ok w B cs x
 | 0, _, _, _, _, h => h.elim
 | d + 1, w, B, cs, x, h => by
   obtain ⟨A, n, c, rfl, h1, h2, h3, h4⟩ := h; exact ⟨A, n, c, rfl, h1, h2, h3, h4.up (by rw [Enc.exp_sz, Enc.exp_sz]) (fun cs x => exp_up1 d w B cs x)⟩
theorem exp_up {w : World} {B : Nat} {cs : List Value} {x : GExp} : ∀ (k d : Nat), (Enc.exp d).ok w B cs x → (Enc.exp (d + k)).ok w B cs x
 | 0, _, h => h
 | k + 1, d, h => exp_up1 (d + k) w B cs x (exp_up k d h)
theorem kids_up {d d' : Nat} {w : World} {B : Nat} {A : Option Addr} {n c : Nat} {l : List GExp} (hd : d ≤ d') (h : SliceIs (Enc.exp d) w B A n c l) : SliceIs (Enc.exp d') w B A n c l :=
 h.up (by rw [Enc.exp_sz, Enc.exp_sz]) (fun cs x hx => by
  have := exp_up (d' - d) d hx
  rwa [show d + (d' - d) = d' by omega] at this)
theorem LitAt.up {d d' : Nat} {w : World} {B : Nat} {x : GLit} {a p q : Hd} (hd : d ≤ d') (h : LitAt d w B x a p q) : LitAt d' w B x a p q :=
 ⟨h.k, h.op, h.pos, h.rel, h.args, h.lop, h.lx, h.lv, kids_up hd h.lk, h.rop, h.rx, h.rv, kids_up hd h.rk⟩
def zE : GExp := .mk 0 zT []
end Go.Proofs.YtaeedepojpablaaGreatDoor

namespace Go.Proofs.YtaeedepojpablaaGreatDoor
open Go.RowKit
structure PS where
 next : Nat
 deep : Nat
 pl : Nat
 err : Int
def PS.up (s : PS) : PS := ⟨s.next + 1, s.deep, s.pl, s.err⟩
def numT (l : List UInt8) : Int := match Lib.atoiAll l with
 | .ok n => n
 | _ => 0
section
variable (T : List GTok) (E : Nat)
def peekP (s : PS) (k : Nat) : GTok := (T[s.next + k]?).getD ⟨0, [], E⟩
def failP (s : PS) (a : Nat) (e : Int) : PS := if s.err = 0 then ⟨T.length, s.deep, a, e⟩ else s
def isP (s : PS) (t : List UInt8) : Bool := (decide ((peekP T E s 0).k = 1) || decide ((peekP T E s 0).k = 5)) && decide ((peekP T E s 0).t = t)
def wantP (s : PS) (t : List UInt8) : PS := if isP T E s t = true then s.up else failP T s (peekP T E s 0).a 2
def mayP (s : PS) (t : List UInt8) : PS := if isP T E s t = true then s.up else s
def takeP (s : PS) (k : Int) : PS := if (peekP T E s 0).k = k then s.up else failP T s (peekP T E s 0).a 2
def takeT (s : PS) (k : Int) : List UInt8 := if (peekP T E s 0).k = k then (peekP T E s 0).t else []
def loopP {σ : Type} (most : Nat) (rd : Nat → PS × σ → PS × σ) : Nat → Nat → PS × σ → PS × σ
 | 0, _, x => x
 | f + 1, i, x => if x.1.err ≠ 0 then x else if most ≤ i then (failP T x.1 (peekP T E x.1 0).a 3, x.2) else
     if isP T E (rd i x).1 [44] = true then loopP most rd f (i + 1) ((rd i x).1.up, (rd i x).2) else rd i x
def commasP {σ : Type} (most : Nat) (rd : Nat → PS × σ → PS × σ) (x : PS × σ) : PS × σ :=
 if isP T E (wantP T E x.1 [40]) [41] = true then ((wantP T E x.1 [40]).up, x.2)
 else (wantP T E (loopP T E most rd (most + 1) 0 (wantP T E x.1 [40], x.2)).1 [41], (loopP T E most rd (most + 1) 0 (wantP T E x.1 [40], x.2)).2)
def termP (s : PS) : PS × GTold :=
 let s1 := mayP T E s [45]; let q := peekP T E s1 0; if q.k = 4 then (s1.up, ⟨⟨#[]⟩, ⟨1, (if isP T E s [45] = true then -1 else 1) * numT q.t, ⟨#[]⟩⟩⟩)
 else if isP T E s [45] = true then (failP T s1 q.a 2, zT)
 else if q.k = 3 then (s1.up, ⟨bytes q.t, gv0⟩)
 else if q.k = 2 then (s1.up, ⟨⟨#[]⟩, ⟨2, 0, bytes q.t⟩⟩)
 else (failP T s1 q.a 2, zT)
def argsR (_ : Nat) (x : PS × List GTold) : PS × List GTold := ((termP T E x.1).1, x.2 ++ [(termP T E x.1).2])
def atomP (s : PS) : PS × GAtom :=
 let y := commasP T E 6 (argsR T E) (takeP T E s 2, [])
 (y.1, ⟨bytes (takeT T E s 2), y.2⟩)
def aggN (t : List UInt8) : Nat := if t = [99, 111, 117, 110, 116] then 1 else if t = [115, 117, 109] then 2 else if t = [109, 105, 110] then 3 else if t = [109, 97, 120] then 4 else 0
structure PH where
 args : List GTold
 agg : Int
 col : Int
def headR (i : Nat) (x : PS × PH) : PS × PH :=
 let q := peekP T E x.1 0
 if q.k = 1 ∧ aggN q.t ≠ 0 then
  let s1 := if 0 < x.2.agg then failP T x.1 q.a 2 else x.1
  let s2 := wantP T E (wantP T E s1 q.t) [40]
  (wantP T E (takeP T E s2 3) [41], ⟨x.2.args ++ [⟨bytes (takeT T E s2 3), gv0⟩], aggN q.t, i⟩)
 else ((termP T E x.1).1, ⟨x.2.args ++ [(termP T E x.1).2], x.2.agg, x.2.col⟩)
def headP (s : PS) : PS × PH := commasP T E 6 (headR T E) (takeP T E s 2, ⟨[], 0, 0⟩)
def operandP (inner : Option (PS → PS × GExp)) (s : PS) : PS × GExp :=
 if isP T E s [40] = true then match inner with
  | none => (failP T s (peekP T E s 0).a 4, zE)
  | some sum =>
    let y := sum (wantP T E ⟨s.next, s.deep + 1, s.pl, s.err⟩ [40]); let s2 := wantP T E y.1 [41]
    (⟨s2.next, s2.deep - 1, s2.pl, s2.err⟩, y.2)
 else ((termP T E s).1, .mk 0 (termP T E s).2 [])
def prodL (op : PS → PS × GExp) : Nat → PS × GExp → PS × GExp
 | 0, x => x
 | f + 1, x => if isP T E x.1 [42] = true then prodL op f ((op x.1.up).1, .mk 3 zT [x.2, (op x.1.up).2]) else x
def productP (op : PS → PS × GExp) (s : PS) : PS × GExp := prodL T E op T.length (op s)
def sumL (pr : PS → PS × GExp) : Nat → PS × GExp → PS × GExp
 | 0, x => x
 | f + 1, x => if isP T E x.1 [43] = true then sumL pr f ((pr x.1.up).1, .mk 1 zT [x.2, (pr x.1.up).2])
   else if isP T E x.1 [45] = true then sumL pr f ((pr x.1.up).1, .mk 2 zT [x.2, (pr x.1.up).2]) else x
def sumOf (op : PS → PS × GExp) (s : PS) : PS × GExp := sumL T E (productP T E op) T.length (productP T E op s)
def sumP : Nat → PS → PS × GExp
 | 0 => sumOf T E (operandP T E none)
 | n + 1 => sumOf T E (operandP T E (some (sumP n)))
def sgnN (t : List UInt8) : Nat := if t = [61] then 1 else if t = [33, 61] then 2 else if t = [60] then 3 else if t = [60, 61] then 4 else if t = [62] then 5 else if t = [62, 61] then 6 else 0
def comparedP (p : Nat) (s : PS) : PS × GLit :=
 let x := sumP T E 20 s; let q := peekP T E x.1 0
 if q.k = 5 ∧ sgnN q.t ≠ 0 then
  let y := sumP T E 20 (wantP T E x.1 q.t)
  (if y.1.err = 0 ∧ ¬ (rightE 20 x.2 = true ∧ rightE 20 y.2 = true) then failP T y.1 p 4 else y.1, ⟨3, ⟨⟨#[]⟩, []⟩, sgnN q.t, x.2, y.2, p⟩)
 else (failP T x.1 q.a 2, ⟨3, ⟨⟨#[]⟩, []⟩, sgnN q.t, x.2, zE, p⟩)
def literalP (s : PS) : PS × GLit :=
 let p := (peekP T E s 0).a; if isP T E s [110, 111, 116] = true then ((atomP T E s.up).1, ⟨2, (atomP T E s.up).2, 0, zE, zE, p⟩)
 else if (peekP T E s 0).k = 2 ∧ (peekP T E s 1).k = 5 ∧ (peekP T E s 1).t = [40] then ((atomP T E s).1, ⟨1, (atomP T E s).2, 0, zE, zE, p⟩)
 else comparedP T E p s
def bodyR (_ : Nat) (x : PS × List GLit) : PS × List GLit := ((literalP T E x.1).1, x.2 ++ [(literalP T E x.1).2])
def bodyP (s : PS) : PS × List GLit := if isP T E s [58, 45] = true then loopP T E 8 (bodyR T E) 9 0 (s.up, []) else (s, [])
def ruleP (s : PS) : PS × GRule :=
 let p := (peekP T E s 0).a; let h := headP T E s; let b := bodyP T E h.1
 (wantP T E b.1 [46], ⟨⟨bytes (takeT T E s 2), h.2.args⟩, h.2.agg, h.2.col, b.2, p⟩)
def kindR (_ : Nat) (x : PS × List Int) : PS × List Int :=
 if isP T E x.1 [105, 110, 116] = true then (x.1.up, x.2 ++ [1]) else (wantP T E x.1 [115, 121, 109], x.2 ++ [2])
def relW : List UInt8 := [114, 101, 108]
def declP (s : PS) : PS × GDecl :=
 let p := (peekP T E s 0).a; let s1 := wantP T E s relW; let y := commasP T E 6 (kindR T E) (takeP T E s1 2, [])
 (wantP T E y.1 [46], ⟨bytes (takeT T E s1 2), y.2, p⟩)
def progL : Nat → PS × GProg → PS × GProg
 | 0, x => x
 | f + 1, x => if x.1.err = 0 ∧ x.1.next < T.length then
     if isP T E x.1 relW = true then
      if 32 ≤ x.2.decls.length then (failP T x.1 (peekP T E x.1 0).a 3, x.2)
      else progL f ((declP T E x.1).1, ⟨x.2.decls ++ [(declP T E x.1).2], x.2.rules⟩)
     else
      if 64 ≤ x.2.rules.length then (failP T x.1 (peekP T E x.1 0).a 3, x.2)
      else progL f ((ruleP T E x.1).1, ⟨x.2.decls, x.2.rules ++ [(ruleP T E x.1).2]⟩)
   else x
def programP (s : PS) : PS × GProg := progL T E T.length (s, ⟨[], []⟩)
def lastP (s : PS) : PS := if s.next < T.length then failP T s (peekP T E s 0).a 2 else s
end
def ps0 : PS := ⟨0, 0, 0, 0⟩
def wholeP {α : Type} (zero : α) (rd : List GTok → Nat → PS → PS × α) (l : List UInt8) : α × Nat × Int :=
 if 4000 < l.length then (zero, 4000, 3) else match (lexS l).2 with
  | some p => (zero, p, 2)
  | none =>
    let y := rd (lexS l).1 l.length ps0; let s := lastP (lexS l).1 l.length y.1; if s.err = 0 then (y.2, 0, 0) else (zero, s.pl, s.err)
end Go.Proofs.YtaeedepojpablaaGreatDoor

namespace Go.Proofs.YtaeedepojpablaaGreatDoor
open Go.RowKit
section
variable {T : List GTok} {E : Nat}
def Within (T : List GTok) (E : Nat) : Prop := ∀ q ∈ T, q.a ≤ E
structure Fine (T : List GTok) (E : Nat) (s : PS) : Prop where
 next : s.next ≤ T.length
 fail : s.err ≠ 0 → s.next = T.length
 pl : s.pl ≤ E
 err : 0 ≤ s.err ∧ s.err ≤ 4
structure Adv (T : List GTok) (E : Nat) (s s' : PS) : Prop where
 le : s.next ≤ s'.next
 deep : s'.deep = s.deep
 fine : Fine T E s → Fine T E s'
 err : s.err ≠ 0 → s'.err ≠ 0
theorem Adv.refl (s : PS) : Adv T E s s := ⟨Nat.le_refl _, rfl, id, id⟩
theorem Adv.trans {s s1 s2 : PS} (h : Adv T E s s1) (h' : Adv T E s1 s2) : Adv T E s s2 :=
 ⟨Nat.le_trans h.le h'.le, h'.deep.trans h.deep, fun f => h'.fine (h.fine f), fun e => h'.err (h.err e)⟩
theorem peek_some {s : PS} {k : Nat} (h : (peekP T E s k).k ≠ 0) : s.next + k < T.length := by
 unfold peekP at h; rcases Nat.lt_or_ge (s.next + k) T.length with hl | hl
 ·exact hl
 ·rw [List.getElem?_eq_none hl] at h; exact absurd rfl h
theorem peek_at {s : PS} {k : Nat} (h : s.next + k < T.length) : T[s.next + k]? = some (peekP T E s k) := by
 unfold peekP; rw [List.getElem?_eq_getElem h]; rfl
theorem peek_none {s : PS} {k : Nat} (h : T.length ≤ s.next + k) : peekP T E s k = ⟨0, [], E⟩ := by
 unfold peekP; rw [List.getElem?_eq_none h]; rfl
theorem peek_le (hW : Within T E) (s : PS) (k : Nat) : (peekP T E s k).a ≤ E := by
 rcases Nat.lt_or_ge (s.next + k) T.length with hl | hl
 ·exact hW _ (List.mem_of_getElem? (peek_at hl))
 ·rw [peek_none hl]; exact Nat.le_refl _
theorem is_some {s : PS} {t : List UInt8} (h : isP T E s t = true) : s.next < T.length := by
 have h1 : (peekP T E s 0).k ≠ 0 := by
  intro e; unfold isP at h; rw [e] at h; simp at h
 simpa using peek_some h1
theorem is_err {s : PS} {t : List UInt8} (hf : Fine T E s) (h : isP T E s t = true) : s.err = 0 := by
 apply Classical.byContradiction; intro he; have := is_some h; have := hf.fail he; omega
theorem take_some {s : PS} {k : Int} (hk : k ≠ 0) (h : (peekP T E s 0).k = k) : s.next < T.length := by
 simpa using peek_some (s := s) (k := 0) (E := E) (by rw [h]; exact hk)
theorem up_adv {s : PS} (h : s.next < T.length) : Adv T E s s.up :=
 ⟨Nat.le_succ _, rfl, fun f => ⟨h, fun he => by have := f.fail he; omega, f.pl, f.err⟩, id⟩
theorem fail_adv (s : PS) {a : Nat} {e : Int} (hn : s.next ≤ T.length) (ha : a ≤ E) (he : 1 ≤ e ∧ e ≤ 4) : Adv T E s (failP T s a e) := by
 unfold failP; split
 ·exact ⟨hn, rfl, fun _ => ⟨Nat.le_refl _, fun _ => rfl, ha, by show 0 ≤ e; omega, he.2⟩, fun h => by omega⟩
 ·exact Adv.refl s
theorem want_adv (hW : Within T E) (s : PS) (t : List UInt8) (hn : s.next ≤ T.length) : Adv T E s (wantP T E s t) := by
 unfold wantP; split
 ·exact up_adv (is_some ‹_›)
 ·exact fail_adv s hn (peek_le hW s 0) (by omega)
theorem may_adv (s : PS) (t : List UInt8) : Adv T E s (mayP T E s t) := by
 unfold mayP; split
 ·exact up_adv (is_some ‹_›)
 ·exact Adv.refl s
theorem take_adv (hW : Within T E) (s : PS) {k : Int} (hk : k ≠ 0) (hn : s.next ≤ T.length) : Adv T E s (takeP T E s k) := by
 unfold takeP; split
 ·exact up_adv (take_some hk ‹_›)
 ·exact fail_adv s hn (peek_le hW s 0) (by omega)
def Goes (T : List GTok) (E : Nat) (s s' : PS) : Prop := Fine T E s → Adv T E s s'
theorem Goes.trans {s s1 s2 : PS} (h : Goes T E s s1) (h' : Goes T E s1 s2) : Goes T E s s2 := fun f => (h f).trans (h' ((h f).fine f))
theorem Goes.refl (s : PS) : Goes T E s s := fun _ => Adv.refl s
theorem want_goes (hW : Within T E) (s : PS) (t : List UInt8) : Goes T E s (wantP T E s t) := fun f => want_adv hW s t f.next
theorem may_goes (s : PS) (t : List UInt8) : Goes T E s (mayP T E s t) := fun _ => may_adv s t
theorem take_goes (hW : Within T E) (s : PS) {k : Int} (hk : k ≠ 0) : Goes T E s (takeP T E s k) := fun f => take_adv hW s hk f.next
theorem fail_goes (s : PS) {a : Nat} {e : Int} (ha : a ≤ E) (he : 1 ≤ e ∧ e ≤ 4) : Goes T E s (failP T s a e) := fun f => fail_adv s f.next ha he
theorem up_goes {s : PS} (h : s.next < T.length) : Goes T E s s.up := fun _ => up_adv h
theorem loop_goes (hW : Within T E) {σ : Type} (most : Nat) (rd : Nat → PS × σ → PS × σ) (hr : ∀ i x, Goes T E x.1 (rd i x).1) : ∀ (f i : Nat) (x : PS × σ), Goes T E x.1 (loopP T E most rd f i x).1
 | 0, _, x => Goes.refl _
 | f + 1, i, x => by
   rw [loopP]; split
   ·exact Goes.refl _
   ·split
    ·exact fail_goes _ (peek_le hW _ _) (by omega)
    ·split
     ·exact (hr i x).trans ((up_goes (is_some ‹_›)).trans (loop_goes hW most rd hr f (i + 1) ((rd i x).1.up, (rd i x).2)))
     ·exact hr i x
theorem commas_goes (hW : Within T E) {σ : Type} (most : Nat) (rd : Nat → PS × σ → PS × σ) (hr : ∀ i x, Goes T E x.1 (rd i x).1) (x : PS × σ) : Goes T E x.1 (commasP T E most rd x).1 := by
 unfold commasP; split
 ·exact (want_goes hW _ _).trans (up_goes (is_some ‹_›))
 ·exact (want_goes hW _ _).trans ((loop_goes hW most rd hr _ _ (wantP T E x.1 [40], x.2)).trans (want_goes hW _ _))
theorem term_goes (hW : Within T E) (s : PS) : Goes T E s (termP T E s).1 := by
 have h4 : ∀ {k : Int}, k ≠ 0 → (peekP T E (mayP T E s [45]) 0).k = k → Goes T E s (mayP T E s [45]).up := fun hk h => (may_goes s _).trans (up_goes (take_some hk h))
 have hf : Goes T E s (failP T (mayP T E s [45]) (peekP T E (mayP T E s [45]) 0).a 2) := (may_goes s _).trans (fail_goes _ (peek_le hW _ _) (by omega)); unfold termP; dsimp only; by_cases k4 : (peekP T E (mayP T E s [45]) 0).k = 4
 ·rw [if_pos k4]; exact h4 (by decide) k4
 ·rw [if_neg k4]; by_cases hm : isP T E s [45] = true
  ·rw [if_pos hm]; exact hf
  ·rw [if_neg hm]; by_cases k3 : (peekP T E (mayP T E s [45]) 0).k = 3
   ·rw [if_pos k3]; exact h4 (by decide) k3
   ·rw [if_neg k3]; by_cases k2 : (peekP T E (mayP T E s [45]) 0).k = 2
    ·rw [if_pos k2]; exact h4 (by decide) k2
    ·rw [if_neg k2]; exact hf
theorem atom_goes (hW : Within T E) (s : PS) : Goes T E s (atomP T E s).1 :=
 (take_goes hW s (k := 2) (by decide)).trans (commas_goes hW 6 (argsR T E) (fun _ x => term_goes hW x.1) (takeP T E s 2, []))
theorem headR_goes (hW : Within T E) (i : Nat) (x : PS × PH) : Goes T E x.1 (headR T E i x).1 := by
 unfold headR; dsimp only; split
 ·refine Goes.trans (s1 := if 0 < x.2.agg then failP T x.1 (peekP T E x.1 0).a 2 else x.1) ?_ ((want_goes hW _ _).trans ((want_goes hW _ _).trans ((take_goes hW _ (by decide)).trans (want_goes hW _ _)))); split
  ·exact fail_goes _ (peek_le hW _ _) (by omega)
  ·exact Goes.refl _
 ·exact term_goes hW x.1
theorem head_goes (hW : Within T E) (s : PS) : Goes T E s (headP T E s).1 :=
 (take_goes hW s (k := 2) (by decide)).trans (commas_goes hW 6 (headR T E) (headR_goes hW) (takeP T E s 2, ⟨[], 0, 0⟩))
theorem deep_goes {s : PS} {d : Nat} (s' : PS) (h : Goes T E ⟨s.next, d, s.pl, s.err⟩ s') : Fine T E s → s.next ≤ s'.next ∧ s'.deep = d ∧ Fine T E s' ∧ (s.err ≠ 0 → s'.err ≠ 0) := fun f => by
 have a := h ⟨f.next, f.fail, f.pl, f.err⟩; exact ⟨a.le, a.deep, a.fine ⟨f.next, f.fail, f.pl, f.err⟩, a.err⟩
theorem operand_goes (hW : Within T E) (inner : Option (PS → PS × GExp)) (hi : ∀ f, inner = some f → ∀ s, Goes T E s (f s).1) (s : PS) : Goes T E s (operandP T E inner s).1 := by
 unfold operandP; split
 ·split
  ·exact fail_goes _ (peek_le hW _ _) (by omega)
  ·rename_i sum
   intro f; have h := deep_goes (s := s) (d := s.deep + 1) _ ((want_goes hW ⟨s.next, s.deep + 1, s.pl, s.err⟩ [40]).trans ((hi sum rfl _).trans (want_goes hW _ [41]))) f; obtain ⟨h1, h2, h3, h4⟩ := h; exact ⟨h1, by show _ - 1 = _; rw [h2]; omega, fun _ => ⟨h3.next, h3.fail, h3.pl, h3.err⟩, h4⟩
 ·exact term_goes hW s
theorem prodL_goes {op : PS → PS × GExp} (ho : ∀ s, Goes T E s (op s).1) : ∀ (f : Nat) (x : PS × GExp), Goes T E x.1 (prodL T E op f x).1
 | 0, x => Goes.refl _
 | f + 1, x => by
   rw [prodL]; split
   ·exact (up_goes (is_some ‹_›)).trans ((ho _).trans (prodL_goes ho f ((op x.1.up).1, .mk 3 zT [x.2, (op x.1.up).2])))
   ·exact Goes.refl _
theorem product_goes {op : PS → PS × GExp} (ho : ∀ s, Goes T E s (op s).1) (s : PS) : Goes T E s (productP T E op s).1 := (ho s).trans (prodL_goes ho T.length (op s))
theorem sumL_goes {pr : PS → PS × GExp} (ho : ∀ s, Goes T E s (pr s).1) : ∀ (f : Nat) (x : PS × GExp), Goes T E x.1 (sumL T E pr f x).1
 | 0, x => Goes.refl _
 | f + 1, x => by
   rw [sumL]; split
   ·exact (up_goes (is_some ‹_›)).trans ((ho _).trans (sumL_goes ho f ((pr x.1.up).1, .mk 1 zT [x.2, (pr x.1.up).2])))
   ·split
    ·exact (up_goes (is_some ‹_›)).trans ((ho _).trans (sumL_goes ho f ((pr x.1.up).1, .mk 2 zT [x.2, (pr x.1.up).2])))
    ·exact Goes.refl _
theorem sumOf_goes {op : PS → PS × GExp} (ho : ∀ s, Goes T E s (op s).1) (s : PS) : Goes T E s (sumOf T E op s).1 := (product_goes ho s).trans (sumL_goes (product_goes ho) T.length (productP T E op s))
theorem sum_goes (hW : Within T E) : ∀ (n : Nat) (s : PS), Goes T E s (sumP T E n s).1
 | 0, s => sumOf_goes (operand_goes hW none (fun f h => by cases h)) s
 | n + 1, s => sumOf_goes (operand_goes hW (some (sumP T E n)) (fun f h => by injection h with h; subst h; exact sum_goes hW n)) s
theorem compared_goes (hW : Within T E) (p : Nat) (hp : p ≤ E) (s : PS) : Goes T E s (comparedP T E p s).1 := by
 unfold comparedP; dsimp only; split
 ·refine Goes.trans (sum_goes hW 20 s) (Goes.trans (want_goes hW (sumP T E 20 s).1 (peekP T E (sumP T E 20 s).1 0).t) (Goes.trans (sum_goes hW 20 (wantP T E (sumP T E 20 s).1 (peekP T E (sumP T E 20 s).1 0).t)) ?_)); split
  ·exact fail_goes _ hp (by omega)
  ·exact Goes.refl _
 ·exact (sum_goes hW 20 s).trans (fail_goes _ (peek_le hW _ _) (by omega))
theorem literal_goes (hW : Within T E) (s : PS) : Goes T E s (literalP T E s).1 := by
 unfold literalP; dsimp only; split
 ·exact (up_goes (is_some ‹_›)).trans (atom_goes hW _)
 ·split
  ·exact atom_goes hW s
  ·exact compared_goes hW _ (peek_le hW _ _) s
theorem body_goes (hW : Within T E) (s : PS) : Goes T E s (bodyP T E s).1 := by
 unfold bodyP; split
 ·exact (up_goes (is_some ‹_›)).trans (loop_goes hW 8 (bodyR T E) (fun _ x => literal_goes hW x.1) 9 0 (s.up, []))
 ·exact Goes.refl _
theorem rule_goes (hW : Within T E) (s : PS) : Goes T E s (ruleP T E s).1 := (head_goes hW s).trans ((body_goes hW _).trans (want_goes hW _ _))
theorem kindR_goes (hW : Within T E) (i : Nat) (x : PS × List Int) : Goes T E x.1 (kindR T E i x).1 := by
 unfold kindR; split
 ·exact up_goes (is_some ‹_›)
 ·exact want_goes hW _ _
theorem decl_goes (hW : Within T E) (s : PS) : Goes T E s (declP T E s).1 :=
 (want_goes hW s relW).trans ((take_goes hW _ (k := 2) (by decide)).trans ((commas_goes hW 6 (kindR T E) (kindR_goes hW) (takeP T E (wantP T E s relW) 2, [])).trans (want_goes hW _ _)))
theorem head_more {s : PS} (f : Fine T E s) (h : s.next < T.length) : s.next < (takeP T E s 2).next := by
 have he : s.err = 0 := Classical.byContradiction fun e => by have := f.fail e; omega
 unfold takeP; split
 ·show s.next < s.next + 1; omega
 ·unfold failP; rw [if_pos he]; exact h
theorem rule_more (hW : Within T E) {s : PS} (f : Fine T E s) (h : s.next < T.length) : s.next < (ruleP T E s).1.next := by
 have h1 := head_more f h; have h2 := ((commas_goes hW 6 (headR T E) (headR_goes hW) (takeP T E s 2, ⟨[], 0, 0⟩)).trans ((body_goes hW _).trans (want_goes hW _ [46]))) ((take_goes hW s (by decide) f).fine f)
 exact Nat.lt_of_lt_of_le h1 h2.le
theorem decl_more (hW : Within T E) {s : PS} (f : Fine T E s) (h : isP T E s relW = true) : s.next < (declP T E s).1.next := by
 have h2 := ((take_goes hW _ (k := 2) (by decide)).trans ((commas_goes hW 6 (kindR T E) (kindR_goes hW) (takeP T E (wantP T E s relW) 2, [])).trans (want_goes hW _ [46]))) ((want_goes hW s relW f).fine f)
 refine Nat.lt_of_lt_of_le ?_ h2.le; unfold wantP; rw [if_pos h]; show s.next < s.next + 1; omega
end
end Go.Proofs.YtaeedepojpablaaGreatDoor

namespace Go.Proofs.YtaeedepojpablaaGreatDoor
open Go.RowKit
theorem SliceFar.low {α : Type} {E : Enc α} {w : World} {n n0 : Nat} {A : Option Addr} {k c : Nat} {l : List α} (h : SliceFar E w (List.range n) A k c l) (hn : n0 ≤ n) : SliceFar E w (List.range n0) A k c l :=
 SliceFar.out (S := []) h (Out.refl _ _) (fun _ h _ => by cases h) (fun b hb _ => List.mem_range.2 (by have := List.mem_range.1 hb; omega))
end Go.Proofs.YtaeedepojpablaaGreatDoor

namespace Go.Proofs.YtaeedepojpablaaGreatDoor
open Go.RowKit
abbrev zrC : List Value := [.string ⟨#[]⟩, .slice none 0 0, .int .i64 0, .int .i64 0, .slice none 0 0, .int .i64 0]
end Go.Proofs.YtaeedepojpablaaGreatDoor
