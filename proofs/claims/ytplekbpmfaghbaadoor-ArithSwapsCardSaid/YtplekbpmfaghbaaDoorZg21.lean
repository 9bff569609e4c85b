/- My own texts, as far as this claim needs them. -/
import Derived.Test.YtplekbpmfaghbaaDoorZg3
import Derived.Test.YtplekbpmfaghbaaDoorZg4
import Derived.Test.YtplekbpmfaghbaaDoorZg6
import Derived.Test.YtplekbpmfaghbaaDoorZg7
import Derived.Test.YtplekbpmfaghbaaDoorZg8
import Derived.Test.YtplekbpmfaghbaaDoorZg11
import Derived.Test.YtplekbpmfaghbaaDoorZg20
import Derived.Test.YtplekbpmfaghbaaDoorRows
import Derived.OpenShut
import Derived.ChangeOld
import Derived.ChangeSame
import Derived.ChangeVars
import Derived.JoinedOf
import Derived.LaidLaws
import Derived.LaidHandle
import Derived.Stop.LaidErr
import Derived.Lib.LaidTab
import Derived.Below
set_option linter.unusedVariables false
set_option linter.unusedSimpArgs false
namespace Go.Proofs.YtplekbpmfaghbaaDoor
open Go.RowKit
abbrev oB (A : Option Addr) (k c : Nat) : List Nat := (Value.slice A k c).ownBlock.toList
section
variable {b1 : Nat} {W V : World} {A1 : Option Addr} {k1 c1 : Nat} {L1 : List (GDecl × List Value)} {A2 : Option Addr} {k2 c2 : Nat} {L2 : List (GRule × List Value)} {d : Nat}
end
section
variable {B g : Nat} {A : Option Addr} {c : Nat} {T : List GTok} {E : Nat}
structure PgB (B g : Nat) (w : World) (pb b1 : Nat) : Prop where
  B : B ≤ w.heap.size
  g : g < w.heap.size
  x : w.heap.size < pb
  b : pb < b1
end
end Go.Proofs.YtplekbpmfaghbaaDoor
namespace Go.Proofs.YtplekbpmfaghbaaDoor
open Go.RowKit
/-- the tokens of a text -/
structure Toks (T : List GTok) (E : Nat) : Prop where
  within : Within T E
  texts : ∀ q ∈ T, TextOf wordK q.k q.t
  short : ∀ q ∈ T, q.t.length ≤ 4000
section
variable {T : List GTok} {E : Nat}
end
end Go.Proofs.YtplekbpmfaghbaaDoor
namespace Go.Proofs.YtplekbpmfaghbaaDoor
open Go.RowKit
theorem toks_of {l : List UInt8} (hl : l.length ≤ 4000) : Toks (lexS l).1 l.length := by
  have hp := lex_places (wk := wordK) _ 0 l (Nat.le_refl _)
  refine ⟨fun q hq => ?_, lex_texts (wk := wordK) _ 0 l (Nat.le_refl _), fun q hq => ?_⟩
  · have := hp q hq; omega
  · have := hp q hq; omega
section
variable {T : List GTok} {E : Nat}
end
theorem fine0 (T : List GTok) (E : Nat) : Fine T E ps0 := ⟨Nat.zero_le _, fun h => absurd rfl h, Nat.zero_le _, by decide, by decide⟩
end Go.Proofs.YtplekbpmfaghbaaDoor
namespace Go.Proofs.YtplekbpmfaghbaaDoor
open Go.RowKit
/-- the reader that begins -/
theorem Rd.begin {W : World} {A : Option Addr} {c : Nat} {T : List GTok} {E : Nat} (hp : ParW W) (ht : SliceIs Enc.tok W W.heap.size A T.length c T) (hX : Toks T E) (hE : E ≤ 4000) (hT : T.length ≤ 4000) :
    Rd (W.heap.size + 1) W.heap.size A c T E ps0 (W.alloc (.cells #[.slice A T.length c, .int .i64 0, .int .i64 E, .int .i64 0, .int .i64 0, .int .i64 0] 74)) := by
  have hB := belowA (Below.refl W.heap.size W) (.cells #[.slice A T.length c, .int .i64 0, .int .i64 E, .int .i64 0, .int .i64 0, .int .i64 0] 74)
  refine ⟨heapNew rfl, ?_, hp.on hB, Nat.lt_succ_self _, by simp, fun b hb => ?_, fine0 T E, hX.within, hE, hT, by decide, hX.texts⟩
  · refine ht.mono' (Nat.le_succ _) (fun b hb cs t fr hcs hc => ?_)
    rw [sans_out (by simp; omega), hB.block b hb, hcs]
  · have := hp.lt b hb
    omega
def parErr (e : Int) : Value := if e = 0 then .nilIface else .iface 40 (.int .i64 e)
end Go.Proofs.YtplekbpmfaghbaaDoor
namespace Go.Proofs.YtplekbpmfaghbaaDoor
open Go.RowKit
/-- a whole rule read: what it is, or where it fails -/
def zeroRule : GRule := ⟨⟨⟨#[]⟩, []⟩, 0, 0, [], 0⟩
def readP (l : List UInt8) : GRule × Nat × Int := wholeP zeroRule (fun T E s => ruleP T E s) l
def WholeRuleRes (s : ByteArray) (w : World) (e : Ending) (w' : World) : Prop := Below w.heap.size w w' ∧
  ∃ (d : Nat) (a b : Hd), e = .returned (.tuple #[.agg (ruleC (readP s.toList).1 a b).toArray, .int .i64 (readP s.toList).2.1, parErr (readP s.toList).2.2]) ∧ RuleAt d (sans w' (List.range w.heap.size)) w'.heap.size (readP s.toList).1 a b
theorem RuleAt.outs {d : Nat} {S T U : List Nat} {w w' : World} {x : GRule} {a b : Hd} (h : RuleAt d (sans w T) w.heap.size x a b) (ho : Out S w w') (hT : ∀ b ∈ S, b < w.heap.size → b ∈ T) (hU : ∀ b ∈ U, b < w.heap.size → b ∈ T) : RuleAt d (sans w' U) w'.heap.size x a b := h.mono' ho.size (ho.kept hT hU)
theorem RuleAt.ons {d : Nat} {T : List Nat} {w w' : World} {x : GRule} {a b : Hd} (h : RuleAt d (sans w T) w.heap.size x a b) (hb : Below w.heap.size w w') : RuleAt d (sans w' T) w'.heap.size x a b := h.outs (Out.of_below hb T) (fun _ hb _ => hb) (fun _ hb _ => hb)
theorem RuleAt.zero (w : World) (B : Nat) : RuleAt 0 w B zeroRule ⟨none, 0, 0⟩ ⟨none, 0, 0⟩ := ⟨by decide, SliceIs.nil, f_lit0, f_lit0, SliceIs.nil, f_lit0⟩
structure WhR (w : World) (g ob : Nat) (A : Option Addr) (c : Nat) (T : List GTok) (E : Nat) (A1 : Option Addr) (k1 c1 : Nat) (A2 : Option Addr) (k2 c2 : Nat) (y : GRule) (d : Nat) (s : PS) (V : World) : Prop where
  rd : Rd (g + 1) g A c T E s V
  nn : V.heap[w.heap.size + 1]? = some (.cells #[.string ⟨#[]⟩, .slice none 0 0, .int .i64 0, .int .i64 0, .slice none 0 0, .int .i64 0] 49 (0, 0))
  rr : V.heap[w.heap.size]? = some (.cells #[.string ⟨#[]⟩, .slice none 0 0, .int .i64 0, .int .i64 0, .slice none 0 0, .int .i64 0] 49 (0, 0))
  ob : V.heap[ob]? = some (.cells #[.string y.head.rel, .slice A1 k1 c1, .int .i64 y.agg, .int .i64 y.col, .slice A2 k2 c2, .int .i64 y.pos] 49 (0, 0))
  below : Below w.heap.size w V
  da : RuleAt d (sans V (List.range (g + 1))) V.heap.size y ⟨A1, k1, c1⟩ ⟨A2, k2, c2⟩
theorem WhR.go {w : World} {g ob : Nat} {A : Option Addr} {c : Nat} {T : List GTok} {E : Nat} {A1 : Option Addr} {k1 c1 : Nat} {A2 : Option Addr} {k2 c2 : Nat} {y : GRule} {d : Nat} {s s' : PS} {V V' : World} (hg : w.heap.size + 2 ≤ g) (hob : g < ob) (h : WhR w g ob A c T E A1 k1 c1 A2 k2 c2 y d s V) (hr : Rd (g + 1) g A c T E s' V') (ho : Out [g] V V') : WhR w g ob A c T E A1 k1 c1 A2 k2 c2 y d s' V' :=
  ⟨hr, (ho.block _ (Array.getElem?_eq_some_iff.1 h.nn).1 (by simp; omega)).trans h.nn, (ho.block _ (Array.getElem?_eq_some_iff.1 h.rr).1 (by simp; omega)).trans h.rr, (ho.block _ (Array.getElem?_eq_some_iff.1 h.ob).1 (by simp; omega)).trans h.ob,
    h.below.trans (ho.below (fun b hb => by simp at hb; omega) h.below.size), h.da.outs ho (fun b hb _ => by simp at hb; simp; omega) (fun _ h _ => h)⟩
theorem WhR.on {w : World} {g ob : Nat} {A : Option Addr} {c : Nat} {T : List GTok} {E : Nat} {A1 : Option Addr} {k1 c1 : Nat} {A2 : Option Addr} {k2 c2 : Nat} {y : GRule} {d : Nat} {s : PS} {V V' : World} (hg : w.heap.size + 2 ≤ g) (hob : g < ob) (h : WhR w g ob A c T E A1 k1 c1 A2 k2 c2 y d s V) (hb : Below V.heap.size V V') : WhR w g ob A c T E A1 k1 c1 A2 k2 c2 y d s V' :=
  h.go hg hob (h.rd.on hb) (Out.of_below hb _)
theorem WhR.fin {w : World} {g ob : Nat} {A : Option Addr} {c : Nat} {T : List GTok} {E : Nat} {A1 : Option Addr} {k1 c1 : Nat} {A2 : Option Addr} {k2 c2 : Nat} {y : GRule} {d : Nat} {s : PS} {V V' : World} (hg : w.heap.size + 2 ≤ g) (h : WhR w g ob A c T E A1 k1 c1 A2 k2 c2 y d s V) (ho : Out [w.heap.size] V V') : Below w.heap.size w V' ∧ RuleAt d (sans V' (List.range w.heap.size)) V'.heap.size y ⟨A1, k1, c1⟩ ⟨A2, k2, c2⟩ :=
  ⟨h.below.trans (ho.below (fun b hb => by simp at hb; omega) h.below.size), h.da.outs ho (fun b hb _ => by simp at hb; simp; omega) (fun b hb _ => by simp at hb; simp; omega)⟩
set_option maxRecDepth 100000 in
set_option maxHeartbeats 8000000 in
theorem wholeRule_any (s : ByteArray) (hs : s.size ≤ 140737488351232) (w : World) (hW : ParW w) : Calls Tryd.prog 16 #[.string s, .func (.func 17) #[] #[]] w (WholeRuleRes s w) := by
  have HW := Lib.hid hW
  obtain ⟨P, HP⟩ : ∃ P : Ending → World → Prop, Hid (P = WholeRuleRes s w) := ⟨_, rfl⟩
  rw [← HP.out]
  have HLs := Lib.hid (fun (V : World) (hV : ParW V) => list_any s hs V hV.lex)
  have Hlen := Lib.hid (ba_len s)
  have HE : Hid (∀ (V : World) (at_ : Nat) (er : Int), Below w.heap.size w V → readP s.toList = (zeroRule, at_, er) → P (.returned (.tuple #[.agg #[.string ⟨#[]⟩, .slice none 0 0, .int .i64 0, .int .i64 0, .slice none 0 0, .int .i64 0], .int .i64 at_, parErr er])) V) := fun V at_ er hb hp => by
    rw [HP.out]
    refine ⟨hb, 0, ⟨none, 0, 0⟩, ⟨none, 0, 0⟩, by rw [hp]; rfl, ?_⟩
    rw [hp]; exact RuleAt.zero _ _
  clear hW
  go_enter Tryd.func16, Tryd.ntmps16
  go_wp2_with fail
  have hb0 : Below w.heap.size w ((w.alloc (.cells #[.string ⟨#[]⟩, .slice none 0 0, .int .i64 0, .int .i64 0, .slice none 0 0, .int .i64 0] 49)).alloc (.cells #[.string ⟨#[]⟩, .slice none 0 0, .int .i64 0, .int .i64 0, .slice none 0 0, .int .i64 0] 49)) := belowA (belowA (Below.refl _ _) _) _
  have hr0 : ((w.alloc (.cells #[.string ⟨#[]⟩, .slice none 0 0, .int .i64 0, .int .i64 0, .slice none 0 0, .int .i64 0] 49)).alloc (.cells #[.string ⟨#[]⟩, .slice none 0 0, .int .i64 0, .int .i64 0, .slice none 0 0, .int .i64 0] 49)).heap[w.heap.size]? = some (.cells #[.string ⟨#[]⟩, .slice none 0 0, .int .i64 0, .int .i64 0, .slice none 0 0, .int .i64 0] 49 (0, 0)) := ((belowA (Below.refl _ (w.alloc (.cells #[.string ⟨#[]⟩, .slice none 0 0, .int .i64 0, .int .i64 0, .slice none 0 0, .int .i64 0] 49))) _).block _ (by rw [World.size_alloc]; omega)).trans (heapNew rfl)
  have hn0 : ((w.alloc (.cells #[.string ⟨#[]⟩, .slice none 0 0, .int .i64 0, .int .i64 0, .slice none 0 0, .int .i64 0] 49)).alloc (.cells #[.string ⟨#[]⟩, .slice none 0 0, .int .i64 0, .int .i64 0, .slice none 0 0, .int .i64 0] 49)).heap[w.heap.size + 1]? = some (.cells #[.string ⟨#[]⟩, .slice none 0 0, .int .i64 0, .int .i64 0, .slice none 0 0, .int .i64 0] 49 (0, 0)) := heapNew (by rw [World.size_alloc])
  refine (HLs.out _ (HW.out.on hb0)).mono ?_
  rintro e w1 ⟨hb, hcase⟩
  have hz0 : ((w.alloc (.cells #[.string ⟨#[]⟩, .slice none 0 0, .int .i64 0, .int .i64 0, .slice none 0 0, .int .i64 0] 49)).alloc (.cells #[.string ⟨#[]⟩, .slice none 0 0, .int .i64 0, .int .i64 0, .slice none 0 0, .int .i64 0] 49)).heap.size = w.heap.size + 2 := by simp
  have hz1 := hb.size
  rw [hz0] at hz1
  replace hr0 := (hb.block w.heap.size (by omega)).trans hr0
  replace hn0 := (hb.block (w.heap.size + 1) (by omega)).trans hn0
  have hb1 : Below w.heap.size w w1 := Below.trans hb0 (hb.mono (by omega))
  clear hb hb0 hz0 HLs
  obtain ⟨r0, r1, r2, r3, r4, r5⟩ := facts6 hr0
  obtain ⟨n0, n1, n2, n3, n4, n5⟩ := facts6 hn0
  have rf := froz4 hr0
  have Hb1 := Lib.hid hb1
  have Hr0 := Lib.hid hr0
  have Hn0 := Lib.hid hn0
  clear hr0 hn0 hb1
  rcases hcase with ⟨h4, rfl⟩ | ⟨h4, ⟨p, hp, rfl⟩ | ⟨hn, A, c, rfl, ht⟩⟩
  · have hl : 4000 < s.toList.length := by rw [Hlen.out]; exact h4
    have HX : Hid (∀ V, Below w.heap.size w V → P (.returned (.tuple #[.agg #[.string ⟨#[]⟩, .slice none 0 0, .int .i64 0, .int .i64 0, .slice none 0 0, .int .i64 0], .int .i64 4000, .iface 40 (.int .i64 3)])) V) := fun V hb => HE.out V 4000 3 hb (by unfold readP wholeP; rw [if_pos hl])
    clear HE HP hl h4
    go_wp2_with fail
    exact bodyPost_ret (v := .tuple #[.agg #[.string ⟨#[]⟩, .slice none 0 0, .int .i64 0, .int .i64 0, .slice none 0 0, .int .i64 0], .int .i64 4000, .iface 40 (.int .i64 3)]) (by simp [results, Tryd.results16, go_sem, r0, r1, r2, r3, r4, r5]) rfl (HX.out _ (belowS (belowS (belowS (belowS (belowS (belowS Hb1.out _ _ (Nat.le_refl _) _) _ _ (Nat.le_refl _) _) _ _ (Nat.le_refl _) _) _ _ (Nat.le_refl _) _) _ _ (Nat.le_refl _) _) _ _ (Nat.le_refl _) _))
  · have hl : ¬ 4000 < s.toList.length := by rw [Hlen.out]; omega
    have HX : Hid (∀ V, Below w.heap.size w V → P (.returned (.tuple #[.agg #[.string ⟨#[]⟩, .slice none 0 0, .int .i64 0, .int .i64 0, .slice none 0 0, .int .i64 0], .int .i64 p, .iface 40 (.int .i64 2)])) V) := fun V hb => HE.out V p 2 hb (by unfold readP wholeP; rw [if_neg hl, hp])
    clear HE HP hl h4 hp
    go_wp2_with fail
    exact bodyPost_ret (v := .tuple #[.agg #[.string ⟨#[]⟩, .slice none 0 0, .int .i64 0, .int .i64 0, .slice none 0 0, .int .i64 0], .int .i64 p, .iface 40 (.int .i64 2)]) (by simp [results, Tryd.results16, go_sem, r0, r1, r2, r3, r4, r5]) rfl (HX.out _ (belowS (belowS (belowS (belowS (belowS (belowS Hb1.out _ _ (Nat.le_refl _) _) _ _ (Nat.le_refl _) _) _ _ (Nat.le_refl _) _) _ _ (Nat.le_refl _) _) _ _ (Nat.le_refl _) _) _ _ (Nat.le_refl _) _))
  · have hl : ¬ 4000 < s.toList.length := by rw [Hlen.out]; omega
    have hTl := (lex_len (wk := wordK) _ 0 s.toList (Nat.le_refl _)).2
    replace hTl : (lexS s.toList).1.length ≤ s.size := by rw [← Hlen.out]; exact hTl
    have hTk := toks_of (l := s.toList) (by omega)
    rw [Hlen.out] at hTk
    have HRd := Lib.hid (Rd.begin (HW.out.on Hb1.out) ht hTk h4 (Nat.le_trans hTl h4))
    have HPs : Hid (readP s.toList = if (lastP (lexS s.toList).1 s.size (ruleP (lexS s.toList).1 s.size ps0).1).err = 0 then ((ruleP (lexS s.toList).1 s.size ps0).2, 0, 0) else (zeroRule, (lastP (lexS s.toList).1 s.size (ruleP (lexS s.toList).1 s.size ps0).1).pl, (lastP (lexS s.toList).1 s.size (ruleP (lexS s.toList).1 s.size ps0).1).err)) := by
      show _ = _
      unfold readP wholeP
      rw [if_neg hl, hn]
      dsimp only
      rw [Hlen.out]
    generalize (lexS s.toList).1 = T at *
    have HPg := Lib.hid (rrule_any HRd.out rfl)
    generalize ruleP T s.size ps0 = y at *
    have HE2 : Hid (∀ (V : World) (d : Nat) (a b : Hd), (lastP T s.size y.1).err = 0 → Below w.heap.size w V → RuleAt d (sans V (List.range w.heap.size)) V.heap.size y.2 a b → P (.returned (.tuple #[.agg (ruleC y.2 a b).toArray, .int .i64 0, .nilIface])) V) := fun V d a b h0 hb h1 => by
      rw [HP.out]
      refine ⟨hb, d, a, b, ?_, ?_⟩
      · rw [HPs.out, if_pos h0]; rfl
      · rw [HPs.out, if_pos h0]; exact h1
    have HE3 : Hid (∀ (V : World), (lastP T s.size y.1).err ≠ 0 → Below w.heap.size w V → P (.returned (.tuple #[.agg #[.string ⟨#[]⟩, .slice none 0 0, .int .i64 0, .int .i64 0, .slice none 0 0, .int .i64 0], .int .i64 (lastP T s.size y.1).pl, .iface 40 (.int .i64 (lastP T s.size y.1).err)])) V) := fun V h0 hb => by
      have h := HE.out V (lastP T s.size y.1).pl (lastP T s.size y.1).err hb (by rw [HPs.out, if_neg h0])
      unfold parErr at h
      rw [if_neg h0] at h
      exact h
    clear HE HP HPs hl hTl hTk ht hn HW
    go_wp2_with fail
    refine HPg.out.mono ?_
    rintro e w2 ⟨d, ⟨A1, k1, c1⟩, ⟨A2, k2, c2⟩, rfl, hr2, ho2, ha⟩
    dsimp only [Hd.v] at *
    have hz2 := ho2.size
    rw [World.size_alloc] at hz2
    have HR2 := Lib.hid hr2
    have HO2 := Lib.hid ho2
    have Ha := Lib.hid ha
    have HN2 := Lib.hid ((ho2.block (w.heap.size + 1) (by rw [World.size_alloc]; omega) (by simp; omega)).trans (heapOld Hn0.out))
    have HRR2 := Lib.hid ((ho2.block w.heap.size (by rw [World.size_alloc]; omega) (by simp; omega)).trans (heapOld Hr0.out))
    clear hr2 ho2 ha HPg HRd r0 r1 r2 r3 r4 r5 n0 n1 n2 n3 n4 n5 rf
    go_wp2_with fail
    --TAIL
    have hg2 : w.heap.size + 2 ≤ w1.heap.size := hz1
    have hob2 : w1.heap.size < w2.heap.size := by omega
    have ha2 := Ha.out
    rw [World.size_alloc] at ha2
    have hJ : WhR w w1.heap.size w2.heap.size A c T s.size A1 k1 c1 A2 k2 c2 y.2 d y.1 (w2.alloc (.cells #[.string y.2.head.rel, .slice A1 k1 c1, .int .i64 y.2.agg, .int .i64 y.2.col, .slice A2 k2 c2, .int .i64 y.2.pos] 49)) :=
      ⟨HR2.out.on (belowA (Below.refl _ _) _), heapOld HN2.out, heapOld HRR2.out, heapNew rfl, ((Hb1.out.alloc Hb1.out.size _).trans (HO2.out.below (fun b hb => by simp at hb; have := Hb1.out.size; omega) (by rw [World.size_alloc]; have := Hb1.out.size; omega))).alloc (by have := Hb1.out.size; omega) _, ha2.ons (belowA (Below.refl _ _) _)⟩
    have HJ := Lib.hid hJ
    clear hJ ha2 HR2 HO2 Ha HN2 HRR2 Hr0 Hn0 Hb1
    generalize w2.alloc (.cells #[.string y.2.head.rel, .slice A1 k1 c1, .int .i64 y.2.agg, .int .i64 y.2.col, .slice A2 k2 c2, .int .i64 y.2.pos] 49) = w3 at *
    obtain ⟨c0, c1', c2', c3, c4, c5⟩ := HJ.out.rd.cells
    obtain ⟨s2, Hs2⟩ : ∃ s2, Hid (s2 = lastP T s.size y.1) := ⟨_, rfl⟩
    rw [← Hs2.out] at HE2 HE3
    by_cases hlt : y.1.next < T.length
    · have i1 : (y.1.next : Int) < (T.length : Int) := by omega
      have HPl := Lib.hid (fun (V : World) (hR : Rd (w1.heap.size + 1) w1.heap.size A c T s.size y.1 V) => rplace_any hR)
      have HFl := Lib.hid (fun (V : World) (hR : Rd (w1.heap.size + 1) w1.heap.size A c T s.size y.1 V) => rfail_any hR (peekP T s.size y.1 0).a (peek_le hR.within _ _) 2 (by omega))
      have hl2 : failP T y.1 (peekP T s.size y.1 0).a 2 = s2 := by rw [Hs2.out]; unfold lastP; rw [if_pos hlt]
      rw [hl2] at HFl
      clear hl2 Hs2
      go_quiet (fail)
      go_wp2_with fail
      refine (HPl.out _ (HJ.out.rd.on (below_drewN _ _ _))).mono ?_
      rintro e w5 ⟨rfl, hb5⟩
      have HJ5 := Lib.hid ((HJ.out.on hg2 hob2 (below_drewN _ _ _)).on hg2 hob2 hb5)
      clear hb5 HPl HJ c0 c1' c2' c3 c4 c5
      go_wp2_with fail
      refine (HFl.out _ HJ5.out.rd).mono ?_
      rintro e w6 ⟨rfl, hr6, ho6⟩
      have HJz := Lib.hid (HJ5.out.go hg2 hob2 hr6 ho6)
      clear hr6 ho6 HFl HJ5 i1 hlt
      obtain ⟨c0, -, -, -, c4, c5⟩ := HJz.out.rd.cells
      obtain ⟨n0, n1, n2, n3, n4, n5⟩ := facts6 HJz.out.nn
      obtain ⟨r0, r1, r2, r3, r4, r5⟩ := facts6 HJz.out.rr
      obtain ⟨o0, o1, o2, o3, o4, o5⟩ := facts6 HJz.out.ob
      have rf := froz4 HJz.out.rr
      by_cases he : s2.err = 0
      · have e0 : (s2.err == 0) = true := by simp [he]
        go_wp2_with fail
        obtain ⟨f1, f2⟩ := WhR.fin hg2 HJz.out (set6_out _ w.heap.size (.string y.2.head.rel) (.slice A1 k1 c1) (.int .i64 y.2.agg) (.int .i64 y.2.col) (.slice A2 k2 c2) (.int .i64 y.2.pos))
        exact bodyPost_ret (v := .tuple #[.agg #[.string y.2.head.rel, .slice A1 k1 c1, .int .i64 y.2.agg, .int .i64 y.2.col, .slice A2 k2 c2, .int .i64 y.2.pos], .int .i64 0, .nilIface]) (by simp [results, Tryd.results16, go_sem, r0, r1, r2, r3, r4, r5]) rfl (HE2.out _ d ⟨A1, k1, c1⟩ ⟨A2, k2, c2⟩ he f1 f2)
      · have e0 : (s2.err == 0) = false := by simp [he]
        go_wp2_with fail
        go_region_with (fail)
        all_goals
          go_wp2_with fail
          refine bodyPost_ret (v := .tuple #[.agg #[.string ⟨#[]⟩, .slice none 0 0, .int .i64 0, .int .i64 0, .slice none 0 0, .int .i64 0], .int .i64 s2.pl, .iface 40 (.int .i64 s2.err)]) (by simp [results, Tryd.results16, go_sem, Act.put, r0, r1, r2, r3, r4, r5]) rfl (HE3.out _ he (belowS (belowS (belowS (belowS (belowS (belowS HJz.out.below _ _ (Nat.le_refl _) _) _ _ (Nat.le_refl _) _) _ _ (Nat.le_refl _) _) _ _ (Nat.le_refl _) _) _ _ (Nat.le_refl _) _) _ _ (Nat.le_refl _) _).drew)
    · have i1 : ¬ (y.1.next : Int) < (T.length : Int) := by omega
      have hl2 : s2 = y.1 := by rw [Hs2.out]; unfold lastP; rw [if_neg hlt]
      clear Hs2
      go_quiet (fail)
      have HJz := Lib.hid (HJ.out.on hg2 hob2 (below_drewN w3 nq _))
      generalize w3.drewN nq = w4 at *
      rw [← hl2] at HJz
      clear HJ c0 c1' c2' c3 c4 c5 hl2
      obtain ⟨c0, -, -, -, c4, c5⟩ := HJz.out.rd.cells
      obtain ⟨n0, n1, n2, n3, n4, n5⟩ := facts6 HJz.out.nn
      obtain ⟨r0, r1, r2, r3, r4, r5⟩ := facts6 HJz.out.rr
      obtain ⟨o0, o1, o2, o3, o4, o5⟩ := facts6 HJz.out.ob
      have rf := froz4 HJz.out.rr
      by_cases he : s2.err = 0
      · have e0 : (s2.err == 0) = true := by simp [he]
        go_wp2_with fail
        obtain ⟨f1, f2⟩ := WhR.fin hg2 HJz.out (set6_out _ w.heap.size (.string y.2.head.rel) (.slice A1 k1 c1) (.int .i64 y.2.agg) (.int .i64 y.2.col) (.slice A2 k2 c2) (.int .i64 y.2.pos))
        exact bodyPost_ret (v := .tuple #[.agg #[.string y.2.head.rel, .slice A1 k1 c1, .int .i64 y.2.agg, .int .i64 y.2.col, .slice A2 k2 c2, .int .i64 y.2.pos], .int .i64 0, .nilIface]) (by simp [results, Tryd.results16, go_sem, r0, r1, r2, r3, r4, r5]) rfl (HE2.out _ d ⟨A1, k1, c1⟩ ⟨A2, k2, c2⟩ he f1 f2)
      · have e0 : (s2.err == 0) = false := by simp [he]
        go_wp2_with fail
        go_region_with (fail)
        all_goals
          go_wp2_with fail
          refine bodyPost_ret (v := .tuple #[.agg #[.string ⟨#[]⟩, .slice none 0 0, .int .i64 0, .int .i64 0, .slice none 0 0, .int .i64 0], .int .i64 s2.pl, .iface 40 (.int .i64 s2.err)]) (by simp [results, Tryd.results16, go_sem, Act.put, r0, r1, r2, r3, r4, r5]) rfl (HE3.out _ he (belowS (belowS (belowS (belowS (belowS (belowS HJz.out.below _ _ (Nat.le_refl _) _) _ _ (Nat.le_refl _) _) _ _ (Nat.le_refl _) _) _ _ (Nat.le_refl _) _) _ _ (Nat.le_refl _) _) _ _ (Nat.le_refl _) _).drew)
set_option maxRecDepth 100000 in
set_option maxHeartbeats 4000000 in
theorem readRule_any (s : ByteArray) (hs : s.size ≤ 140737488351232) (w : World) (hW : ParW w) : Calls Tryd.prog 11 #[.string s] w (WholeRuleRes s w) := by
  obtain ⟨P, HP⟩ : ∃ P : Ending → World → Prop, Hid (P = WholeRuleRes s w) := ⟨_, rfl⟩
  rw [← HP.out]
  have HC := Lib.hid (fun (V : World) (hV : ParW V) => wholeRule_any s hs V hV)
  have HW := Lib.hid hW
  clear hW
  go_enter Tryd.func11, Tryd.ntmps11
  go_wp2_with fail
  refine (HC.out _ (HW.out.on (belowA (Below.refl _ _) _))).mono ?_
  obtain ⟨y, Hy⟩ : ∃ y, Hid (y = (readP s.toList).1) := ⟨_, rfl⟩
  rintro e w1 ⟨hb, d, ⟨A1, k1, c1⟩, ⟨A2, k2, c2⟩, rfl, ha⟩
  rw [← Hy.out] at ha ⊢
  dsimp only [Hd.v] at *
  have hr := (hb.block w.heap.size (by rw [World.size_alloc]; omega)).trans (heapNew rfl)
  have hb1 : Below w.heap.size w w1 := (belowA (Below.refl _ _) _).trans (hb.mono (by rw [World.size_alloc]; omega))
  obtain ⟨r0, r1, r2, r3, r4, r5⟩ := facts6 hr
  have rf := froz4 hr
  have HE : Hid (P (.returned (.tuple #[.agg #[.string y.head.rel, .slice A1 k1 c1, .int .i64 y.agg, .int .i64 y.col, .slice A2 k2 c2, .int .i64 y.pos], .int .i64 (readP s.toList).2.1, parErr (readP s.toList).2.2])) ((((((w1.setCell ⟨w.heap.size, 0, none⟩ (.string y.head.rel)).setCell ⟨w.heap.size, 1, none⟩ (.slice A1 k1 c1)).setCell ⟨w.heap.size, 2, none⟩ (.int .i64 y.agg)).setCell ⟨w.heap.size, 3, none⟩ (.int .i64 y.col)).setCell ⟨w.heap.size, 4, none⟩ (.slice A2 k2 c2)).setCell ⟨w.heap.size, 5, none⟩ (.int .i64 y.pos))) := by
    show P _ _
    rw [HP.out, Hy.out]
    rw [Hy.out] at ha
    have ho := set6_out w1 w.heap.size (.string (readP s.toList).1.head.rel) (.slice A1 k1 c1) (.int .i64 (readP s.toList).1.agg) (.int .i64 (readP s.toList).1.col) (.slice A2 k2 c2) (.int .i64 (readP s.toList).1.pos)
    rw [World.size_alloc] at ha
    exact ⟨belowS (belowS (belowS (belowS (belowS (belowS hb1 _ _ (Nat.le_refl _) _) _ _ (Nat.le_refl _) _) _ _ (Nat.le_refl _) _) _ _ (Nat.le_refl _) _) _ _ (Nat.le_refl _) _) _ _ (Nat.le_refl _) _, d, ⟨A1, k1, c1⟩, ⟨A2, k2, c2⟩, rfl, ha.outs ho (fun b hb _ => by simp at hb; simp; omega) (fun b hb _ => by simp at hb; simp; omega)⟩
  clear HP HC HW ha hb hb1 hr
  generalize parErr (readP s.toList).2.2 = ev at *
  go_wp2_with fail
  exact bodyPost_ret (v := .tuple #[.agg #[.string y.head.rel, .slice A1 k1 c1, .int .i64 y.agg, .int .i64 y.col, .slice A2 k2 c2, .int .i64 y.pos], .int .i64 (readP s.toList).2.1, ev]) (by simp [results, Tryd.results11, go_sem, r0, r1, r2, r3, r4, r5]) rfl HE.out
end Go.Proofs.YtplekbpmfaghbaaDoor
namespace Go.Proofs.YtplekbpmfaghbaaDoor
open Go.RowKit
def al13 : ByteArray := ⟨#[112, 40, 41, 32, 58, 45, 32, 88, 32, 43, 32, 50, 32, 42, 32, 51, 32, 61, 32, 89, 46]⟩
def al13L : List UInt8 := [112, 40, 41, 32, 58, 45, 32, 88, 32, 43, 32, 50, 32, 42, 32, 51, 32, 61, 32, 89, 46]
def al13E : GExp := .mk 1 zT [.mk 0 ⟨⟨#[88]⟩, gv0⟩ [], .mk 3 zT [.mk 0 ⟨⟨#[]⟩, ⟨1, 2, ⟨#[]⟩⟩⟩ [], .mk 0 ⟨⟨#[]⟩, ⟨1, 3, ⟨#[]⟩⟩⟩ []]]
set_option maxRecDepth 100000 in
theorem al13_read : ((readP al13L).2.2, (readP al13L).1.body.map (fun x => x.l)) = (0, [al13E]) := by kernel_rfl
theorem al13_list : al13.toList = al13L := toList_mk _
def al13F : ByteArray → Option GV := fun s => kvGet [((⟨#[88]⟩ : ByteArray), (⟨1, 1, ⟨#[]⟩⟩ : GV))] s
set_option maxRecDepth 100000 in
theorem al13_eval : evalT al13F al13E = (⟨1, 7, ⟨#[]⟩⟩, 0) := by kernel_rfl
def Al13Post (w : World) (e : Ending) (w' : World) : Prop := Below w.heap.size w w' ∧ ∃ (rel : ByteArray) (A1 : Option Addr) (k1 c1 b o c2 : Nat) (ag co pos : Int) (at_ : Nat) (d : Nat) (P : Option Addr) (pn pc : Nat),
  e = .returned (.tuple #[.agg #[.string rel, .slice A1 k1 c1, .int .i64 ag, .int .i64 co, .slice (some ⟨b, o, none⟩) 1 c2, .int .i64 pos], .int .i64 at_, .nilIface]) ∧ b < w'.heap.size ∧
  w'.cell? ⟨b, o + 4, none⟩ = some (.int .i64 1) ∧ w'.cell? ⟨b, o + 5, none⟩ = some (.string ⟨#[]⟩) ∧ w'.cell? ⟨b, o + 6, none⟩ = some (.int .i64 0) ∧ w'.cell? ⟨b, o + 7, none⟩ = some (.int .i64 0) ∧ w'.cell? ⟨b, o + 8, none⟩ = some (.string ⟨#[]⟩) ∧ w'.cell? ⟨b, o + 9, none⟩ = some (.slice P pn pc) ∧
  SliceIs (Enc.exp d) w' w'.heap.size P pn pc al13E.kids
set_option maxRecDepth 100000 in
theorem al13_calls (w : World) (hW : ParW w) : Calls Tryd.prog 11 #[.string al13] w (Al13Post w) := by
  refine (readRule_any al13 (by decide) w hW).mono ?_
  rintro e w1 ⟨hb, d, ⟨A1, k1, c1⟩, ⟨A2, k2, c2⟩, rfl, ha⟩
  have hr := al13_read
  rw [← al13_list] at hr
  generalize readP al13.toList = y at *
  obtain ⟨y, at_, er⟩ := y
  simp only [Prod.mk.injEq] at hr
  obtain ⟨rfl, hbo⟩ := hr
  have hbd : SliceIs (Enc.lit d) w1 w1.heap.size A2 k2 c2 y.body := SliceIs.mono' ha.body (Nat.le_refl _) (kept_up _ _ _)
  have hl : y.body.length = 1 := by have := congrArg List.length hbo; simpa using this
  obtain rfl : k2 = 1 := hbd.1.symm.trans hl
  obtain ⟨b, o, x, a, p, q, rfl, hlt, hx, hla, e0, e1, e2, e3, e4, e5, e6, e7, e8, e9, -⟩ := hbd.lit_at (i := 0) (by omega)
  have hxl : x.l = al13E := by
    have h := congrArg (fun l => l[0]?) hbo
    simp only [List.getElem?_map, hx.out] at h
    exact Option.some.inj h
  simp only [Nat.zero_mul, Nat.add_zero] at e4 e5 e6 e7 e8 e9
  have hlk := hla.lk
  rw [hxl] at e4 e5 e6 e7 e8 hlk
  exact ⟨hb, y.head.rel, A1, k1, c1, b, o, c2, y.agg, y.col, y.pos, at_, d, p.A, p.n, p.c, rfl, hlt, e4, e5, e6, e7, e8, e9, hlk⟩
set_option maxRecDepth 100000 in
set_option maxHeartbeats 4000000 in
theorem alive13_any (w : World) (hW : ParW w) : Calls Tryd.prog 4 #[] w (RetBool true w) := by
  have HC := Lib.hid (al13_calls w hW)
  unfold al13 at HC
  have HL := Lib.hid hW.lex
  have hmm := @run_makeMap Tryd.prog
  have rn := run_eql_value ⟨1, 7, ⟨#[]⟩⟩ ⟨1, 7, ⟨#[]⟩⟩
  rw [GV.beq_self] at rn
  clear hW
  go_enter Tryd.func4, Tryd.ntmps4
  go_wp2_with fail
  refine HC.out.mono ?_
  rintro e w1 ⟨hb, rel, A1, k1, c1, b, o, c2, ag, co, pos, at_, d, P, pn, pc, rfl, hlt, h4, h5, h6, h7, h8, h9, hk⟩
  have hbA := belowA (Below.refl w1.heap.size w1) (.cells #[.string rel, .slice A1 k1 c1, .int .i64 ag, .int .i64 co, .slice (some ⟨b, o, none⟩) 1 c2, .int .i64 pos] 49)
  obtain ⟨w2, hup, hm2, hgr, hsz⟩ := (MapIs.made (w := w1.alloc (.cells #[.string rel, .slice A1 k1 c1, .int .i64 ag, .int .i64 co, .slice (some ⟨b, o, none⟩) 1 c2, .int .i64 pos] 49))).update (P := Tryd.prog) (t := 56) (e := 25) Tryd.underlying56 Tryd.underlying9 ⟨#[88]⟩ (GV.v ⟨1, 1, ⟨#[]⟩⟩)
  have hb2 : Below w1.heap.size w1 w2 := (belowA hbA (.map #[] 0)).grown hgr (by simp; omega) (by rintro _ ⟨rfl⟩; simp)
  have HE := evalTop_any al13E P pn pc d (.map (some (w1.alloc (.cells #[.string rel, .slice A1 k1 c1, .int .i64 ag, .int .i64 co, .slice (some ⟨b, o, none⟩) 1 c2, .int .i64 pos] 49)).heap.size)) al13F w2 (hk.keep hb2) (Nat.zero_le _) ⟨[((⟨#[88]⟩ : ByteArray), (⟨1, 1, ⟨#[]⟩⟩ : GV))], .inr ⟨_, rfl, hm2⟩, by simp, fun _ => rfl⟩ ((HL.out.on hb).on hb2)
  unfold TermErr at HE
  rw [al13_eval] at HE
  simp only [World.size_alloc] at HE
  have HEv : Hid (Calls Tryd.prog 7 #[.agg #[.int .i64 1, .string ⟨#[]⟩, .int .i64 0, .int .i64 0, .string ⟨#[]⟩, .slice P pn pc], .map (some (w1.heap.size + 1))] w2 (fun e w' => e = .returned (.tuple #[.agg #[.int .i64 1, .int .i64 7, .string ⟨#[]⟩], .nilIface]) ∧ Below w2.heap.size w2 w')) := HE
  have HB := Lib.hid (hb.trans (hb2.mono hb.size))
  obtain ⟨g4, g5, g6, g7, g8, g9⟩ : w2.cell? ⟨b, o + 4, none⟩ = some (.int .i64 1) ∧ w2.cell? ⟨b, o + 5, none⟩ = some (.string ⟨#[]⟩) ∧ w2.cell? ⟨b, o + 6, none⟩ = some (.int .i64 0) ∧ w2.cell? ⟨b, o + 7, none⟩ = some (.int .i64 0) ∧ w2.cell? ⟨b, o + 8, none⟩ = some (.string ⟨#[]⟩) ∧ w2.cell? ⟨b, o + 9, none⟩ = some (.slice P pn pc) :=
    ⟨below_cell hb2 h4, below_cell hb2 h5, below_cell hb2 h6, below_cell hb2 h7, below_cell hb2 h8, below_cell hb2 h9⟩
  clear hb hm2 hgr hb2 HE hk HC hbA
  simp only [World.size_alloc] at hup
  go_wp2_with fail
  refine HEv.out.mono ?_
  rintro e w3 ⟨rfl, hb3⟩
  have HB3 := Lib.hid (below_next HB.out hb3)
  clear hb3
  go_wp2_with fail
  go_ret
  exact ⟨rfl, belowA HB3.out _⟩
end Go.Proofs.YtplekbpmfaghbaaDoor
namespace Go.Proofs.YtplekbpmfaghbaaDoor
open Go.ChangeShapes Go.WideShapes Go.ChangeAt Go.RowKit
set_option linter.unusedVariables false
theorem own : ownKnob Tryd.prog.godebug = none := by kernel_rfl
theorem laidOut : laidOutB Tryd.prog = true := by kernel_rfl
theorem u_bool : Tryd.prog.underlying 4 = some .bool := by kernel_rfl
def laid {H : Type} : List (String × DataW H) := [("math/bits.deBruijn32tab", Rows.laid_math_bits_deBruijn32tab), ("math/bits.deBruijn64tab", Rows.laid_math_bits_deBruijn64tab), ("internal/strconv.uint64pow10", Rows.laid_internal_strconv_uint64pow10)]
theorem gP : Tryd.prog.globalNamed "internal/strconv.uint64pow10" = some 7 := by kernel_rfl
theorem gPT : (Tryd.prog.globals[7]?).map (·.type) = some 153 := by kernel_rfl
theorem pow_eq : (Rows.laid_internal_strconv_uint64pow10 : DataW Unit) = Lib.tabData .u64 Lib.pow10Tab := by kernel_rfl
theorem open_int' {H : Type} {enc : TypeId × Value → H} {P : Program} {w : World} {t : TypeId} {v : Value} {d : DataW H} {p : List MemPlace} {r : Reach} {b0 : Nat} {k : IntKind} (hs : P.underlying t = some (.int k)) (hval : Value.okWide P w r b0 t v)
    (h : DataW.Trod enc P w 0 (fun _ => true) true t v d p) : ∃ n : Int, v = .int k n ∧ (Lit.int k n).wf = true := by
  obtain ⟨n, rfl, -, -, hw⟩ := open_int hs hval h
  exact ⟨n, rfl, hw⟩
end Go.Proofs.YtplekbpmfaghbaaDoor
namespace Go.Proofs.YtplekbpmfaghbaaDoor
open Go.ChangeShapes Go.WideShapes Go.ChangeAt Go.RowKit
set_option linter.unusedVariables false
theorem gER : Tryd.prog.globalNamed "strconv.ErrRange" = some 5 := by kernel_rfl
theorem gERT : (Tryd.prog.globals[5]?).map (·.type) = some 27 := by kernel_rfl
theorem gES : Tryd.prog.globalNamed "strconv.ErrSyntax" = some 4 := by kernel_rfl
theorem gEST : (Tryd.prog.globals[4]?).map (·.type) = some 27 := by kernel_rfl
theorem cellsES : Tryd.prog.cellsOf 143 = 1 := by kernel_rfl
theorem cellsStr : Tryd.prog.cellsOf 9 = 1 := by kernel_rfl
theorem starES : "*" ++ "errors.errorString" = "*errors.errorString" := by decide
theorem rowES (u : TypeId) (h : Tryd.prog.typeName? 3 u = some "*errors.errorString") : u = 141 :=
  typeName_ptr_named (nm := "errors.errorString") (by rw [starES]; kernel_rfl) (by kernel_rfl) (by decide) u (by rw [starES]; exact h)
abbrev synS : ByteArray := { data := #[105, 110, 118, 97, 108, 105, 100, 32, 115, 121, 110, 116, 97, 120] }
abbrev rngS : ByteArray := { data := #[118, 97, 108, 117, 101, 32, 111, 117, 116, 32, 111, 102, 32, 114, 97, 110, 103, 101] }
noncomputable def low : Nat := (World.holding Tryd.prog default ⟨#[], #[], []⟩).heap.size
end Go.Proofs.YtplekbpmfaghbaaDoor
