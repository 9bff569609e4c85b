/- My own texts PaPr, PaOk, PaPl, PaW, PaWr, PFrame, as far as this claim needs them. -/
import Derived.Test.YtgabkmibfhmkmaaGreatDoorZe6
import Derived.Test.YtgabkmibfhmkmaaGreatDoorZe8
import Derived.Test.YtgabkmibfhmkmaaGreatDoorZe11
import Derived.Test.YtgabkmibfhmkmaaGreatDoorZe16
import Derived.Test.YtgabkmibfhmkmaaGreatDoorZe23
import Derived.Test.YtgabkmibfhmkmaaGreatDoorZe26
set_option linter.unusedVariables false
set_option linter.unusedSimpArgs false
namespace Go.Proofs.YtgabkmibfhmkmaaGreatDoor
open Go.RowKit
abbrev oB (A : Option Addr) (k c : Nat) : List Nat := (Value.slice A k c).ownBlock.toList
/-- declarations and rules under way: their rows, and what each of them holds, lie apart -/
structure PgR (b1 : Nat) (W : World) (A1 : Option Addr) (k1 c1 : Nat) (L1 : List (GDecl × List Value)) (A2 : Option Addr) (k2 c2 : Nat) (L2 : List (GRule × List Value)) (d : Nat) : Prop where
  own1 : W.ownsRow b1 203 3 (.slice A1 k1 c1) k1 (L1.flatMap (·.2))
  len1 : L1.length = k1
  own2 : W.ownsRow b1 41 6 (.slice A2 k2 c2) k2 (L2.flatMap (·.2))
  len2 : L2.length = k2
  far1 : ∀ p ∈ L1, Enc.decl.ok (sans W (List.range b1 ++ (oB A1 k1 c1 ++ oB A2 k2 c2))) W.heap.size p.2 p.1
  far2 : ∀ p ∈ L2, (Enc.rule d).ok (sans W (List.range b1 ++ (oB A1 k1 c1 ++ oB A2 k2 c2))) W.heap.size p.2 p.1
section
variable {b1 : Nat} {W V : World} {A1 : Option Addr} {k1 c1 : Nat} {L1 : List (GDecl × List Value)} {A2 : Option Addr} {k2 c2 : Nat} {L2 : List (GRule × List Value)} {d : Nat}
theorem PgR.apart (h : PgR b1 W A1 k1 c1 L1 A2 k2 c2 L2 d) {b : Nat} (h1 : (Value.slice A1 k1 c1).ownBlock = some b) (h2 : (Value.slice A2 k2 c2).ownBlock = some b) : False := by
  obtain ⟨x, hx⟩ := own_typeR h.own1 h1
  obtain ⟨y, hy⟩ := own_typeR h.own2 h2
  rw [hx] at hy
  injection hy with hy
  injection hy with _ h3 _
  exact absurd h3 (by decide)
theorem PgR.out (h : PgR b1 W A1 k1 c1 L1 A2 k2 c2 L2 d) {S : List Nat} (ho : Out S W V) (hS : ∀ b ∈ S, b < W.heap.size → b < b1) : PgR b1 V A1 k1 c1 L1 A2 k2 c2 L2 d := by
  have hk := ho.kept (T := List.range b1 ++ (oB A1 k1 c1 ++ oB A2 k2 c2)) (U := List.range b1 ++ (oB A1 k1 c1 ++ oB A2 k2 c2)) (fun b hb hl => List.mem_append_left _ (List.mem_range.2 (hS b hb hl))) (fun _ h _ => h)
  have ho2 : Out (S.filter (fun b => decide (b < W.heap.size))) W V := ⟨ho.os, ho.tape, ho.output, ho.size, fun b hb hn => ho.block b hb (fun hs => hn (List.mem_filter.2 ⟨hs, by simpa using hb⟩))⟩
  have hno : ∀ b, b1 ≤ b → b ∉ S.filter (fun b => decide (b < W.heap.size)) := fun b hb hm => by
    obtain ⟨h2, h3⟩ := List.mem_filter.1 hm
    have := hS b h2 (by simpa using h3)
    omega
  exact ⟨own_out' h.own1 ho2 (fun b hb => hno b (own_blk h.own1 hb).1), h.len1, own_out' h.own2 ho2 (fun b hb => hno b (own_blk h.own2 hb).1), h.len2, fun p hp => Enc.decl.mono ho.size hk (h.far1 p hp), fun p hp => (Enc.rule d).mono ho.size hk (h.far2 p hp)⟩
theorem PgR.is (h : PgR b1 W A1 k1 c1 L1 A2 k2 c2 L2 d) (h1 : k1 ≤ reachN) (h2 : k2 ≤ reachN) {base : Nat} (hb : base ≤ b1) : SliceFar Enc.decl W (List.range base) A1 k1 c1 (L1.map (·.1)) ∧ SliceFar (Enc.rule d) W (List.range base) A2 k2 c2 (L2.map (·.1)) := by
  have hr1 : Rows Enc.decl b1 203 W A1 k1 c1 L1 := ⟨h.own1, h.len1, fun p hp => Enc.decl.mono (Nat.le_refl _) ((Out.refl [] W).kept (fun _ h _ => by cases h) (fun b hb' _ => by
    rcases List.mem_append.1 hb' with hb' | hb'
    · exact List.mem_append_left _ hb'
    · exact List.mem_append_right _ (List.mem_append_left _ hb'))) (h.far1 p hp)⟩
  have hr2 : Rows (Enc.rule d) b1 41 W A2 k2 c2 L2 := ⟨h.own2, h.len2, fun p hp => (Enc.rule d).mono (Nat.le_refl _) ((Out.refl [] W).kept (fun _ h _ => by cases h) (fun b hb' _ => by
    rcases List.mem_append.1 hb' with hb' | hb'
    · exact List.mem_append_left _ hb'
    · exact List.mem_append_right _ (List.mem_append_right _ hb'))) (h.far2 p hp)⟩
  exact ⟨hr1.is h1 hb, hr2.is h2 hb⟩
end
section
variable {B g : Nat} {A : Option Addr} {c : Nat} {T : List GTok} {E : Nat}
/-- a program under way, in block pb -/
structure PgJ (B g : Nat) (A : Option Addr) (c : Nat) (T : List GTok) (E : Nat) (w : World) (pb b1 : Nat) (x : PS × GProg) (W : World) : Prop where
  rd : Rd B g A c T E x.1 W
  deep : x.1.deep = 0
  out : Out [g] w W
  row : ∃ A1 c1 L1 A2 c2 L2 d, W.heap[pb]? = some (.cells #[.slice A1 x.2.decls.length c1, .slice A2 x.2.rules.length c2] 93 (0, 0)) ∧ PgR b1 W A1 x.2.decls.length c1 L1 A2 x.2.rules.length c2 L2 d ∧ L1.map (·.1) = x.2.decls ∧ L2.map (·.1) = x.2.rules
  rr : W.heap[w.heap.size]? = some (.cells #[.slice none 0 0, .slice none 0 0] 93 (0, 0))
  b1 : b1 ≤ W.heap.size
  n1 : x.2.decls.length ≤ 32
  n2 : x.2.rules.length ≤ 64
structure PgB (B g : Nat) (w : World) (pb b1 : Nat) : Prop where
  B : B ≤ w.heap.size
  g : g < w.heap.size
  x : w.heap.size < pb
  b : pb < b1
theorem PgJ.go {w W W' : World} {pb b1 : Nat} {x : PS × GProg} {s' : PS} (hb : PgB B g w pb b1) (h : PgJ B g A c T E w pb b1 x W) (hr : Rd B g A c T E s' W') (ho : Out [g] W W') (hd : s'.deep = x.1.deep) : PgJ B g A c T E w pb b1 (s', x.2) W' := by
  obtain ⟨A1, c1, L1, A2, c2, L2, d, h1, h2, h3, h4⟩ := h.row
  have hg := hb.g
  have hx := hb.x
  have hbb := hb.b
  exact ⟨hr, by dsimp only; rw [hd]; exact h.deep, out_next h.out ho, ⟨A1, c1, L1, A2, c2, L2, d, (ho.block _ (Array.getElem?_eq_some_iff.1 h1).1 (by simp; omega)).trans h1, h2.out ho (fun b hb _ => by simp at hb; omega), h3, h4⟩,
    (ho.block _ (Array.getElem?_eq_some_iff.1 h.rr).1 (by simp; omega)).trans h.rr, Nat.le_trans h.b1 ho.size, h.n1, h.n2⟩
theorem PgJ.on {w W W' : World} {pb b1 : Nat} {x : PS × GProg} (hb : PgB B g w pb b1) (h : PgJ B g A c T E w pb b1 x W) (hB : Below W.heap.size W W') : PgJ B g A c T E w pb b1 x W' :=
  h.go hb (h.rd.on hB) (Out.of_below hB [g]) rfl
end
end Go.Proofs.YtgabkmibfhmkmaaGreatDoor

namespace Go.Proofs.YtgabkmibfhmkmaaGreatDoor
open Go.RowKit
/-- the tokens of a text -/
structure Toks (T : List GTok) (E : Nat) : Prop where
  within : Within T E
  texts : ∀ q ∈ T, TextOf wordK q.k q.t
  short : ∀ q ∈ T, q.t.length ≤ 4000
section
variable {T : List GTok} {E : Nat}
end
end Go.Proofs.YtgabkmibfhmkmaaGreatDoor

namespace Go.Proofs.YtgabkmibfhmkmaaGreatDoor
open Go.RowKit
theorem toks_of {l : List UInt8} (hl : l.length ≤ 4000) : Toks (lexS l).1 l.length := by
  have hp := lex_places (wk := wordK) _ 0 l (Nat.le_refl _)
  refine ⟨fun q hq => ?_, lex_texts (wk := wordK) _ 0 l (Nat.le_refl _), fun q hq => ?_⟩
  · have := hp q hq; omega
  · have := hp q hq; omega
section
variable {T : List GTok} {E : Nat}
end
theorem fine0 (T : List GTok) (E : Nat) : Fine T E ps0 := ⟨Nat.zero_le _, fun h => absurd rfl h, Nat.zero_le _, by decide, by decide⟩
end Go.Proofs.YtgabkmibfhmkmaaGreatDoor

namespace Go.Proofs.YtgabkmibfhmkmaaGreatDoor
open Go.RowKit
/-- the reader that begins -/
theorem Rd.begin {W : World} {A : Option Addr} {c : Nat} {T : List GTok} {E : Nat} (hp : ParW W) (ht : SliceIs Enc.tok W W.heap.size A T.length c T) (hX : Toks T E) (hE : E ≤ 4000) (hT : T.length ≤ 4000) :
    Rd (W.heap.size + 1) W.heap.size A c T E ps0 (W.alloc (.cells #[.slice A T.length c, .int .i64 0, .int .i64 E, .int .i64 0, .int .i64 0, .int .i64 0] 311)) := by
  have hB := belowA (Below.refl W.heap.size W) (.cells #[.slice A T.length c, .int .i64 0, .int .i64 E, .int .i64 0, .int .i64 0, .int .i64 0] 311)
  refine ⟨heapNew rfl, ?_, hp.on hB, Nat.lt_succ_self _, by simp, fun b hb => ?_, fine0 T E, hX.within, hE, hT, by decide, hX.texts⟩
  · refine ht.mono' (Nat.le_succ _) (fun b hb cs t fr hcs hc => ?_)
    rw [sans_out (by simp; omega), hB.block b hb, hcs]
  · have := hp.lt b hb
    omega
def parErr (e : Int) : Value := if e = 0 then .nilIface else .iface 66 (.int .i64 e)
structure WhJ (w : World) (g ob : Nat) (A : Option Addr) (c : Nat) (T : List GTok) (E : Nat) (A1 : Option Addr) (k1 c1 : Nat) (A2 : Option Addr) (k2 c2 : Nat) (y : GProg) (d : Nat) (s : PS) (V : World) : Prop where
  rd : Rd (g + 1) g A c T E s V
  nn : V.heap[w.heap.size + 1]? = some (.cells #[.slice none 0 0, .slice none 0 0] 93 (0, 0))
  rr : V.heap[w.heap.size]? = some (.cells #[.slice none 0 0, .slice none 0 0] 93 (0, 0))
  ob : V.heap[ob]? = some (.cells #[.slice A1 k1 c1, .slice A2 k2 c2] 93 (0, 0))
  below : Below w.heap.size w V
  da : SliceFar Enc.decl V (List.range (g + 1)) A1 k1 c1 y.decls
  db : SliceFar (Enc.rule d) V (List.range (g + 1)) A2 k2 c2 y.rules
theorem WhJ.go {w : World} {g ob : Nat} {A : Option Addr} {c : Nat} {T : List GTok} {E : Nat} {A1 : Option Addr} {k1 c1 : Nat} {A2 : Option Addr} {k2 c2 : Nat} {y : GProg} {d : Nat} {s s' : PS} {V V' : World} (hg : w.heap.size + 2 ≤ g) (hob : g < ob) (h : WhJ w g ob A c T E A1 k1 c1 A2 k2 c2 y d s V) (hr : Rd (g + 1) g A c T E s' V') (ho : Out [g] V V') : WhJ w g ob A c T E A1 k1 c1 A2 k2 c2 y d s' V' :=
  ⟨hr, (ho.block _ (Array.getElem?_eq_some_iff.1 h.nn).1 (by simp; omega)).trans h.nn, (ho.block _ (Array.getElem?_eq_some_iff.1 h.rr).1 (by simp; omega)).trans h.rr, (ho.block _ (Array.getElem?_eq_some_iff.1 h.ob).1 (by simp; omega)).trans h.ob,
    h.below.trans (ho.below (fun b hb => by simp at hb; omega) h.below.size), h.da.out ho (fun b hb _ => by simp at hb; simp; omega) (fun _ h _ => h), h.db.out ho (fun b hb _ => by simp at hb; simp; omega) (fun _ h _ => h)⟩
theorem WhJ.on {w : World} {g ob : Nat} {A : Option Addr} {c : Nat} {T : List GTok} {E : Nat} {A1 : Option Addr} {k1 c1 : Nat} {A2 : Option Addr} {k2 c2 : Nat} {y : GProg} {d : Nat} {s : PS} {V V' : World} (hg : w.heap.size + 2 ≤ g) (hob : g < ob) (h : WhJ w g ob A c T E A1 k1 c1 A2 k2 c2 y d s V) (hb : Below V.heap.size V V') : WhJ w g ob A c T E A1 k1 c1 A2 k2 c2 y d s V' :=
  h.go hg hob (h.rd.on hb) (Out.of_below hb _)
theorem WhJ.fin {w : World} {g ob : Nat} {A : Option Addr} {c : Nat} {T : List GTok} {E : Nat} {A1 : Option Addr} {k1 c1 : Nat} {A2 : Option Addr} {k2 c2 : Nat} {y : GProg} {d : Nat} {s : PS} {V V' : World} (hg : w.heap.size + 2 ≤ g) (h : WhJ w g ob A c T E A1 k1 c1 A2 k2 c2 y d s V) (ho : Out [w.heap.size] V V') : Below w.heap.size w V' ∧ SliceFar Enc.decl V' (List.range w.heap.size) A1 k1 c1 y.decls ∧ SliceFar (Enc.rule d) V' (List.range w.heap.size) A2 k2 c2 y.rules :=
  ⟨h.below.trans (ho.below (fun b hb => by simp at hb; omega) h.below.size), h.da.out ho (fun b hb _ => by simp at hb; simp; omega) (fun b hb _ => by simp at hb; simp; omega), h.db.out ho (fun b hb _ => by simp at hb; simp; omega) (fun b hb _ => by simp at hb; simp; omega)⟩
end Go.Proofs.YtgabkmibfhmkmaaGreatDoor

namespace Go.Proofs.YtgabkmibfhmkmaaGreatDoor
open Go.RowKit
/-- a whole rule read: what it is, or where it fails -/
def zeroRule : GRule := ⟨⟨⟨#[]⟩, []⟩, 0, 0, [], 0⟩
def readP (l : List UInt8) : GRule × Nat × Int := wholeP zeroRule (fun T E s => ruleP T E s) l
def WholeRuleRes (s : ByteArray) (w : World) (e : Ending) (w' : World) : Prop := Below w.heap.size w w' ∧
  ∃ (d : Nat) (a b : Hd), e = .returned (.tuple #[.agg (ruleC (readP s.toList).1 a b).toArray, .int .i64 (readP s.toList).2.1, parErr (readP s.toList).2.2]) ∧ RuleAt d (sans w' (List.range w.heap.size)) w'.heap.size (readP s.toList).1 a b
theorem RuleAt.outs {d : Nat} {S T U : List Nat} {w w' : World} {x : GRule} {a b : Hd} (h : RuleAt d (sans w T) w.heap.size x a b) (ho : Out S w w') (hT : ∀ b ∈ S, b < w.heap.size → b ∈ T) (hU : ∀ b ∈ U, b < w.heap.size → b ∈ T) : RuleAt d (sans w' U) w'.heap.size x a b := h.mono' ho.size (ho.kept hT hU)
theorem RuleAt.ons {d : Nat} {T : List Nat} {w w' : World} {x : GRule} {a b : Hd} (h : RuleAt d (sans w T) w.heap.size x a b) (hb : Below w.heap.size w w') : RuleAt d (sans w' T) w'.heap.size x a b := h.outs (Out.of_below hb T) (fun _ hb _ => hb) (fun _ hb _ => hb)
theorem RuleAt.zero (w : World) (B : Nat) : RuleAt 0 w B zeroRule ⟨none, 0, 0⟩ ⟨none, 0, 0⟩ := ⟨by decide, SliceIs.nil, f_lit0, f_lit0, SliceIs.nil, f_lit0⟩
structure WhR (w : World) (g ob : Nat) (A : Option Addr) (c : Nat) (T : List GTok) (E : Nat) (A1 : Option Addr) (k1 c1 : Nat) (A2 : Option Addr) (k2 c2 : Nat) (y : GRule) (d : Nat) (s : PS) (V : World) : Prop where
  rd : Rd (g + 1) g A c T E s V
  nn : V.heap[w.heap.size + 1]? = some (.cells #[.string ⟨#[]⟩, .slice none 0 0, .int .i64 0, .int .i64 0, .slice none 0 0, .int .i64 0] 41 (0, 0))
  rr : V.heap[w.heap.size]? = some (.cells #[.string ⟨#[]⟩, .slice none 0 0, .int .i64 0, .int .i64 0, .slice none 0 0, .int .i64 0] 41 (0, 0))
  ob : V.heap[ob]? = some (.cells #[.string y.head.rel, .slice A1 k1 c1, .int .i64 y.agg, .int .i64 y.col, .slice A2 k2 c2, .int .i64 y.pos] 41 (0, 0))
  below : Below w.heap.size w V
  da : RuleAt d (sans V (List.range (g + 1))) V.heap.size y ⟨A1, k1, c1⟩ ⟨A2, k2, c2⟩
theorem WhR.go {w : World} {g ob : Nat} {A : Option Addr} {c : Nat} {T : List GTok} {E : Nat} {A1 : Option Addr} {k1 c1 : Nat} {A2 : Option Addr} {k2 c2 : Nat} {y : GRule} {d : Nat} {s s' : PS} {V V' : World} (hg : w.heap.size + 2 ≤ g) (hob : g < ob) (h : WhR w g ob A c T E A1 k1 c1 A2 k2 c2 y d s V) (hr : Rd (g + 1) g A c T E s' V') (ho : Out [g] V V') : WhR w g ob A c T E A1 k1 c1 A2 k2 c2 y d s' V' :=
  ⟨hr, (ho.block _ (Array.getElem?_eq_some_iff.1 h.nn).1 (by simp; omega)).trans h.nn, (ho.block _ (Array.getElem?_eq_some_iff.1 h.rr).1 (by simp; omega)).trans h.rr, (ho.block _ (Array.getElem?_eq_some_iff.1 h.ob).1 (by simp; omega)).trans h.ob,
    h.below.trans (ho.below (fun b hb => by simp at hb; omega) h.below.size), h.da.outs ho (fun b hb _ => by simp at hb; simp; omega) (fun _ h _ => h)⟩
theorem WhR.on {w : World} {g ob : Nat} {A : Option Addr} {c : Nat} {T : List GTok} {E : Nat} {A1 : Option Addr} {k1 c1 : Nat} {A2 : Option Addr} {k2 c2 : Nat} {y : GRule} {d : Nat} {s : PS} {V V' : World} (hg : w.heap.size + 2 ≤ g) (hob : g < ob) (h : WhR w g ob A c T E A1 k1 c1 A2 k2 c2 y d s V) (hb : Below V.heap.size V V') : WhR w g ob A c T E A1 k1 c1 A2 k2 c2 y d s V' :=
  h.go hg hob (h.rd.on hb) (Out.of_below hb _)
theorem WhR.fin {w : World} {g ob : Nat} {A : Option Addr} {c : Nat} {T : List GTok} {E : Nat} {A1 : Option Addr} {k1 c1 : Nat} {A2 : Option Addr} {k2 c2 : Nat} {y : GRule} {d : Nat} {s : PS} {V V' : World} (hg : w.heap.size + 2 ≤ g) (h : WhR w g ob A c T E A1 k1 c1 A2 k2 c2 y d s V) (ho : Out [w.heap.size] V V') : Below w.heap.size w V' ∧ RuleAt d (sans V' (List.range w.heap.size)) V'.heap.size y ⟨A1, k1, c1⟩ ⟨A2, k2, c2⟩ :=
  ⟨h.below.trans (ho.below (fun b hb => by simp at hb; omega) h.below.size), h.da.outs ho (fun b hb _ => by simp at hb; simp; omega) (fun b hb _ => by simp at hb; simp; omega)⟩
set_option maxRecDepth 100000 in
set_option maxHeartbeats 8000000 in
theorem wholeRule_any (s : ByteArray) (hs : s.size ≤ 140737488351232) (w : World) (hW : ParW w) : Calls Tryz.prog 177 #[.string s, .func (.func 178) #[] #[]] w (WholeRuleRes s w) := by
  have HW := Lib.hid hW
  obtain ⟨P, HP⟩ : ∃ P : Ending → World → Prop, Hid (P = WholeRuleRes s w) := ⟨_, rfl⟩
  rw [← HP.out]
  have HLs := Lib.hid (fun (V : World) (hV : ParW V) => list_any s hs V hV.lex)
  have Hlen := Lib.hid (ba_len s)
  have HE : Hid (∀ (V : World) (at_ : Nat) (er : Int), Below w.heap.size w V → readP s.toList = (zeroRule, at_, er) → P (.returned (.tuple #[.agg #[.string ⟨#[]⟩, .slice none 0 0, .int .i64 0, .int .i64 0, .slice none 0 0, .int .i64 0], .int .i64 at_, parErr er])) V) := fun V at_ er hb hp => by
    rw [HP.out]
    refine ⟨hb, 0, ⟨none, 0, 0⟩, ⟨none, 0, 0⟩, by rw [hp]; rfl, ?_⟩
    rw [hp]; exact RuleAt.zero _ _
  clear hW
  go_enter Tryz.func177, Tryz.ntmps177
  go_wp2_with fail
  have hb0 : Below w.heap.size w ((w.alloc (.cells #[.string ⟨#[]⟩, .slice none 0 0, .int .i64 0, .int .i64 0, .slice none 0 0, .int .i64 0] 41)).alloc (.cells #[.string ⟨#[]⟩, .slice none 0 0, .int .i64 0, .int .i64 0, .slice none 0 0, .int .i64 0] 41)) := belowA (belowA (Below.refl _ _) _) _
  have hr0 : ((w.alloc (.cells #[.string ⟨#[]⟩, .slice none 0 0, .int .i64 0, .int .i64 0, .slice none 0 0, .int .i64 0] 41)).alloc (.cells #[.string ⟨#[]⟩, .slice none 0 0, .int .i64 0, .int .i64 0, .slice none 0 0, .int .i64 0] 41)).heap[w.heap.size]? = some (.cells #[.string ⟨#[]⟩, .slice none 0 0, .int .i64 0, .int .i64 0, .slice none 0 0, .int .i64 0] 41 (0, 0)) := ((belowA (Below.refl _ (w.alloc (.cells #[.string ⟨#[]⟩, .slice none 0 0, .int .i64 0, .int .i64 0, .slice none 0 0, .int .i64 0] 41))) _).block _ (by rw [World.size_alloc]; omega)).trans (heapNew rfl)
  have hn0 : ((w.alloc (.cells #[.string ⟨#[]⟩, .slice none 0 0, .int .i64 0, .int .i64 0, .slice none 0 0, .int .i64 0] 41)).alloc (.cells #[.string ⟨#[]⟩, .slice none 0 0, .int .i64 0, .int .i64 0, .slice none 0 0, .int .i64 0] 41)).heap[w.heap.size + 1]? = some (.cells #[.string ⟨#[]⟩, .slice none 0 0, .int .i64 0, .int .i64 0, .slice none 0 0, .int .i64 0] 41 (0, 0)) := heapNew (by rw [World.size_alloc])
  refine (HLs.out _ (HW.out.on hb0)).mono ?_
  rintro e w1 ⟨hb, hcase⟩
  have hz0 : ((w.alloc (.cells #[.string ⟨#[]⟩, .slice none 0 0, .int .i64 0, .int .i64 0, .slice none 0 0, .int .i64 0] 41)).alloc (.cells #[.string ⟨#[]⟩, .slice none 0 0, .int .i64 0, .int .i64 0, .slice none 0 0, .int .i64 0] 41)).heap.size = w.heap.size + 2 := by simp
  have hz1 := hb.size
  rw [hz0] at hz1
  replace hr0 := (hb.block w.heap.size (by omega)).trans hr0
  replace hn0 := (hb.block (w.heap.size + 1) (by omega)).trans hn0
  have hb1 : Below w.heap.size w w1 := Below.trans hb0 (hb.mono (by omega))
  clear hb hb0 hz0 HLs
  obtain ⟨r0, r1, r2, r3, r4, r5⟩ := facts6 hr0
  obtain ⟨n0, n1, n2, n3, n4, n5⟩ := facts6 hn0
  have rf := froz4 hr0
  have Hb1 := Lib.hid hb1
  have Hr0 := Lib.hid hr0
  have Hn0 := Lib.hid hn0
  clear hr0 hn0 hb1
  rcases hcase with ⟨h4, rfl⟩ | ⟨h4, ⟨p, hp, rfl⟩ | ⟨hn, A, c, rfl, ht⟩⟩
  · have hl : 4000 < s.toList.length := by rw [Hlen.out]; exact h4
    have HX : Hid (∀ V, Below w.heap.size w V → P (.returned (.tuple #[.agg #[.string ⟨#[]⟩, .slice none 0 0, .int .i64 0, .int .i64 0, .slice none 0 0, .int .i64 0], .int .i64 4000, .iface 66 (.int .i64 3)])) V) := fun V hb => HE.out V 4000 3 hb (by unfold readP wholeP; rw [if_pos hl])
    clear HE HP hl h4
    go_wp2_with fail
    exact bodyPost_ret (v := .tuple #[.agg #[.string ⟨#[]⟩, .slice none 0 0, .int .i64 0, .int .i64 0, .slice none 0 0, .int .i64 0], .int .i64 4000, .iface 66 (.int .i64 3)]) (by simp [results, Tryz.results177, go_sem, r0, r1, r2, r3, r4, r5]) rfl (HX.out _ (belowS (belowS (belowS (belowS (belowS (belowS Hb1.out _ _ (Nat.le_refl _) _) _ _ (Nat.le_refl _) _) _ _ (Nat.le_refl _) _) _ _ (Nat.le_refl _) _) _ _ (Nat.le_refl _) _) _ _ (Nat.le_refl _) _))
  · have hl : ¬ 4000 < s.toList.length := by rw [Hlen.out]; omega
    have HX : Hid (∀ V, Below w.heap.size w V → P (.returned (.tuple #[.agg #[.string ⟨#[]⟩, .slice none 0 0, .int .i64 0, .int .i64 0, .slice none 0 0, .int .i64 0], .int .i64 p, .iface 66 (.int .i64 2)])) V) := fun V hb => HE.out V p 2 hb (by unfold readP wholeP; rw [if_neg hl, hp])
    clear HE HP hl h4 hp
    go_wp2_with fail
    exact bodyPost_ret (v := .tuple #[.agg #[.string ⟨#[]⟩, .slice none 0 0, .int .i64 0, .int .i64 0, .slice none 0 0, .int .i64 0], .int .i64 p, .iface 66 (.int .i64 2)]) (by simp [results, Tryz.results177, go_sem, r0, r1, r2, r3, r4, r5]) rfl (HX.out _ (belowS (belowS (belowS (belowS (belowS (belowS Hb1.out _ _ (Nat.le_refl _) _) _ _ (Nat.le_refl _) _) _ _ (Nat.le_refl _) _) _ _ (Nat.le_refl _) _) _ _ (Nat.le_refl _) _) _ _ (Nat.le_refl _) _))
  · have hl : ¬ 4000 < s.toList.length := by rw [Hlen.out]; omega
    have hTl := (lex_len (wk := wordK) _ 0 s.toList (Nat.le_refl _)).2
    replace hTl : (lexS s.toList).1.length ≤ s.size := by rw [← Hlen.out]; exact hTl
    have hTk := toks_of (l := s.toList) (by omega)
    rw [Hlen.out] at hTk
    have HRd := Lib.hid (Rd.begin (HW.out.on Hb1.out) ht hTk h4 (Nat.le_trans hTl h4))
    have HPs : Hid (readP s.toList = if (lastP (lexS s.toList).1 s.size (ruleP (lexS s.toList).1 s.size ps0).1).err = 0 then ((ruleP (lexS s.toList).1 s.size ps0).2, 0, 0) else (zeroRule, (lastP (lexS s.toList).1 s.size (ruleP (lexS s.toList).1 s.size ps0).1).pl, (lastP (lexS s.toList).1 s.size (ruleP (lexS s.toList).1 s.size ps0).1).err)) := by
      show _ = _
      unfold readP wholeP
      rw [if_neg hl, hn]
      dsimp only
      rw [Hlen.out]
    generalize (lexS s.toList).1 = T at *
    have HPg := Lib.hid (rrule_any HRd.out rfl)
    generalize ruleP T s.size ps0 = y at *
    have HE2 : Hid (∀ (V : World) (d : Nat) (a b : Hd), (lastP T s.size y.1).err = 0 → Below w.heap.size w V → RuleAt d (sans V (List.range w.heap.size)) V.heap.size y.2 a b → P (.returned (.tuple #[.agg (ruleC y.2 a b).toArray, .int .i64 0, .nilIface])) V) := fun V d a b h0 hb h1 => by
      rw [HP.out]
      refine ⟨hb, d, a, b, ?_, ?_⟩
      · rw [HPs.out, if_pos h0]; rfl
      · rw [HPs.out, if_pos h0]; exact h1
    have HE3 : Hid (∀ (V : World), (lastP T s.size y.1).err ≠ 0 → Below w.heap.size w V → P (.returned (.tuple #[.agg #[.string ⟨#[]⟩, .slice none 0 0, .int .i64 0, .int .i64 0, .slice none 0 0, .int .i64 0], .int .i64 (lastP T s.size y.1).pl, .iface 66 (.int .i64 (lastP T s.size y.1).err)])) V) := fun V h0 hb => by
      have h := HE.out V (lastP T s.size y.1).pl (lastP T s.size y.1).err hb (by rw [HPs.out, if_neg h0])
      unfold parErr at h
      rw [if_neg h0] at h
      exact h
    clear HE HP HPs hl hTl hTk ht hn HW
    go_wp2_with fail
    refine HPg.out.mono ?_
    rintro e w2 ⟨d, ⟨A1, k1, c1⟩, ⟨A2, k2, c2⟩, rfl, hr2, ho2, ha⟩
    dsimp only [Hd.v] at *
    have hz2 := ho2.size
    rw [World.size_alloc] at hz2
    have HR2 := Lib.hid hr2
    have HO2 := Lib.hid ho2
    have Ha := Lib.hid ha
    have HN2 := Lib.hid ((ho2.block (w.heap.size + 1) (by rw [World.size_alloc]; omega) (by simp; omega)).trans (heapOld Hn0.out))
    have HRR2 := Lib.hid ((ho2.block w.heap.size (by rw [World.size_alloc]; omega) (by simp; omega)).trans (heapOld Hr0.out))
    clear hr2 ho2 ha HPg HRd r0 r1 r2 r3 r4 r5 n0 n1 n2 n3 n4 n5 rf
    go_wp2_with fail
    --TAIL
    have hg2 : w.heap.size + 2 ≤ w1.heap.size := hz1
    have hob2 : w1.heap.size < w2.heap.size := by omega
    have ha2 := Ha.out
    rw [World.size_alloc] at ha2
    have hJ : WhR w w1.heap.size w2.heap.size A c T s.size A1 k1 c1 A2 k2 c2 y.2 d y.1 (w2.alloc (.cells #[.string y.2.head.rel, .slice A1 k1 c1, .int .i64 y.2.agg, .int .i64 y.2.col, .slice A2 k2 c2, .int .i64 y.2.pos] 41)) :=
      ⟨HR2.out.on (belowA (Below.refl _ _) _), heapOld HN2.out, heapOld HRR2.out, heapNew rfl, ((Hb1.out.alloc Hb1.out.size _).trans (HO2.out.below (fun b hb => by simp at hb; have := Hb1.out.size; omega) (by rw [World.size_alloc]; have := Hb1.out.size; omega))).alloc (by have := Hb1.out.size; omega) _, ha2.ons (belowA (Below.refl _ _) _)⟩
    have HJ := Lib.hid hJ
    clear hJ ha2 HR2 HO2 Ha HN2 HRR2 Hr0 Hn0 Hb1
    generalize w2.alloc (.cells #[.string y.2.head.rel, .slice A1 k1 c1, .int .i64 y.2.agg, .int .i64 y.2.col, .slice A2 k2 c2, .int .i64 y.2.pos] 41) = w3 at *
    obtain ⟨c0, c1', c2', c3, c4, c5⟩ := HJ.out.rd.cells
    obtain ⟨s2, Hs2⟩ : ∃ s2, Hid (s2 = lastP T s.size y.1) := ⟨_, rfl⟩
    rw [← Hs2.out] at HE2 HE3
    by_cases hlt : y.1.next < T.length
    · have i1 : (y.1.next : Int) < (T.length : Int) := by omega
      have HPl := Lib.hid (fun (V : World) (hR : Rd (w1.heap.size + 1) w1.heap.size A c T s.size y.1 V) => rplace_any hR)
      have HFl := Lib.hid (fun (V : World) (hR : Rd (w1.heap.size + 1) w1.heap.size A c T s.size y.1 V) => rfail_any hR (peekP T s.size y.1 0).a (peek_le hR.within _ _) 2 (by omega))
      have hl2 : failP T y.1 (peekP T s.size y.1 0).a 2 = s2 := by rw [Hs2.out]; unfold lastP; rw [if_pos hlt]
      rw [hl2] at HFl
      clear hl2 Hs2
      go_quiet (fail)
      go_wp2_with fail
      refine (HPl.out _ (HJ.out.rd.on (below_drewN _ _ _))).mono ?_
      rintro e w5 ⟨rfl, hb5⟩
      have HJ5 := Lib.hid ((HJ.out.on hg2 hob2 (below_drewN _ _ _)).on hg2 hob2 hb5)
      clear hb5 HPl HJ c0 c1' c2' c3 c4 c5
      go_wp2_with fail
      refine (HFl.out _ HJ5.out.rd).mono ?_
      rintro e w6 ⟨rfl, hr6, ho6⟩
      have HJz := Lib.hid (HJ5.out.go hg2 hob2 hr6 ho6)
      clear hr6 ho6 HFl HJ5 i1 hlt
      obtain ⟨c0, -, -, -, c4, c5⟩ := HJz.out.rd.cells
      obtain ⟨n0, n1, n2, n3, n4, n5⟩ := facts6 HJz.out.nn
      obtain ⟨r0, r1, r2, r3, r4, r5⟩ := facts6 HJz.out.rr
      obtain ⟨o0, o1, o2, o3, o4, o5⟩ := facts6 HJz.out.ob
      have rf := froz4 HJz.out.rr
      by_cases he : s2.err = 0
      · have e0 : (s2.err == 0) = true := by simp [he]
        go_wp2_with fail
        obtain ⟨f1, f2⟩ := WhR.fin hg2 HJz.out (set6_out _ w.heap.size (.string y.2.head.rel) (.slice A1 k1 c1) (.int .i64 y.2.agg) (.int .i64 y.2.col) (.slice A2 k2 c2) (.int .i64 y.2.pos))
        exact bodyPost_ret (v := .tuple #[.agg #[.string y.2.head.rel, .slice A1 k1 c1, .int .i64 y.2.agg, .int .i64 y.2.col, .slice A2 k2 c2, .int .i64 y.2.pos], .int .i64 0, .nilIface]) (by simp [results, Tryz.results177, go_sem, r0, r1, r2, r3, r4, r5]) rfl (HE2.out _ d ⟨A1, k1, c1⟩ ⟨A2, k2, c2⟩ he f1 f2)
      · have e0 : (s2.err == 0) = false := by simp [he]
        go_wp2_with fail
        go_region_with (fail)
        all_goals
          go_wp2_with fail
          refine bodyPost_ret (v := .tuple #[.agg #[.string ⟨#[]⟩, .slice none 0 0, .int .i64 0, .int .i64 0, .slice none 0 0, .int .i64 0], .int .i64 s2.pl, .iface 66 (.int .i64 s2.err)]) (by simp [results, Tryz.results177, go_sem, Act.put, r0, r1, r2, r3, r4, r5]) rfl (HE3.out _ he (belowS (belowS (belowS (belowS (belowS (belowS HJz.out.below _ _ (Nat.le_refl _) _) _ _ (Nat.le_refl _) _) _ _ (Nat.le_refl _) _) _ _ (Nat.le_refl _) _) _ _ (Nat.le_refl _) _) _ _ (Nat.le_refl _) _).drew)
    · have i1 : ¬ (y.1.next : Int) < (T.length : Int) := by omega
      have hl2 : s2 = y.1 := by rw [Hs2.out]; unfold lastP; rw [if_neg hlt]
      clear Hs2
      go_quiet (fail)
      have HJz := Lib.hid (HJ.out.on hg2 hob2 (below_drewN w3 nq _))
      generalize w3.drewN nq = w4 at *
      rw [← hl2] at HJz
      clear HJ c0 c1' c2' c3 c4 c5 hl2
      obtain ⟨c0, -, -, -, c4, c5⟩ := HJz.out.rd.cells
      obtain ⟨n0, n1, n2, n3, n4, n5⟩ := facts6 HJz.out.nn
      obtain ⟨r0, r1, r2, r3, r4, r5⟩ := facts6 HJz.out.rr
      obtain ⟨o0, o1, o2, o3, o4, o5⟩ := facts6 HJz.out.ob
      have rf := froz4 HJz.out.rr
      by_cases he : s2.err = 0
      · have e0 : (s2.err == 0) = true := by simp [he]
        go_wp2_with fail
        obtain ⟨f1, f2⟩ := WhR.fin hg2 HJz.out (set6_out _ w.heap.size (.string y.2.head.rel) (.slice A1 k1 c1) (.int .i64 y.2.agg) (.int .i64 y.2.col) (.slice A2 k2 c2) (.int .i64 y.2.pos))
        exact bodyPost_ret (v := .tuple #[.agg #[.string y.2.head.rel, .slice A1 k1 c1, .int .i64 y.2.agg, .int .i64 y.2.col, .slice A2 k2 c2, .int .i64 y.2.pos], .int .i64 0, .nilIface]) (by simp [results, Tryz.results177, go_sem, r0, r1, r2, r3, r4, r5]) rfl (HE2.out _ d ⟨A1, k1, c1⟩ ⟨A2, k2, c2⟩ he f1 f2)
      · have e0 : (s2.err == 0) = false := by simp [he]
        go_wp2_with fail
        go_region_with (fail)
        all_goals
          go_wp2_with fail
          refine bodyPost_ret (v := .tuple #[.agg #[.string ⟨#[]⟩, .slice none 0 0, .int .i64 0, .int .i64 0, .slice none 0 0, .int .i64 0], .int .i64 s2.pl, .iface 66 (.int .i64 s2.err)]) (by simp [results, Tryz.results177, go_sem, Act.put, r0, r1, r2, r3, r4, r5]) rfl (HE3.out _ he (belowS (belowS (belowS (belowS (belowS (belowS HJz.out.below _ _ (Nat.le_refl _) _) _ _ (Nat.le_refl _) _) _ _ (Nat.le_refl _) _) _ _ (Nat.le_refl _) _) _ _ (Nat.le_refl _) _) _ _ (Nat.le_refl _) _).drew)
set_option maxRecDepth 100000 in
set_option maxHeartbeats 4000000 in
theorem readRule_any (s : ByteArray) (hs : s.size ≤ 140737488351232) (w : World) (hW : ParW w) : Calls Tryz.prog 91 #[.string s] w (WholeRuleRes s w) := by
  obtain ⟨P, HP⟩ : ∃ P : Ending → World → Prop, Hid (P = WholeRuleRes s w) := ⟨_, rfl⟩
  rw [← HP.out]
  have HC := Lib.hid (fun (V : World) (hV : ParW V) => wholeRule_any s hs V hV)
  have HW := Lib.hid hW
  clear hW
  go_enter Tryz.func91, Tryz.ntmps91
  go_wp2_with fail
  refine (HC.out _ (HW.out.on (belowA (Below.refl _ _) _))).mono ?_
  obtain ⟨y, Hy⟩ : ∃ y, Hid (y = (readP s.toList).1) := ⟨_, rfl⟩
  rintro e w1 ⟨hb, d, ⟨A1, k1, c1⟩, ⟨A2, k2, c2⟩, rfl, ha⟩
  rw [← Hy.out] at ha ⊢
  dsimp only [Hd.v] at *
  have hr := (hb.block w.heap.size (by rw [World.size_alloc]; omega)).trans (heapNew rfl)
  have hb1 : Below w.heap.size w w1 := (belowA (Below.refl _ _) _).trans (hb.mono (by rw [World.size_alloc]; omega))
  obtain ⟨r0, r1, r2, r3, r4, r5⟩ := facts6 hr
  have rf := froz4 hr
  have HE : Hid (P (.returned (.tuple #[.agg #[.string y.head.rel, .slice A1 k1 c1, .int .i64 y.agg, .int .i64 y.col, .slice A2 k2 c2, .int .i64 y.pos], .int .i64 (readP s.toList).2.1, parErr (readP s.toList).2.2])) ((((((w1.setCell ⟨w.heap.size, 0, none⟩ (.string y.head.rel)).setCell ⟨w.heap.size, 1, none⟩ (.slice A1 k1 c1)).setCell ⟨w.heap.size, 2, none⟩ (.int .i64 y.agg)).setCell ⟨w.heap.size, 3, none⟩ (.int .i64 y.col)).setCell ⟨w.heap.size, 4, none⟩ (.slice A2 k2 c2)).setCell ⟨w.heap.size, 5, none⟩ (.int .i64 y.pos))) := by
    show P _ _
    rw [HP.out, Hy.out]
    rw [Hy.out] at ha
    have ho := set6_out w1 w.heap.size (.string (readP s.toList).1.head.rel) (.slice A1 k1 c1) (.int .i64 (readP s.toList).1.agg) (.int .i64 (readP s.toList).1.col) (.slice A2 k2 c2) (.int .i64 (readP s.toList).1.pos)
    rw [World.size_alloc] at ha
    exact ⟨belowS (belowS (belowS (belowS (belowS (belowS hb1 _ _ (Nat.le_refl _) _) _ _ (Nat.le_refl _) _) _ _ (Nat.le_refl _) _) _ _ (Nat.le_refl _) _) _ _ (Nat.le_refl _) _) _ _ (Nat.le_refl _) _, d, ⟨A1, k1, c1⟩, ⟨A2, k2, c2⟩, rfl, ha.outs ho (fun b hb _ => by simp at hb; simp; omega) (fun b hb _ => by simp at hb; simp; omega)⟩
  clear HP HC HW ha hb hb1 hr
  generalize parErr (readP s.toList).2.2 = ev at *
  go_wp2_with fail
  exact bodyPost_ret (v := .tuple #[.agg #[.string y.head.rel, .slice A1 k1 c1, .int .i64 y.agg, .int .i64 y.col, .slice A2 k2 c2, .int .i64 y.pos], .int .i64 (readP s.toList).2.1, ev]) (by simp [results, Tryz.results91, go_sem, r0, r1, r2, r3, r4, r5]) rfl HE.out
end Go.Proofs.YtgabkmibfhmkmaaGreatDoor

namespace Go.Proofs.YtgabkmibfhmkmaaGreatDoor
open Go.ChangeShapes Go.WideShapes Go.ChangeAt Go.RowKit
set_option linter.unusedVariables false
def laidP {H : Type} : List (String × DataW H) := [("math/bits.deBruijn32tab", Rows.laid_math_bits_deBruijn32tab), ("math/bits.deBruijn64tab", Rows.laid_math_bits_deBruijn64tab), ("internal/strconv.uint64pow10", Rows.laid_internal_strconv_uint64pow10), ("strconv.ErrRange", Rows.laid_strconv_ErrRange), ("strconv.ErrSyntax", Rows.laid_strconv_ErrSyntax), ("corollary/lex.keys", Rows.laid_corollary_lex_keys), ("corollary/lex.signs", Rows.laid_corollary_lex_signs), ("corollary/parse.aggs", Rows.laid_corollary_parse_aggs), ("corollary/parse.signs", Rows.laid_corollary_parse_signs)]
/-- the first seven of a laid list -/
theorem lexW_of_seven {W : World} {rest : List (String × DataW Unit)} (h : laidMet Tryz.prog (("math/bits.deBruijn32tab", Rows.laid_math_bits_deBruijn32tab) :: ("math/bits.deBruijn64tab", Rows.laid_math_bits_deBruijn64tab) :: ("internal/strconv.uint64pow10", Rows.laid_internal_strconv_uint64pow10) :: ("strconv.ErrRange", Rows.laid_strconv_ErrRange) :: ("strconv.ErrSyntax", Rows.laid_strconv_ErrSyntax) :: ("corollary/lex.keys", Rows.laid_corollary_lex_keys) :: ("corollary/lex.signs", Rows.laid_corollary_lex_signs) :: rest) W) : LexW W := by
  have h3 := laidMet.tail (laidMet.tail (laidMet.tail h))
  have h5 := laidMet.tail (laidMet.tail h3)
  have h6 := laidMet.tail h5
  refine ⟨TabW.of (Lib.tabIs_of_head gP gPT Tryz.underlying454 Tryz.underlying385 (by kernel_rfl) (by kernel_rfl) (rest := ("strconv.ErrRange", Rows.laid_strconv_ErrRange) :: ("strconv.ErrSyntax", Rows.laid_strconv_ErrSyntax) :: ("corollary/lex.keys", Rows.laid_corollary_lex_keys) :: ("corollary/lex.signs", Rows.laid_corollary_lex_signs) :: rest) (by rw [← pow_eq]; exact laidMet.tail (laidMet.tail h))), ?_, ?_, ?_⟩
  · obtain ⟨a0, s0, hv0, -, -, -⟩ := laid_sentinel h3 gER gERT Tryz.underlying57 rowES Tryz.underlying457 Tryz.underlying459 rfl rfl Tryz.underlying9 cellsES cellsStr
    obtain ⟨a1, s1, hv1, -, -, -⟩ := laid_sentinel (laidMet.tail h3) gES gEST Tryz.underlying57 rowES Tryz.underlying457 Tryz.underlying459 rfl rfl Tryz.underlying9 cellsES cellsStr
    exact ⟨⟨_, _, by have h0 := World.var?_cell gES hv1 0; simpa using h0⟩, ⟨_, _, by have h0 := World.var?_cell gER hv0 0; simpa using h0⟩⟩
  · rw [keys_eq] at h5
    exact strs_of_head gK gKT Tryz.underlying433 Tryz.underlying9 (by kernel_rfl) (by kernel_rfl) h5
  · rw [signs_eq] at h6
    exact strs_of_head gS gST Tryz.underlying425 Tryz.underlying9 (by kernel_rfl) (by kernel_rfl) h6
theorem paggs_eq {H : Type} : (Rows.laid_corollary_parse_aggs : DataW H) = strsData paggsL := rfl
theorem psigns_eq {H : Type} : (Rows.laid_corollary_parse_signs : DataW H) = strsData psignsL := rfl
theorem gPA : Tryz.prog.globalNamed "corollary/parse.aggs" = some 3 := by kernel_rfl
theorem gPAT : (Tryz.prog.globals[3]?).map (·.type) = some 280 := by kernel_rfl
theorem gPS : Tryz.prog.globalNamed "corollary/parse.signs" = some 4 := by kernel_rfl
theorem gPST : (Tryz.prog.globals[4]?).map (·.type) = some 415 := by kernel_rfl
theorem lexW_of_laidP {W : World} (h : laidMet Tryz.prog laidP W) : LexW W := lexW_of_seven h
theorem parW_of_laidP {W : World} (h : laidMet Tryz.prog laidP W) : ParW W := by
  have hL := lexW_of_laidP h
  have h7 := laidMet.tail (laidMet.tail (laidMet.tail (laidMet.tail (laidMet.tail (laidMet.tail (laidMet.tail h))))))
  have h8 := laidMet.tail h7
  rw [paggs_eq] at h7
  rw [psigns_eq] at h8
  exact ⟨hL, strs_of_head gPA gPAT Tryz.underlying280 Tryz.underlying9 (by kernel_rfl) (by kernel_rfl) h7, strs_of_head gPS gPST Tryz.underlying415 Tryz.underlying9 (by kernel_rfl) (by kernel_rfl) h8⟩
noncomputable def laidWorldP (os : Os) : World :=
  let w0 := World.holding Tryz.prog os ⟨#[.cells #[.string synS] 459, .cells #[.string rngS] 459], #[], []⟩
  let put (h : Array Obj) (g : Nat) (cs : Array Value) : Array Obj := h.modify g fun
    | .cells _ t frozen => .cells cs t frozen
    | o => o
  let tab (d : DataW Unit) : Array Value := match d with
    | .agg l => (l.map fun | .lit (.int k n) => Value.int k n | .lit (.string s) => Value.string ⟨s.toArray⟩ | _ => undef).toArray
    | _ => #[]
  let h1 := put w0.heap 11 (tab Rows.laid_math_bits_deBruijn32tab)
  let h2 := put h1 12 (tab Rows.laid_math_bits_deBruijn64tab)
  let h3 := put h2 10 (tab Rows.laid_internal_strconv_uint64pow10)
  let h4 := put h3 8 #[.iface 457 (.pointer (some ⟨low, 0, none⟩))]
  let h5 := put h4 9 #[.iface 457 (.pointer (some ⟨low + 1, 0, none⟩))]
  let h6 := put h5 7 (tab Rows.laid_corollary_lex_keys)
  let h7 := put h6 5 (tab Rows.laid_corollary_lex_signs)
  let h8 := put h7 3 (tab Rows.laid_corollary_parse_aggs)
  let h9 := put h8 4 (tab Rows.laid_corollary_parse_signs)
  { w0 with heap := h9 }
set_option maxRecDepth 100000 in
theorem laidWorldP_met (os : Os) (args : Array Value) : laidMet Tryz.prog laidP ((laidWorldP os).forCall (fun _ _ => 0) ⟨#[], args, []⟩).memory :=
  laidMet_of_run' 8 (by kernel_rfl) (by kernel_rfl)
end Go.Proofs.YtgabkmibfhmkmaaGreatDoor
