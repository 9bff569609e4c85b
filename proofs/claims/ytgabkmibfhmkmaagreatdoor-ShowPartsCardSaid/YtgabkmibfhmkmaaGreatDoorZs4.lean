/- My own texts Pgm, TFrame, Drawn, ExpSize, Sans, Range, as far as this claim needs them. -/
import Derived.Test.YtgabkmibfhmkmaaGreatDoorZs1
import Derived.Test.YtgabkmibfhmkmaaGreatDoorZs2
import Derived.Test.YtgabkmibfhmkmaaGreatDoorZs3
import Derived.Deep.MidRow
import Derived.Great.Walk
import Derived.Great.BuildSlice
import Derived.RangeFuncBox
import Derived.RangeFuncNested
import Derived.RangeFuncLeaves
set_option linter.unusedVariables false
set_option linter.unusedSimpArgs false
namespace Go.Proofs.YtgabkmibfhmkmaaGreatDoor
open Go.RowKit
/-- a slice's header -/
structure Hd where
  A : Option Addr
  n : Nat
  c : Nat
abbrev Hd.v (h : Hd) : Value := .slice h.A h.n h.c
structure GAtom where
  rel : ByteArray
  args : List GTold
structure GLit where
  k : Int
  atom : GAtom
  op : Int
  l : GExp
  r : GExp
  pos : Int
structure GRule where
  head : GAtom
  agg : Int
  col : Int
  body : List GLit
  pos : Int
structure GDecl where
  rel : ByteArray
  kinds : List Int
  pos : Int
structure GProg where
  decls : List GDecl
  rules : List GRule
abbrev litC (x : GLit) (a p q : Hd) : List Value := [.int .i64 x.k, .string x.atom.rel, a.v, .int .i64 x.op, .int .i64 x.l.op, .string x.l.t.x, .int .i64 x.l.t.v.k, .int .i64 x.l.t.v.n, .string x.l.t.v.s, p.v, .int .i64 x.r.op, .string x.r.t.x, .int .i64 x.r.t.v.k, .int .i64 x.r.t.v.n, .string x.r.t.v.s, q.v, .int .i64 x.pos]
abbrev ruleC (x : GRule) (a b : Hd) : List Value := [.string x.head.rel, a.v, .int .i64 x.agg, .int .i64 x.col, b.v, .int .i64 x.pos]
abbrev declC (x : GDecl) (a : Hd) : List Value := [.string x.rel, a.v, .int .i64 x.pos]
structure LitAt (d : Nat) (w : World) (B : Nat) (x : GLit) (a p q : Hd) : Prop where
  k : fits x.k
  op : fits x.op
  pos : fits x.pos
  rel : x.atom.rel.size ≤ reachN
  args : SliceIs Enc.told w B a.A a.n a.c x.atom.args
  lop : fits x.l.op
  lx : x.l.t.x.size ≤ reachN
  lv : x.l.t.v.ok
  lk : SliceIs (Enc.exp d) w B p.A p.n p.c x.l.kids
  rop : fits x.r.op
  rx : x.r.t.x.size ≤ reachN
  rv : x.r.t.v.ok
  rk : SliceIs (Enc.exp d) w B q.A q.n q.c x.r.kids
theorem LitAt.mono' {d : Nat} {w w' : World} {B B' : Nat} {x : GLit} {a p q : Hd} (h : LitAt d w B x a p q) (hB : B ≤ B') (hk : Kept w w' B) : LitAt d w' B' x a p q :=
  ⟨h.k, h.op, h.pos, h.rel, h.args.mono' hB hk, h.lop, h.lx, h.lv, h.lk.mono' hB hk, h.rop, h.rx, h.rv, h.rk.mono' hB hk⟩
theorem LitAt.keep {d : Nat} {w w' : World} {x : GLit} {a p q : Hd} (h : LitAt d w w.heap.size x a p q) (hb : Below w.heap.size w w') : LitAt d w' w'.heap.size x a p q := h.mono' hb.size (Kept.of hb.block)
def Enc.lit (d : Nat) : Enc GLit where
  sz := 17
  ok := fun w B cs x => ∃ a p q : Hd, cs = litC x a p q ∧ LitAt d w B x a p q
  mono := fun hB hk ⟨a, p, q, h1, h2⟩ => ⟨a, p, q, h1, h2.mono' hB hk⟩
  len := fun ⟨_, _, _, h, _⟩ => by rw [h]; rfl
structure RuleAt (d : Nat) (w : World) (B : Nat) (x : GRule) (a b : Hd) : Prop where
  rel : x.head.rel.size ≤ reachN
  args : SliceIs Enc.told w B a.A a.n a.c x.head.args
  agg : fits x.agg
  col : fits x.col
  body : SliceIs (Enc.lit d) w B b.A b.n b.c x.body
  pos : fits x.pos
theorem RuleAt.mono' {d : Nat} {w w' : World} {B B' : Nat} {x : GRule} {a b : Hd} (h : RuleAt d w B x a b) (hB : B ≤ B') (hk : Kept w w' B) : RuleAt d w' B' x a b :=
  ⟨h.rel, h.args.mono' hB hk, h.agg, h.col, h.body.mono' hB hk, h.pos⟩
theorem RuleAt.keep {d : Nat} {w w' : World} {x : GRule} {a b : Hd} (h : RuleAt d w w.heap.size x a b) (hb : Below w.heap.size w w') : RuleAt d w' w'.heap.size x a b := h.mono' hb.size (Kept.of hb.block)
def Enc.rule (d : Nat) : Enc GRule where
  sz := 6
  ok := fun w B cs x => ∃ a b : Hd, cs = ruleC x a b ∧ RuleAt d w B x a b
  mono := fun hB hk ⟨a, b, h1, h2⟩ => ⟨a, b, h1, h2.mono' hB hk⟩
  len := fun ⟨_, _, h, _⟩ => by rw [h]; rfl
structure DeclAt (w : World) (B : Nat) (x : GDecl) (a : Hd) : Prop where
  rel : x.rel.size ≤ reachN
  kinds : SliceIs Enc.int w B a.A a.n a.c x.kinds
  pos : fits x.pos
theorem DeclAt.mono' {w w' : World} {B B' : Nat} {x : GDecl} {a : Hd} (h : DeclAt w B x a) (hB : B ≤ B') (hk : Kept w w' B) : DeclAt w' B' x a := ⟨h.rel, h.kinds.mono' hB hk, h.pos⟩
theorem DeclAt.keep {w w' : World} {x : GDecl} {a : Hd} (h : DeclAt w w.heap.size x a) (hb : Below w.heap.size w w') : DeclAt w' w'.heap.size x a := h.mono' hb.size (Kept.of hb.block)
def Enc.decl : Enc GDecl where
  sz := 3
  ok := fun w B cs x => ∃ a : Hd, cs = declC x a ∧ DeclAt w B x a
  mono := fun hB hk ⟨a, h1, h2⟩ => ⟨a, h1, h2.mono' hB hk⟩
  len := fun ⟨_, h, _⟩ => by rw [h]; rfl
section
variable {w : World} {B : Nat} {A : Option Addr} {n c d : Nat}
theorem SliceIs.lit_at {l : List GLit} (h : SliceIs (Enc.lit d) w B A n c l) {i : Nat} (hi : i < n) :
    ∃ (b o : Nat) (x : GLit) (a p q : Hd), A = some ⟨b, o, none⟩ ∧ b < B ∧ Hid (l[i]? = some x) ∧ LitAt d w B x a p q ∧
      w.cell? ⟨b, o + i * 17, none⟩ = some (.int .i64 x.k) ∧ w.cell? ⟨b, o + i * 17 + 1, none⟩ = some (.string x.atom.rel) ∧ w.cell? ⟨b, o + i * 17 + 2, none⟩ = some (a.v) ∧ w.cell? ⟨b, o + i * 17 + 3, none⟩ = some (.int .i64 x.op) ∧ w.cell? ⟨b, o + i * 17 + 4, none⟩ = some (.int .i64 x.l.op) ∧ w.cell? ⟨b, o + i * 17 + 5, none⟩ = some (.string x.l.t.x) ∧ w.cell? ⟨b, o + i * 17 + 6, none⟩ = some (.int .i64 x.l.t.v.k) ∧ w.cell? ⟨b, o + i * 17 + 7, none⟩ = some (.int .i64 x.l.t.v.n) ∧ w.cell? ⟨b, o + i * 17 + 8, none⟩ = some (.string x.l.t.v.s) ∧ w.cell? ⟨b, o + i * 17 + 9, none⟩ = some (p.v) ∧ w.cell? ⟨b, o + i * 17 + 10, none⟩ = some (.int .i64 x.r.op) ∧ w.cell? ⟨b, o + i * 17 + 11, none⟩ = some (.string x.r.t.x) ∧ w.cell? ⟨b, o + i * 17 + 12, none⟩ = some (.int .i64 x.r.t.v.k) ∧ w.cell? ⟨b, o + i * 17 + 13, none⟩ = some (.int .i64 x.r.t.v.n) ∧ w.cell? ⟨b, o + i * 17 + 14, none⟩ = some (.string x.r.t.v.s) ∧ w.cell? ⟨b, o + i * 17 + 15, none⟩ = some (q.v) ∧ w.cell? ⟨b, o + i * 17 + 16, none⟩ = some (.int .i64 x.pos) := by
  obtain ⟨b, o, x, cs, hA, hb, hx, ⟨a, p, q, rfl, h1⟩, hc⟩ := h.at_ hi
  exact ⟨b, o, x, a, p, q, hA, hb, hx, h1, by simpa [Enc.lit] using hc 0 _ rfl, by simpa [Enc.lit] using hc 1 _ rfl, by simpa [Enc.lit] using hc 2 _ rfl, by simpa [Enc.lit] using hc 3 _ rfl, by simpa [Enc.lit] using hc 4 _ rfl, by simpa [Enc.lit] using hc 5 _ rfl, by simpa [Enc.lit] using hc 6 _ rfl, by simpa [Enc.lit] using hc 7 _ rfl, by simpa [Enc.lit] using hc 8 _ rfl, by simpa [Enc.lit] using hc 9 _ rfl, by simpa [Enc.lit] using hc 10 _ rfl, by simpa [Enc.lit] using hc 11 _ rfl, by simpa [Enc.lit] using hc 12 _ rfl, by simpa [Enc.lit] using hc 13 _ rfl, by simpa [Enc.lit] using hc 14 _ rfl, by simpa [Enc.lit] using hc 15 _ rfl, by simpa [Enc.lit] using hc 16 _ rfl⟩
end
theorem facts2 {W : World} {g : Nat} {t : TypeId} {v0 v1 : Value} (h : W.heap[g]? = some (.cells #[v0, v1] t (0, 0))) : W.cell? ⟨g, 0, none⟩ = some v0 ∧ W.cell? ⟨g, 1, none⟩ = some v1 :=
  ⟨(cell_of_row _ _ 0 _ _ _ h).trans rfl, (cell_of_row _ _ 1 _ _ _ h).trans rfl⟩
theorem facts4 {W : World} {g : Nat} {t : TypeId} {v0 v1 v2 v3 : Value} (h : W.heap[g]? = some (.cells #[v0, v1, v2, v3] t (0, 0))) : W.cell? ⟨g, 0, none⟩ = some v0 ∧ W.cell? ⟨g, 1, none⟩ = some v1 ∧ W.cell? ⟨g, 2, none⟩ = some v2 ∧ W.cell? ⟨g, 3, none⟩ = some v3 :=
  ⟨(cell_of_row _ _ 0 _ _ _ h).trans rfl, (cell_of_row _ _ 1 _ _ _ h).trans rfl, (cell_of_row _ _ 2 _ _ _ h).trans rfl, (cell_of_row _ _ 3 _ _ _ h).trans rfl⟩
theorem facts6 {W : World} {g : Nat} {t : TypeId} {v0 v1 v2 v3 v4 v5 : Value} (h : W.heap[g]? = some (.cells #[v0, v1, v2, v3, v4, v5] t (0, 0))) : W.cell? ⟨g, 0, none⟩ = some v0 ∧ W.cell? ⟨g, 1, none⟩ = some v1 ∧ W.cell? ⟨g, 2, none⟩ = some v2 ∧ W.cell? ⟨g, 3, none⟩ = some v3 ∧ W.cell? ⟨g, 4, none⟩ = some v4 ∧ W.cell? ⟨g, 5, none⟩ = some v5 :=
  ⟨(cell_of_row _ _ 0 _ _ _ h).trans rfl, (cell_of_row _ _ 1 _ _ _ h).trans rfl, (cell_of_row _ _ 2 _ _ _ h).trans rfl, (cell_of_row _ _ 3 _ _ _ h).trans rfl, (cell_of_row _ _ 4 _ _ _ h).trans rfl, (cell_of_row _ _ 5 _ _ _ h).trans rfl⟩
theorem facts17 {W : World} {g : Nat} {t : TypeId} {v0 v1 v2 v3 v4 v5 v6 v7 v8 v9 v10 v11 v12 v13 v14 v15 v16 : Value} (h : W.heap[g]? = some (.cells #[v0, v1, v2, v3, v4, v5, v6, v7, v8, v9, v10, v11, v12, v13, v14, v15, v16] t (0, 0))) : W.cell? ⟨g, 0, none⟩ = some v0 ∧ W.cell? ⟨g, 1, none⟩ = some v1 ∧ W.cell? ⟨g, 2, none⟩ = some v2 ∧ W.cell? ⟨g, 3, none⟩ = some v3 ∧ W.cell? ⟨g, 4, none⟩ = some v4 ∧ W.cell? ⟨g, 5, none⟩ = some v5 ∧ W.cell? ⟨g, 6, none⟩ = some v6 ∧ W.cell? ⟨g, 7, none⟩ = some v7 ∧ W.cell? ⟨g, 8, none⟩ = some v8 ∧ W.cell? ⟨g, 9, none⟩ = some v9 ∧ W.cell? ⟨g, 10, none⟩ = some v10 ∧ W.cell? ⟨g, 11, none⟩ = some v11 ∧ W.cell? ⟨g, 12, none⟩ = some v12 ∧ W.cell? ⟨g, 13, none⟩ = some v13 ∧ W.cell? ⟨g, 14, none⟩ = some v14 ∧ W.cell? ⟨g, 15, none⟩ = some v15 ∧ W.cell? ⟨g, 16, none⟩ = some v16 :=
  ⟨(cell_of_row _ _ 0 _ _ _ h).trans rfl, (cell_of_row _ _ 1 _ _ _ h).trans rfl, (cell_of_row _ _ 2 _ _ _ h).trans rfl, (cell_of_row _ _ 3 _ _ _ h).trans rfl, (cell_of_row _ _ 4 _ _ _ h).trans rfl, (cell_of_row _ _ 5 _ _ _ h).trans rfl, (cell_of_row _ _ 6 _ _ _ h).trans rfl, (cell_of_row _ _ 7 _ _ _ h).trans rfl, (cell_of_row _ _ 8 _ _ _ h).trans rfl, (cell_of_row _ _ 9 _ _ _ h).trans rfl, (cell_of_row _ _ 10 _ _ _ h).trans rfl, (cell_of_row _ _ 11 _ _ _ h).trans rfl, (cell_of_row _ _ 12 _ _ _ h).trans rfl, (cell_of_row _ _ 13 _ _ _ h).trans rfl, (cell_of_row _ _ 14 _ _ _ h).trans rfl, (cell_of_row _ _ 15 _ _ _ h).trans rfl, (cell_of_row _ _ 16 _ _ _ h).trans rfl⟩
theorem OpensB.down {α : Type} {N M : Nat} {P : Program} {t : TypeId} {E : Enc α} (h : OpensB N P t E) (hM : M ≤ N) : OpensB M P t E := fun H enc w fuel cs x hf hx hw => h H enc w fuel cs x (by omega) hx hw
theorem opensB_slice' {α : Type} {N : Nat} {P : Program} {t e : TypeId} {E : Enc α} (h : P.underlying t = some (.slice e)) (he : OpensB N P e E) (hc : P.cellsOf e = E.sz) (hz : 0 < E.sz) (hb : 0 < P.bytesOf e) : OpensB N P t (Enc.slice E) :=
  (opensB_slice h he hc hz hb).down (Nat.le_succ _)
theorem opens_atomF {H : Type} {enc : TypeId × Value → H} {P : Program} {w : World} {t a b : TypeId} {fuel : Nat} {cs : List Value} {x : DataW H × List MemPlace} (hf : fieldsOf P t = [(a, 0, 1), (b, 1, 1)]) (hz : P.cellsOf t = 2) (ha : P.underlying a = some .string) (hb : Opens P b (Enc.slice Enc.told))
    (hx : DataW.trod enc P w 0 (fun _ => true) true fuel t cs = some x) (hwt : ∀ n ∈ x.1.weights P t, n ≤ reachBytes) : ∃ (y : GAtom) (h : Hd), cs = [.string y.rel, h.v] ∧ y.rel.size ≤ reachN ∧ SliceIs Enc.told w w.heap.size h.A h.n h.c y.args := by
  obtain ⟨hl, n, rfl, hat⟩ := open_fieldsB hf (by simp) hx hwt
  rw [hz] at hl
  match cs, hl with
  | [u0, u1], _ =>
    obtain ⟨y, h, hw⟩ := hat 0 _ rfl
    obtain ⟨s, e0, f0⟩ := opens_str ha _ _ _ _ _ _ h hw
    obtain ⟨y, h, hw⟩ := hat 1 _ rfl
    obtain ⟨ks, A, m, d, e1, f1⟩ := hb _ _ _ _ _ _ h hw
    simp at e0 e1
    subst e0 e1
    exact ⟨⟨s, ks⟩, ⟨A, m, d⟩, rfl, f0, f1⟩
theorem opens_lit {N d : Nat} {P : Program} {t k at_ o e s al : TypeId} (hf : fieldsOf P t = [(k, 0, 1), (at_, 1, 2), (o, 3, 1), (e, 4, 6), (e, 10, 6), (o, 16, 1)]) (hz : P.cellsOf t = 17) (hk : P.underlying k = some (.int .i64)) (ho : P.underlying o = some (.int .i64))
    (hfa : fieldsOf P at_ = [(s, 0, 1), (al, 1, 1)]) (hza : P.cellsOf at_ = 2) (hs : P.underlying s = some .string) (hal : Opens P al (Enc.slice Enc.told)) (he : OpensB N P e (Enc.exp (d + 1))) : OpensB N P t (Enc.lit d) := by
  intro H enc w fuel cs x hfu hx hwt
  obtain ⟨hl, n, rfl, hat⟩ := open_fieldsB hf (by simp) hx hwt
  rw [hz] at hl
  match cs, hl with
  | [u0, u1, u2, u3, u4, u5, u6, u7, u8, u9, u10, u11, u12, u13, u14, u15, u16], _ =>
    obtain ⟨y, h, hw⟩ := hat 0 _ rfl
    obtain ⟨i0, e0, f0⟩ := opens_int hk _ _ _ _ _ _ h hw
    obtain ⟨y, h, hw⟩ := hat 1 _ rfl
    obtain ⟨ga, ha, e1, f1, f2⟩ := opens_atomF hfa hza hs hal h hw
    obtain ⟨y, h, hw⟩ := hat 2 _ rfl
    obtain ⟨i3, e3, f3⟩ := opens_int ho _ _ _ _ _ _ h hw
    obtain ⟨y, h, hw⟩ := hat 3 _ rfl
    obtain ⟨x4, A4, m4, d4, e4, f4, g4, h4, k4⟩ := he _ _ _ _ _ _ (by omega) h hw
    obtain ⟨y, h, hw⟩ := hat 4 _ rfl
    obtain ⟨x5, A5, m5, d5, e5, f5, g5, h5, k5⟩ := he _ _ _ _ _ _ (by omega) h hw
    obtain ⟨y, h, hw⟩ := hat 5 _ rfl
    obtain ⟨i6, e6, f6⟩ := opens_int ho _ _ _ _ _ _ h hw
    simp at e0 e1 e3 e4 e5 e6
    obtain ⟨rfl, rfl⟩ := e1
    obtain ⟨rfl, rfl, rfl, rfl, rfl, rfl⟩ := e4
    obtain ⟨rfl, rfl, rfl, rfl, rfl, rfl⟩ := e5
    subst e0 e3 e6
    exact ⟨⟨i0, ga, i3, x4, x5, i6⟩, ha, ⟨A4, m4, d4⟩, ⟨A5, m5, d5⟩, rfl, ⟨f0, f3, f6, f1, f2, f4, g4, h4, k4, f5, g5, h5, k5⟩⟩
theorem opens_rule {N d : Nat} {P : Program} {t at_ o lt s al : TypeId} (hf : fieldsOf P t = [(at_, 0, 2), (o, 2, 1), (o, 3, 1), (lt, 4, 1), (o, 5, 1)]) (hz : P.cellsOf t = 6) (ho : P.underlying o = some (.int .i64))
    (hfa : fieldsOf P at_ = [(s, 0, 1), (al, 1, 1)]) (hza : P.cellsOf at_ = 2) (hs : P.underlying s = some .string) (hal : Opens P al (Enc.slice Enc.told)) (hl : OpensB N P lt (Enc.slice (Enc.lit d))) : OpensB N P t (Enc.rule d) := by
  intro H enc w fuel cs x hfu hx hwt
  obtain ⟨hlen, n, rfl, hat⟩ := open_fieldsB hf (by simp) hx hwt
  rw [hz] at hlen
  match cs, hlen with
  | [u0, u1, u2, u3, u4, u5], _ =>
    obtain ⟨y, h, hw⟩ := hat 0 _ rfl
    obtain ⟨ga, ha, e1, f1, f2⟩ := opens_atomF hfa hza hs hal h hw
    obtain ⟨y, h, hw⟩ := hat 1 _ rfl
    obtain ⟨i2, e2, f3⟩ := opens_int ho _ _ _ _ _ _ h hw
    obtain ⟨y, h, hw⟩ := hat 2 _ rfl
    obtain ⟨i3, e3, f4⟩ := opens_int ho _ _ _ _ _ _ h hw
    obtain ⟨y, h, hw⟩ := hat 3 _ rfl
    obtain ⟨ls, A, m, c, e4, f5⟩ := hl _ _ _ _ _ _ (by omega) h hw
    obtain ⟨y, h, hw⟩ := hat 4 _ rfl
    obtain ⟨i5, e5, f6⟩ := opens_int ho _ _ _ _ _ _ h hw
    simp at e1 e2 e3 e4 e5
    obtain ⟨rfl, rfl⟩ := e1
    subst e2 e3 e4 e5
    exact ⟨⟨ga, i2, i3, ls, i5⟩, ha, ⟨A, m, c⟩, rfl, ⟨f1, f2, f3, f4, f5, f6⟩⟩
/-- a program's two slices -/
structure ProgAt (d : Nat) (w : World) (B : Nat) (x : GProg) (a b : Hd) : Prop where
  decls : SliceIs Enc.decl w B a.A a.n a.c x.decls
  rules : SliceIs (Enc.rule d) w B b.A b.n b.c x.rules
theorem ProgAt.keep {d : Nat} {w w' : World} {x : GProg} {a b : Hd} (h : ProgAt d w w.heap.size x a b) (hb : Below w.heap.size w w') : ProgAt d w' w'.heap.size x a b := ⟨h.decls.mono' hb.size (Kept.of hb.block), h.rules.mono' hb.size (Kept.of hb.block)⟩
def Enc.prog (d : Nat) : Enc GProg where
  sz := 2
  ok := fun w B cs x => ∃ a b : Hd, cs = [a.v, b.v] ∧ ProgAt d w B x a b
  mono := fun hB hk ⟨a, b, h1, h2⟩ => ⟨a, b, h1, ⟨h2.decls.mono' hB hk, h2.rules.mono' hB hk⟩⟩
  len := fun ⟨_, _, h, _⟩ => by rw [h]; rfl
end Go.Proofs.YtgabkmibfhmkmaaGreatDoor

namespace Go.Proofs.YtgabkmibfhmkmaaGreatDoor
open Go.RowKit Go.WideShapes
theorem open_encB {α : Type} {E : Nat → Enc α} {H : Type} {enc : TypeId × Value → H} {P : Program} {w : World} {t : TypeId} {v : Value} {d : DataW H} {p : List MemPlace} {r : Reach} {b0 : Nat} (hs : ∃ fs, P.underlying t = some (.struct fs)) (ho : ∀ N, OpensB N P t (E N))
    (hval : Value.okWide P w r b0 t v) (h : DataW.Trod enc P w 0 (fun _ => true) true t v d p) (hwt : ∀ n ∈ d.weights P t, n ≤ reachBytes) : ∃ (N : Nat) (x : α) (cs : List Value), v = .agg cs.toArray ∧ (E N).ok w w.heap.size cs x := by
  obtain ⟨fs, hs⟩ := hs
  obtain ⟨cs, rfl, hsz⟩ := okWide_struct hs hval
  obtain ⟨fuel, hx⟩ := h
  obtain ⟨y, hy⟩ := ho fuel _ _ _ fuel _ _ (Nat.le_refl _) hx hwt
  obtain ⟨cs⟩ := cs
  exact ⟨fuel, y, cs, rfl, by simpa [Value.cells] using hy⟩
theorem o_val2 : Opens Tryz.prog 28 Enc.val := opens_val (a := 26) (b := 3) (c := 9) (by kernel_rfl) (by kernel_rfl) Tryz.underlying26 Tryz.underlying3 Tryz.underlying9
theorem o_term : Opens Tryz.prog 30 Enc.told := opens_told (a := 9) (b := 28) (by kernel_rfl) (by kernel_rfl) Tryz.underlying9 o_val2
theorem o_exp (N : Nat) : OpensB N Tryz.prog 33 (Enc.exp (N + 1)) := opens_exp (a := 3) (b := 30) (c := 31) (by kernel_rfl) (by kernel_rfl) (of_decide_eq_true (by kernel_rfl)) Tryz.underlying3 o_term Tryz.underlying31 N
theorem u_exp : ∃ fs, Tryz.prog.underlying 33 = some (.struct fs) := ⟨_, Tryz.underlying33⟩
theorem o_terms : Opens Tryz.prog 23 (Enc.slice Enc.told) := opens_slice Tryz.underlying23 o_term (by kernel_rfl) (by show 0 < _; decide) (of_decide_eq_true (by kernel_rfl))
theorem o_lit (N : Nat) : OpensB N Tryz.prog 35 (Enc.lit N) := opens_lit (k := 22) (at_ := 25) (o := 3) (e := 33) (s := 9) (al := 23) (by kernel_rfl) (by kernel_rfl) Tryz.underlying22 Tryz.underlying3 (by kernel_rfl) (by kernel_rfl) Tryz.underlying9 o_terms (o_exp N)
theorem o_lits (N : Nat) : OpensB N Tryz.prog 39 (Enc.slice (Enc.lit N)) := opensB_slice' Tryz.underlying39 (o_lit N) (by show _ = 17; kernel_rfl) (show 0 < 17 by decide) (of_decide_eq_true (by kernel_rfl))
theorem o_rule (N : Nat) : OpensB N Tryz.prog 41 (Enc.rule N) := opens_rule (at_ := 25) (o := 3) (lt := 39) (s := 9) (al := 23) (by kernel_rfl) (by kernel_rfl) Tryz.underlying3 (by kernel_rfl) (by kernel_rfl) Tryz.underlying9 o_terms (o_lits N)
end Go.Proofs.YtgabkmibfhmkmaaGreatDoor

namespace Go.Proofs.YtgabkmibfhmkmaaGreatDoor
open Go.RowKit
/-- the operations that number i waits for, and those that they wait for -/
def ancs (ops : Array Oper) : Nat → Nat → List Nat
  | 0, _ => []
  | f + 1, i => match ops[i]? with
    | none => []
    | some o => (o.after.toList.filter (fun e => Region.binds .any e)).flatMap (fun e => e.on :: ancs ops f e.on)
/-- what is known in the midst of the region -/
structure Mid (ops : Array Oper) (base : Array Value) (L : Nat) (G : Nat → World → Prop) (F : Nat → Value → World → Prop) (listed : Array Bool) (a : Act) (w : World) : Prop where
  defers : a.defers = []
  size : a.tmps.size = base.size
  lsize : listed.size = ops.size
  closed : ∀ (i : Nat) (o : Oper), ops[i]? = some o → listed.getD i false = true → ∀ e ∈ o.after, Region.binds .any e = true → listed.getD e.on false = true
  old : ∀ t : Nat, (∀ (i : Nat) (o : Oper), i < L → ops[i]? = some o → o.dst ≠ some t) → a.tmps[t]? = base[t]?
  glob : ∀ j, j ≤ L → listed.getD j false = false → G j w
  fact : ∀ (i : Nat) (o : Oper) (d : Tmp), ops[i]? = some o → o.dst = some d → listed.getD i false = true → ∃ v, a.tmps[d]? = some v ∧ F i v w
theorem ancs_listed {ops : Array Oper} {listed : Array Bool} (hc : ∀ (i : Nat) (o : Oper), ops[i]? = some o → listed.getD i false = true → ∀ e ∈ o.after, Region.binds .any e = true → listed.getD e.on false = true) :
    ∀ (f i : Nat) (o : Oper), ops[i]? = some o → (∀ e ∈ o.after, Region.binds .any e = true → listed.getD e.on false = true) → ∀ j ∈ ancs ops f i, listed.getD j false = true
  | 0, _, _, _, _, j, hj => by cases hj
  | f + 1, i, o, ho, h, j, hj => by
    simp only [ancs, ho] at hj
    obtain ⟨e, he, hje⟩ := List.mem_flatMap.1 hj
    obtain ⟨he1, he2⟩ := List.mem_filter.1 he
    have hl := h e (by simpa using he1) he2
    rcases List.mem_cons.1 hje with rfl | hje
    · exact hl
    · cases ho2 : ops[e.on]? with
      | none =>
        cases f with
        | zero => cases hje
        | succ f => simp [ancs, ho2] at hje
      | some o2 => exact ancs_listed hc f e.on o2 ho2 (hc e.on o2 ho2 hl) j hje
theorem getD_set_same {l : Array Bool} {i : Nat} {b : Bool} (h : i < l.size) : (l.setIfInBounds i true).getD i b = true := by simp [h]
theorem getD_set_other {l : Array Bool} {i j : Nat} {b : Bool} (h : i ≠ j) : (l.setIfInBounds i true).getD j b = l.getD j b := by
  simp [Array.getElem?_setIfInBounds_ne h]
theorem getD_any {l : Array Bool} {i : Nat} (h : i < l.size) (b c : Bool) : l.getD i b = l.getD i c := by simp [h]
theorem count_set : ∀ (l : List Bool) (i : Nat), l[i]? = some false → (l.set i true).count false + 1 = l.count false
  | [], i, h => by simp at h
  | b :: l, 0, h => by simp at h; subst h; simp
  | b :: l, i + 1, h => by
    have := count_set l i (by simpa using h)
    simp only [List.set_cons_succ, List.count_cons]
    omega
theorem least_off (listed : Array Bool) (P : Nat → Prop) : ∀ (n : Nat), (∃ i, i < n ∧ listed.getD i true = false) → ∃ i, listed.getD i true = false ∧ ∀ j, j < i → listed.getD j true = true
  | 0, ⟨i, hi, _⟩ => by omega
  | n + 1, ⟨i, hi, h⟩ => by
    by_cases hex : ∃ i, i < n ∧ listed.getD i true = false
    · exact least_off listed P n hex
    · have hin : i = n := by
        rcases Nat.lt_or_ge i n with hlt | hge
        · exact absurd ⟨i, hlt, h⟩ hex
        · omega
      subst hin
      refine ⟨i, h, fun j hj => ?_⟩
      cases hb : listed.getD j true with
      | true => rfl
      | false => exact absurd ⟨j, hj, hb⟩ hex
section
variable {P : Program} {ops : Array Oper} {Q : Exit → Act → World → Prop}
theorem wpAny_end {listed : Array Bool} {a : Act} {w : World} (hr : Region.ready .any ops listed = []) (h : Q .normal a w) : ∀ fuel, wpAny P .any ops Q fuel listed a w
  | 0 => ⟨hr, h⟩
  | _ + 1 => ⟨fun _ => h, by rw [hr]; simp⟩
/-- the law -/
theorem drawn_law {id : Nat} {a : Act} {w : World} (hm : P.follows .mixedOrders = true) (L : Nat) (G : Nat → World → Prop) (F : Nat → Value → World → Prop) (R : Nat → World → World → Prop)
    (hd : a.defers = []) (hL : L + 1 = ops.size) (hg : ∀ (i : Nat) (o : Oper), ops[i]? = some o → o.guard = none) (hord : ∀ (i : Nat) (o : Oper), ops[i]? = some o → ∀ e ∈ o.after, e.on < i)
    (hdst : ∀ (i j : Nat) (o o' : Oper) (d : Tmp), ops[i]? = some o → ops[j]? = some o' → o.dst = some d → o'.dst = some d → i = j) (hsz : ∀ (i : Nat) (o : Oper) (d : Tmp), ops[i]? = some o → o.dst = some d → d < a.tmps.size)
    (hanc : ∀ j, j < L → j ∈ ancs ops ops.size L)
    (hG : ∀ j, j ≤ L → G j w.drew) (hFm : ∀ i j v w w', i ≠ j → i < L → j < L → F i v w → R j w w' → F i v w') (hGm : ∀ i j w w', i ≠ j → i < L → j ≤ L → j ∉ ancs ops ops.size i → G j w → R i w w' → G j w')
    (hstep : ∀ (i : Nat) (o : Oper) (a' : Act) (w' : World), ops[i]? = some o → i < L → a'.defers = [] → a'.tmps.size = a.tmps.size → (∀ t : Nat, (∀ (i : Nat) (o : Oper), i < L → ops[i]? = some o → o.dst ≠ some t) → a'.tmps[t]? = a.tmps[t]?) → G i w' → G L w' →
      (∀ e ∈ o.after, Region.binds .any e = true → ∀ oj d, ops[e.on]? = some oj → oj.dst = some d → ∃ v, a'.tmps[d]? = some v ∧ F e.on v w') → o.wp P a' w' (fun a2 w2 => ∃ v, a2 = a'.put o.dst v ∧ R i w' w2 ∧ F i v w2) Q)
    (hlast : ∀ (o : Oper) (a' : Act) (w' : World), ops[L]? = some o → a'.defers = [] → a'.tmps.size = a.tmps.size → (∀ t : Nat, (∀ (i : Nat) (o : Oper), i < L → ops[i]? = some o → o.dst ≠ some t) → a'.tmps[t]? = a.tmps[t]?) → G L w' →
      (∀ (i : Nat) (oj : Oper) (d : Tmp), i < L → ops[i]? = some oj → oj.dst = some d → ∃ v, a'.tmps[d]? = some v ∧ F i v w') → o.wp P a' w' (fun a2 w2 => Q .normal a2 w2) Q) :
    (Code.region id ops true).wp P Q a w := by
  have main : ∀ (fuel : Nat) (listed : Array Bool) (a' : Act) (w' : World), Mid ops a.tmps L G F listed a' w' → listed.getD L true = false → listed.toList.count false ≤ fuel → wpAny P .any ops Q fuel listed a' w' := by
    intro fuel
    induction fuel with
    | zero =>
      intro listed a' w' hM hoff hc
      have : false ∈ listed.toList := by
        have hl : L < listed.size := by rw [hM.lsize]; omega
        have h1 : listed[L]? = some false := by simp [hl] at hoff ⊢; exact hoff
        exact List.mem_iff_getElem?.2 ⟨L, by simpa using h1⟩
      have := List.count_pos_iff.2 this
      omega
    | succ fuel ih =>
      intro listed a' w' hM hoff hc
      refine ⟨fun hr => ?_, fun i hi => ?_⟩
      · exfalso
        obtain ⟨i, h1, h2⟩ := least_off listed (fun _ => True) ops.size ⟨L, by omega, hoff⟩
        have hil : i < listed.size := by
          rcases Nat.lt_or_ge i listed.size with h | h
          · exact h
          · simp [Array.getElem?_eq_none h] at h1
        have hio : i < ops.size := by rw [← hM.lsize]; exact hil
        have : i ∈ Region.ready .any ops listed := mem_ready.2 ⟨h1, ops[i], by simp [hio], fun e he _ => by
          have h3 := hord i ops[i] (by simp [hio]) e he
          have h4 := h2 e.on h3
          rwa [getD_any (by omega) true false] at h4⟩
        rw [hr] at this; cases this
      · obtain ⟨h1, o, ho, h2⟩ := mem_ready.1 hi
        have hio : i < ops.size := (Array.getElem?_eq_some_iff.1 ho).1
        have hil : i < listed.size := by rw [hM.lsize]; exact hio
        have hw : Region.wanted o (yielded ops a'.tmps) = true := by simp [Region.wanted, hg i o ho]
        unfold wpOp
        rw [ho]
        simp only [hw, if_true]
        left
        by_cases hiL : i = L
        · subst hiL
          have hall : ∀ j, j < i → listed.getD j false = true := fun j hj => ancs_listed hM.closed ops.size i o ho h2 j (hanc j hj)
          refine Oper.wp_mono (fun a2 w2 h => ?_) (hlast o a' w' ho hM.defers hM.size hM.old (hM.glob i (Nat.le_refl _) (by rw [getD_any (c := true) (by omega)]; exact hoff)) (fun j oj d hj hoj hdj => hM.fact j oj d hoj hdj (hall j hj)))
          refine wpAny_end ?_ h fuel
          apply List.eq_nil_iff_forall_not_mem.2
          intro j hj
          obtain ⟨h3, oj, hoj, -⟩ := mem_ready.1 hj
          have hjo : j < ops.size := (Array.getElem?_eq_some_iff.1 hoj).1
          by_cases hji : i = j
          · subst hji; rw [getD_set_same hil] at h3; cases h3
          · rw [getD_set_other hji, getD_any (c := false) (by omega), hall j (by omega)] at h3; cases h3
        · have hiL' : i < L := by omega
          have hif : listed.getD i false = false := by rw [getD_any (c := true) (by omega)]; exact h1
          refine Oper.wp_mono (fun a2 w2 h => ?_) (hstep i o a' w' ho hiL' hM.defers hM.size hM.old (hM.glob i (by omega) hif) (hM.glob L (Nat.le_refl _) (by rw [getD_any (c := true) (by rw [hM.lsize]; omega)]; exact hoff)) (fun e he hb oj d hoj hdj => hM.fact e.on oj d hoj hdj (h2 e he hb)))
          obtain ⟨v, rfl, hb, hF⟩ := h
          have hfac : ∀ (j : Nat) (oj : Oper) (d : Tmp), i ≠ j → ops[j]? = some oj → oj.dst = some d → listed.getD j false = true → ∃ v, a'.tmps[d]? = some v ∧ F j v w2 := fun j oj d hji hoj hdj hlj => by
            obtain ⟨u, hu, hFu⟩ := hM.fact j oj d hoj hdj hlj
            have hjs : j < ops.size := (Array.getElem?_eq_some_iff.1 hoj).1
            have hjL : j ≠ L := fun e => by rw [e, getD_any (c := true) (by rw [hM.lsize]; omega), hoff] at hlj; cases hlj
            exact ⟨u, hu, hFm j i u _ _ (Ne.symm hji) (by omega) hiL' hFu hb⟩
          refine ih _ _ _ ⟨?_, ?_, ?_, ?_, ?_, ?_, ?_⟩ (by rw [getD_set_other hiL]; exact hoff) ?_
          · cases o.dst <;> exact hM.defers
          · cases o.dst <;> simp [Act.put, hM.size]
          · simp [hM.lsize]
          · intro j oj hoj hlj e he hbe
            by_cases hje : i = e.on
            · rw [hje]; exact getD_set_same (by omega)
            · rw [getD_set_other hje]
              by_cases hji : i = j
              · subst hji
                have : oj = o := by rw [ho] at hoj; injection hoj with hoj; exact hoj.symm
                subst this
                exact h2 e he hbe
              · rw [getD_set_other hji] at hlj
                exact hM.closed j oj hoj hlj e he hbe
          · intro t ht
            rw [← hM.old t ht]
            have := ht i o hiL' ho
            cases hd : o.dst with
            | none => rfl
            | some d => simp only [Act.put]; exact Array.getElem?_setIfInBounds_ne (by intro e; rw [hd, e] at this; exact this rfl)
          · intro j hj hlj
            by_cases hji : i = j
            · subst hji; rw [getD_set_same hil] at hlj; cases hlj
            · rw [getD_set_other hji] at hlj
              refine hGm i j _ _ hji hiL' hj (fun hmem => ?_) (hM.glob j hj hlj) hb
              have := ancs_listed hM.closed ops.size i o ho h2 j hmem
              rw [hlj] at this; cases this
          · intro j oj d hoj hdj hlj
            by_cases hji : i = j
            · subst hji
              have : oj = o := by rw [ho] at hoj; injection hoj with hoj; exact hoj.symm
              subst this
              have hds := hsz i oj d hoj hdj
              refine ⟨v, ?_, hF⟩
              rw [hdj]
              simp [Act.put, hM.size, hds]
            · rw [getD_set_other hji] at hlj
              obtain ⟨u, hu, hFu⟩ := hfac j oj d hji hoj hdj hlj
              refine ⟨u, ?_, hFu⟩
              rw [← hu]
              cases hd : o.dst with
              | none => rfl
              | some d' => simp only [Act.put]; exact Array.getElem?_setIfInBounds_ne (by intro e; exact hji (hdst i j o oj d ho hoj (by rw [hd, e]) hdj))
          · have h3 : listed.toList[i]? = some false := by simp [hil] at h1 ⊢; exact h1
            have h4 := count_set _ _ h3
            rw [Array.toList_setIfInBounds]
            omega
  have hLo : L < ops.size := by omega
  refine wp_region_any hm (main ops.size (Array.replicate ops.size false) a _ ⟨hd, rfl, by simp, ?_, fun _ _ => rfl, fun j hj _ => hG j hj, ?_⟩ (by simp [hLo]) ?_)
  · intro i o ho hl
    have hio : i < ops.size := (Array.getElem?_eq_some_iff.1 ho).1
    simp [hio] at hl
  · intro i o d ho _ hl
    have hio : i < ops.size := (Array.getElem?_eq_some_iff.1 ho).1
    simp [hio] at hl
  · refine Nat.le_trans List.count_le_length ?_
    simp
/-- what the law asks of a region, to be reckoned -/
def drawnOk (ops : Array Oper) (L n : Nat) : Bool :=
  decide (L + 1 = ops.size) && ((List.range ops.size).all fun i => match ops[i]? with
    | none => true
    | some o => o.guard.isNone && (o.after.toList.all (fun e => decide (e.on < i)) && (match o.dst with
      | none => true
      | some d => decide (d < n) && (List.range ops.size).all (fun j => decide (i = j) || (match ops[j]? with | none => true | some o' => !decide (o'.dst = some d)))))) &&
  (List.range L).all (fun j => (ancs ops ops.size L).contains j)
/-- where the value of operation j stands, if operation i waits for it -/
def waitsFor (ops : Array Oper) (i j : Nat) : Option Tmp := match ops[i]? with
  | none => none
  | some o => if o.after.toList.any (fun e => decide (e.on = j) && Region.binds .any e) then (match ops[j]? with | none => none | some o' => o'.dst) else none
def dstOf (ops : Array Oper) (j : Nat) : Option Tmp := match ops[j]? with | none => none | some o' => o'.dst
theorem drawn {id : Nat} {a : Act} {w : World} (hm : P.follows .mixedOrders = true) (L n : Nat) (G : Nat → World → Prop) (F : Nat → Value → World → Prop) (R : Nat → World → World → Prop)
    (hn : a.tmps.size = n) (hok : drawnOk ops L n = true) (hd : a.defers = [])
    (hG : ∀ j, j ≤ L → G j w.drew) (hFm : ∀ i j v w w', i ≠ j → i < L → j < L → F i v w → R j w w' → F i v w') (hGm : ∀ i j w w', i ≠ j → i < L → j ≤ L → j ∉ ancs ops ops.size i → G j w → R i w w' → G j w')
    (hstep : ∀ (i : Nat) (o : Oper) (a' : Act) (w' : World), i < L → ops[i]? = some o → a'.defers = [] → (∀ t : Nat, (ops.toList.take L).all (fun o => !decide (o.dst = some t)) = true → a'.tmps[t]? = a.tmps[t]?) → G i w' → G L w' →
      (∀ j d, waitsFor ops i j = some d → ∃ v, a'.tmps[d]? = some v ∧ F j v w') → o.wp P a' w' (fun a2 w2 => ∃ v, a2 = a'.put o.dst v ∧ R i w' w2 ∧ F i v w2) Q)
    (hlast : ∀ (o : Oper) (a' : Act) (w' : World), ops[L]? = some o → a'.defers = [] → a'.tmps.size = n → (∀ t : Nat, (ops.toList.take L).all (fun o => !decide (o.dst = some t)) = true → a'.tmps[t]? = a.tmps[t]?) → G L w' →
      (∀ i d, i < L → dstOf ops i = some d → ∃ v, a'.tmps[d]? = some v ∧ F i v w') → o.wp P a' w' (fun a2 w2 => Q .normal a2 w2) Q) :
    (Code.region id ops true).wp P Q a w := by
  simp only [drawnOk, Bool.and_eq_true, decide_eq_true_eq, List.all_eq_true, List.mem_range] at hok
  obtain ⟨⟨hL, h1⟩, h2⟩ := hok
  have hall : ∀ (i : Nat) (o : Oper), ops[i]? = some o → o.guard.isNone = true ∧ (∀ e ∈ o.after.toList, e.on < i) ∧ (∀ d, o.dst = some d → d < n ∧ ∀ j o', ops[j]? = some o' → o'.dst = some d → i = j) := by
    intro i o ho
    have hi : i < ops.size := (Array.getElem?_eq_some_iff.1 ho).1
    have := h1 i hi
    rw [ho] at this
    simp only [Bool.and_eq_true, List.all_eq_true, decide_eq_true_eq] at this
    obtain ⟨k1, k2, k3⟩ := this
    refine ⟨k1, k2, fun d hd => ?_⟩
    rw [hd] at k3
    simp only [Bool.and_eq_true, List.all_eq_true, decide_eq_true_eq, List.mem_range, Bool.or_eq_true] at k3
    refine ⟨k3.1, fun j o' ho' hd' => ?_⟩
    have hj : j < ops.size := (Array.getElem?_eq_some_iff.1 ho').1
    rcases k3.2 j hj with h | h
    · exact h
    · rw [ho'] at h; simp [hd'] at h
  have hold : ∀ t : Nat, (ops.toList.take L).all (fun o => !decide (o.dst = some t)) = true → ∀ (i : Nat) (o : Oper), i < L → ops[i]? = some o → o.dst ≠ some t := by
    intro t ht i o hi ho
    have hm : o ∈ ops.toList.take L := by
      have := List.mem_of_getElem? (l := ops.toList.take L) (i := i) (a := o) (by rw [List.getElem?_take_of_lt hi]; simpa using ho)
      exact this
    have := List.all_eq_true.1 ht o hm
    simpa using this
  refine drawn_law hm L G F R hd hL (fun i o ho => by have := (hall i o ho).1; simpa using this) (fun i o ho e he => (hall i o ho).2.1 e (by simpa using he)) (fun i j o o' d ho ho' hd hd' => ((hall i o ho).2.2 d hd).2 j o' ho' hd') (fun i o d ho hd => by rw [hn]; exact ((hall i o ho).2.2 d hd).1)
    (fun j hj => by simpa using h2 j hj) hG hFm hGm ?_ ?_
  · intro i o a' w' ho hi hd' hs hold' hGi hGL hw
    refine hstep i o a' w' hi ho hd' (fun t ht => hold' t (hold t ht)) hGi hGL (fun j d hj => ?_)
    unfold waitsFor at hj
    rw [ho] at hj
    simp only at hj
    split at hj
    · rename_i hany
      obtain ⟨e, he, he2⟩ := List.any_eq_true.1 hany
      simp only [Bool.and_eq_true, decide_eq_true_eq] at he2
      obtain ⟨rfl, hb⟩ := he2
      cases ho2 : ops[e.on]? with
      | none => rw [ho2] at hj; cases hj
      | some oj => rw [ho2] at hj; exact hw e (by simpa using he) hb oj d ho2 hj
    · cases hj
  · intro o a' w' ho hd' hs hold' hGL hw
    refine hlast o a' w' ho hd' (by rw [hs, hn]) (fun t ht => hold' t (hold t ht)) hGL (fun i d hi hd => ?_)
    unfold dstOf at hd
    cases ho2 : ops[i]? with
    | none => rw [ho2] at hd; cases hd
    | some oj => rw [ho2] at hd; exact hw i oj d hi ho2 hd
theorem eval_tmp {a : Act} {k : Nat} {v : Value} (h : a.tmps[k]? = some v) : a.eval (.tmp k) = v := by simp [Act.eval, h]
/-- a slice literal, every place given -/
theorem op_bslice {P : Program} {o : Oper} {a : Act} {w : World} {K : Act → World → Prop} {Q : Exit → Act → World → Prop} (t e : TypeId) (len : Nat) (parts : Array (Nat × Operand)) (ho : o.op = .buildSlice t len parts) (s : Nat) (vs : List Value)
    (hu : P.underlying t = some (.slice e)) (hi : (P.info? e).map (fun i => (i.zero.isSome, i.size)) = some (true, s)) (hs : 0 < s) (hl : vs.length = len) (hpos : 0 < len) (hsmall : len * s ≤ 2 ^ 24)
    (hp : (parts.map fun (i, x) => (i, a.eval x)).toList = (vs.zipIdx 0).map fun x => (x.2, x.1)) (h1 : ∀ v ∈ vs, v.cells.size = s)
    (h : K (a.put o.dst (.slice (some ⟨w.heap.size, 0, none⟩) len len)) (w.alloc (.cells (vs.flatMap fun v => v.cells.toList).toArray e))) : o.wp P a w K Q := by
  obtain ⟨ie, hie, h2⟩ := Option.map_eq_some_iff.1 hi
  injection h2 with h3 h4
  obtain ⟨z, hz⟩ := Option.isSome_iff_exists.1 h3
  have hne : ¬ len * s = 0 := by
    have := Nat.mul_pos hpos hs
    omega
  refine wp_buildSlice t e len parts ho _ ie z hu hie hz (by rw [h4]; omega) (by rw [h4]; exact hne) ?_ h
  rw [hp, h4]
  exact Great.fill_whole hs vs _ h1 (by simp [hl])
/-- a struct literal -/
theorem op_build {P : Program} {o : Oper} {a : Act} {w : World} {K : Act → World → Prop} {Q : Exit → Act → World → Prop} (t : TypeId) (parts : Array (Nat × Operand)) (ho : o.op = .build t parts) (ps : List (Nat × Value)) (cells : Array Value)
    (hp : (parts.map fun (i, x) => (i, a.eval x)).toList = ps) (hf : P.built t ps = some cells) (h : K (a.put o.dst (.agg cells)) w) : o.wp P a w K Q := by
  subst hp
  exact wp_build t parts ho (by rw [hf]; rfl) (by rw [hf]; exact h)
/-- a new variable's cells -/
theorem op_alloc {P : Program} {o : Oper} {a : Act} {w : World} {K : Act → World → Prop} {Q : Exit → Act → World → Prop} (ty : TypeId) (ho : o.op = .alloc ty) (zs : Array Value) (n : Nat) (hi : (P.info? ty).map (fun i => (i.zero, i.size)) = some (some (.agg zs), n))
    (h : K (a.put o.dst (.pointer (some ⟨w.heap.size, 0, none⟩))) (w.alloc (.cells zs ty))) : o.wp P a w K Q := by
  obtain ⟨i, hi1, hi2⟩ := Option.map_eq_some_iff.1 hi
  injection hi2 with h1 h2
  have hzv : (zeroValue ty).run P w = .ok (.agg zs) w := by simp [zeroValue, typeInfo, hi1, h1]
  unfold Oper.wp execOp
  simp [ho, go_sem, hzv]
  exact h
/-- a call of a function of the program -/
theorem op_call {P : Program} {o : Oper} {a : Act} {w : World} {K : Act → World → Prop} {Q : Exit → Act → World → Prop} (f : Nat) (c : Call) (ho : o.op = .call c) (hf : c.callee = .value (.func f)) (vs : Array Value) (hv : c.args.map a.eval = vs)
    (fn : Func) (hfn : P.funcs[f]? = some fn) (hb : fn.body.isSome = true) (hng : (fn.name == "runtime.NumGoroutine") = false) (h : Calls P f vs w (fun e w' => ∃ v, e = .returned v ∧ K (a.put o.dst v) w')) : o.wp P a w K Q := by
  have hr : (execOp a.eval o).run P w = .ok (.enter f vs) w := by
    unfold execOp
    have hb' : fn.body ≠ none := by intro e; rw [e] at hb; cases hb
    have hn' : fn.name ≠ "runtime.NumGoroutine" := by simpa using hng
    simp [ho, hf, resolve, Deferred.ofValue, invoke, Act.eval, go_sem, callFunc, hv, hfn, hb', hn']
  unfold Oper.wp
  rw [hr, Oper.upon_enter]
  refine h.mono ?_
  rintro e w' ⟨v, rfl, hk⟩
  exact hk
theorem puts_size (f : Nat → Value) : ∀ (ds : List Nat) (a : Act), (ds.foldl (fun x d => x.put (some d) (f d)) a).tmps.size = a.tmps.size
  | [], _ => rfl
  | d :: ds, a => by rw [List.foldl_cons, puts_size f ds]; simp [Act.put]
theorem puts_defers (f : Nat → Value) : ∀ (ds : List Nat) (a : Act), (ds.foldl (fun x d => x.put (some d) (f d)) a).defers = a.defers
  | [], _ => rfl
  | d :: ds, a => by rw [List.foldl_cons, puts_defers f ds]; rfl
theorem puts_get (f : Nat → Value) (t : Nat) : ∀ (ds : List Nat) (a : Act), t < a.tmps.size → (ds.foldl (fun x d => x.put (some d) (f d)) a).tmps[t]? = if t ∈ ds then some (f t) else a.tmps[t]?
  | [], _, _ => by simp
  | d :: ds, a, h => by
    rw [List.foldl_cons, puts_get f t ds _ (by simpa [Act.put] using h)]
    by_cases h1 : t ∈ ds
    · simp [h1]
    · by_cases h2 : t = d
      · subst h2; simp [h1, Act.put, h]
      · simp [h1, h2, Act.put, Array.getElem?_setIfInBounds_ne (Ne.symm h2)]
/-- the frame behind a region: what the region has written is new, all else is as it was -/
theorem frame_of {a a' : Act} (ds : List Nat) (hs : a'.tmps.size = a.tmps.size) (hd : a'.defers = a.defers) (hold : ∀ t, t ∉ ds → a'.tmps[t]? = a.tmps[t]?) :
    ∃ f : Nat → Value, a' = ds.foldl (fun x d => x.put (some d) (f d)) a ∧ ∀ d v, a'.tmps[d]? = some v → f d = v := by
  refine ⟨fun d => a'.tmps.getD d undef, ?_, fun d v h => by simp [h]⟩
  have h1 : a'.tmps = (ds.foldl (fun x d => x.put (some d) (a'.tmps.getD d undef)) a).tmps := by
    apply Array.ext_getElem?
    intro i
    by_cases hi : i < a.tmps.size
    · rw [puts_get _ i ds a hi]
      by_cases hm : i ∈ ds
      · simp [hm, hs, hi]
      · simp [hm, hold i hm]
    · rw [Array.getElem?_eq_none (by omega), Array.getElem?_eq_none (by rw [puts_size]; omega)]
  have h2 := (puts_defers (fun d => a'.tmps.getD d undef) ds a)
  cases a' with
  | mk t d =>
    simp only at hd h1 h2 ⊢
    rw [← hd] at h2
    generalize hq : ds.foldl (fun x d => x.put (some d) (t.getD d undef)) a = q at *
    cases q
    simp only at h1 h2
    subst h1 h2
    rfl
/-- the same, the frame at the last operation told -/
theorem drawn2 {P : Program} {ops : Array Oper} {Q : Exit → Act → World → Prop} {id : Nat} {a : Act} {w : World} (hm : P.follows .mixedOrders = true) (L n : Nat) (ds : List Nat) (G : Nat → World → Prop) (F : Nat → Value → World → Prop) (R : Nat → World → World → Prop)
    (hn : a.tmps.size = n) (hok : drawnOk ops L n = true) (hds : (ops.toList.take L).filterMap (·.dst) = ds) (hd : a.defers = [])
    (hG : ∀ j, j ≤ L → G j w.drew) (hFm : ∀ i j v w w', i ≠ j → i < L → j < L → F i v w → R j w w' → F i v w') (hGm : ∀ i j w w', i ≠ j → i < L → j ≤ L → j ∉ ancs ops ops.size i → G j w → R i w w' → G j w')
    (hstep : ∀ (i : Nat) (o : Oper) (a' : Act) (w' : World), i < L → ops[i]? = some o → a'.defers = [] → (∀ t : Nat, (ops.toList.take L).all (fun o => !decide (o.dst = some t)) = true → a'.tmps[t]? = a.tmps[t]?) → G i w' → G L w' →
      (∀ j d, waitsFor ops i j = some d → ∃ v, a'.tmps[d]? = some v ∧ F j v w') → o.wp P a' w' (fun a2 w2 => ∃ v, a2 = a'.put o.dst v ∧ R i w' w2 ∧ F i v w2) Q)
    (hlast : ∀ (o : Oper) (u : Nat → Value) (w' : World), ops[L]? = some o → G L w' → (∀ i d, i < L → dstOf ops i = some d → F i (u d) w') → o.wp P (ds.foldl (fun x d => x.put (some d) (u d)) a) w' (fun a2 w2 => Q .normal a2 w2) Q) :
    (Code.region id ops true).wp P Q a w := by
  refine drawn hm L n G F R hn hok hd hG hFm hGm hstep ?_
  intro o a' w' ho hd' hs hold hGL hw
  obtain ⟨u, hu, huv⟩ := frame_of (a := a) (a' := a') ds (by rw [hs, hn]) (by rw [hd', hd]) (fun t ht => hold t (List.all_eq_true.2 fun o ho => by
    simp only [Bool.not_eq_true', decide_eq_false_iff_not]
    intro e
    exact ht (by rw [← hds]; exact List.mem_filterMap.2 ⟨o, ho, e⟩)))
  rw [hu]
  refine hlast o u w' ho hGL (fun i d hi hdd => ?_)
  obtain ⟨v, hv, hF⟩ := hw i d hi hdd
  rw [huv d v hv]
  exact hF
theorem setRow_at {w : World} {g : Nat} {cs cs' : Array Value} {t : TypeId} {fr : Nat × Nat} (h : w.heap[g]? = some (.cells cs t fr)) : (w.setRow g cs').heap[g]? = some (.cells cs' t fr) := by
  simp [World.setRow, Array.getElem?_modify, h]
theorem setRow_ne {w : World} {g b : Nat} {cs' : Array Value} (h : b ≠ g) : (w.setRow g cs').heap[b]? = w.heap[b]? := by
  simp [World.setRow, Array.getElem?_modify, Ne.symm h]
theorem setRow_size {w : World} {g : Nat} {cs' : Array Value} : (w.setRow g cs').heap.size = w.heap.size := by simp [World.setRow]
end
end Go.Proofs.YtgabkmibfhmkmaaGreatDoor

namespace Go.Proofs.YtgabkmibfhmkmaaGreatDoor
open Go.RowKit
mutual
def szE : GExp → Int → Int
  | .mk _ t ks, left => szL ks (left - (1 + (((t.x.size + t.v.s.size) / 50 : Nat) : Int)))
def szL : List GExp → Int → Int
  | [], l => l
  | k :: ks, l => if l < 0 then -1 else szL ks (szE k l)
end
theorem szE_def (e : GExp) (l : Int) : szE e l = szL e.kids (l - (1 + (((e.t.x.size + e.t.v.s.size) / 50 : Nat) : Int))) := by
  cases e; rw [szE]; rfl
mutual
theorem szE_le : ∀ (e : GExp) (l : Int), 0 ≤ l → szE e l ≤ l
  | .mk _ t ks, l, h => by
    rw [szE]
    have := szL_le ks (l - (1 + (((t.x.size + t.v.s.size) / 50 : Nat) : Int)))
    omega
theorem szL_le : ∀ (ks : List GExp) (l : Int), szL ks l ≤ max l (-1)
  | [], l => by rw [szL]; omega
  | k :: ks, l => by
    rw [szL]
    split
    · omega
    · have h1 := szE_le k l (by omega)
      have h2 := szL_le ks (szE k l)
      omega
end
abbrev expV (e : GExp) (A : Option Addr) (n c : Nat) : Value := .agg #[.int .i64 e.op, .string e.t.x, .int .i64 e.t.v.k, .int .i64 e.t.v.n, .string e.t.v.s, .slice A n c]
set_option maxRecDepth 100000 in
set_option maxHeartbeats 2000000 in
theorem exp_any : ∀ (d : Nat) (e : GExp) (A : Option Addr) (n c : Nat) (left : Int) (w : World), SliceIs (Enc.exp d) w w.heap.size A n c e.kids → e.t.x.size ≤ reachN → e.t.v.s.size ≤ reachN → -1000000000000000 ≤ left → left ≤ 100000 →
    Calls Tryz.prog 94 #[expV e A n c, .int .i64 left] w (RetInt (szE e left) w) := by
  intro d
  induction d using Nat.strongRecOn with
  | ind d ih =>
    intro e A n c left w hk hx hs h0 h1
    have IH := Lib.hid ih
    have hn := hk.bound
    have HK := Lib.hid hk
    have Hlen := Lib.hid hk.1
    obtain ⟨R, HR⟩ : ∃ R, Hid (R = szE e left) := ⟨_, rfl⟩
    rw [← HR.out]
    have hx' : e.t.x.size ≤ 140737488351232 := hx
    have hs' : e.t.v.s.size ≤ 140737488351232 := hs
    obtain ⟨c0, hc0, hc1⟩ : ∃ c0 : Nat, ((e.t.x.size : Int) + (e.t.v.s.size : Int)).tdiv 50 = (c0 : Int) ∧ c0 = (e.t.x.size + e.t.v.s.size) / 50 := ⟨(e.t.x.size + e.t.v.s.size) / 50, by rw [Int.tdiv_eq_ediv_of_nonneg (by omega)]; omega, rfl⟩
    have HR2 : Hid (R = szL (e.kids.drop 0) (left - (1 + (c0 : Int)))) := by
      show _ = _
      rw [HR.out, szE_def, hc1]; rfl
    have hc2 : c0 ≤ 281474976710656 := by omega
    have hrb : (w.alloc (.cells #[.int .i64 e.op, .string e.t.x, .int .i64 e.t.v.k, .int .i64 e.t.v.n, .string e.t.v.s, .slice A n c] 33)).heap[w.heap.size]? = some (.cells #[.int .i64 e.op, .string e.t.x, .int .i64 e.t.v.k, .int .i64 e.t.v.n, .string e.t.v.s, .slice A n c] 33 (0, 0)) := heapNew rfl
    have b1 : (w.alloc (.cells #[.int .i64 e.op, .string e.t.x, .int .i64 e.t.v.k, .int .i64 e.t.v.n, .string e.t.v.s, .slice A n c] 33)).cell? ⟨w.heap.size, 1, none⟩ = some (.string e.t.x) := (cell_of_row _ _ 1 _ _ _ hrb).trans rfl
    have b4 : (w.alloc (.cells #[.int .i64 e.op, .string e.t.x, .int .i64 e.t.v.k, .int .i64 e.t.v.n, .string e.t.v.s, .slice A n c] 33)).cell? ⟨w.heap.size, 4, none⟩ = some (.string e.t.v.s) := (cell_of_row _ _ 4 _ _ _ hrb).trans rfl
    have b5 : (w.alloc (.cells #[.int .i64 e.op, .string e.t.x, .int .i64 e.t.v.k, .int .i64 e.t.v.n, .string e.t.v.s, .slice A n c] 33)).cell? ⟨w.heap.size, 5, none⟩ = some (.slice A n c) := (cell_of_row _ _ 5 _ _ _ hrb).trans rfl
    have hb0 : Below w.heap.size w (w.alloc (.cells #[.int .i64 e.op, .string e.t.x, .int .i64 e.t.v.k, .int .i64 e.t.v.n, .string e.t.v.s, .slice A n c] 33)) := belowA (Below.refl _ _) _
    clear ih hk hrb hc1 HR
    go_enter Tryz.func94, Tryz.ntmps94
    go_wp2_with fail
    go_loopw [1, 6, 24] (fun lv _ i wr => ∃ (j : Nat) (l : Int), j ≤ n ∧ i = .int .i64 j ∧ lv = .int .i64 l ∧ l ≤ 100000 ∧ Hid (R = szL (e.kids.drop j) l) ∧ Below w.heap.size w wr) (fun _ _ i _ => n - (intOf i).toNat)
    case atStart => exact ⟨0, left - (1 + (c0 : Int)), by omega, rfl, by go_num, by omega, HR2, hb0⟩
    case round =>
      obtain ⟨j, l, hj, rfl, rfl, hl, HRj, hbr⟩ := hrel
      have i0 : (0 : Int) ≤ (j : Int) := by omega
      by_cases hlt : j < n
      · have i1 : (j : Int) < (n : Int) := by omega
        obtain ⟨b, o, k, A', n', c', d', rfl, hb, hk', hd, x0, x1, x2, x3, x4, x5, -, f1, f2, hkk⟩ := (HK.out.below hbr).exp_at hlt
        have HRk : Hid (R = if l < 0 then -1 else szL (e.kids.drop (j + 1)) (szE k l)) := by
          show _ = _
          rw [HRj.out]
          obtain ⟨g1, g2⟩ := List.getElem?_eq_some_iff.1 hk'.out
          rw [List.drop_eq_getElem_cons g1, g2, szL]
        by_cases hneg : l < 0
        · have HR1 : Hid (R = -1) := by show _ = _; rw [HRk.out, if_pos hneg]
          clear HRk HRj hk' hd
          go_wp2_with fail
          go_ret
          exact ⟨by rw [HR1.out]; rfl, belowA hbr _⟩
        · have HR1 : Hid (R = szL (e.kids.drop (j + 1)) (szE k l)) := by show _ = _; rw [HRk.out, if_neg hneg]
          have hle := szE_le k l (by omega)
          have hba : Below w.heap.size w (wr.alloc (.cells #[.int .i64 k.op, .string k.t.x, .int .i64 k.t.v.k, .int .i64 k.t.v.n, .string k.t.v.s, .slice A' n' c'] 33)) := belowA hbr _
          have HC := Lib.hid (IH.out d' (by omega) k A' n' c' l (wr.alloc (.cells #[.int .i64 k.op, .string k.t.x, .int .i64 k.t.v.k, .int .i64 k.t.v.n, .string k.t.v.s, .slice A' n' c'] 33)) (hkk.mono hba.size (fun bb hbb => (belowA (Below.refl _ _) _).block bb (by have := hbr.size; omega))) f1 f2.2.2 (by omega) hl)
          generalize szE k l = lk at *
          clear HRk HRj hk' hd
          go_wp2_with fail
          refine HC.out.mono ?_
          rintro e2 w2 ⟨rfl, hb2⟩
          go_wp2_with fail
          go_roundw
          case rel => exact ⟨j + 1, lk, by omega, by go_num, rfl, by omega, HR1, below_next hba hb2⟩
          case measure => simp [intOf]; omega
      · have i1 : ¬ (j : Int) < (n : Int) := by omega
        have HR1 : Hid (R = l) := by
          show _ = _
          rw [HRj.out, List.drop_eq_nil_of_le (by rw [Hlen.out]; omega), szL]
        clear HRj
        go_wp2_with fail
        go_ret
        exact ⟨by rw [HR1.out]; rfl, hbr⟩
end Go.Proofs.YtgabkmibfhmkmaaGreatDoor

namespace Go.Proofs.YtgabkmibfhmkmaaGreatDoor
open Go.RowKit
/-- the world with the blocks of S emptied: what is read there lies outside of S -/
def sans (w : World) (S : List Nat) : World := { w with heap := w.heap.mapIdx fun b o => if b ∈ S then .cells #[] 0 (0, 0) else o }
theorem sans_size (w : World) (S : List Nat) : (sans w S).heap.size = w.heap.size := by simp [sans]
theorem sans_get (w : World) (S : List Nat) (b : Nat) : (sans w S).heap[b]? = (w.heap[b]?).map fun o => if b ∈ S then .cells #[] 0 (0, 0) else o := by simp [sans]
theorem sans_in {w : World} {S : List Nat} {b : Nat} {cs : Array Value} {t : TypeId} {fr : Nat × Nat} (h : (sans w S).heap[b]? = some (.cells cs t fr)) (hc : cs ≠ #[]) : b ∉ S ∧ w.heap[b]? = some (.cells cs t fr) := by
  rw [sans_get] at h
  obtain ⟨o, ho, h⟩ := Option.map_eq_some_iff.1 h
  split at h
  · injection h with h; exact absurd h.symm hc
  · exact ⟨‹_›, ho.trans (congrArg some h)⟩
theorem sans_out {w : World} {S : List Nat} {b : Nat} (h : b ∉ S) : (sans w S).heap[b]? = w.heap[b]? := by
  rw [sans_get]; simp [h]
theorem kept_up (w : World) (S : List Nat) (B : Nat) : Kept (sans w S) w B := fun _ _ _ _ _ h hc => (sans_in h hc).2
/-- a world changed at the blocks of S alone (and new ones) -/
structure Out (S : List Nat) (w w' : World) : Prop where
  os : w'.os = w.os
  tape : w'.tape = w.tape
  output : w'.output = w.output
  size : w.heap.size ≤ w'.heap.size
  block : ∀ b, b < w.heap.size → b ∉ S → w'.heap[b]? = w.heap[b]?
theorem Out.of_below {w w' : World} (h : Below w.heap.size w w') (S : List Nat) : Out S w w' := ⟨h.os, h.tape, h.output, h.size, fun b hb _ => h.block b hb⟩
theorem Out.refl (S : List Nat) (w : World) : Out S w w := ⟨rfl, rfl, rfl, Nat.le_refl _, fun _ _ _ => rfl⟩
theorem Out.trans {S T : List Nat} {w w1 w2 : World} (h : Out S w w1) (h' : Out T w1 w2) (hT : ∀ b ∈ T, b < w.heap.size → b ∈ S) : Out S w w2 :=
  ⟨h'.os.trans h.os, h'.tape.trans h.tape, h'.output.trans h.output, Nat.le_trans h.size h'.size, fun b hb hS => (h'.block b (Nat.lt_of_lt_of_le hb h.size) (fun hb' => hS (hT b hb' hb))).trans (h.block b hb hS)⟩
theorem Out.mono {S T : List Nat} {w w' : World} (h : Out S w w') (hS : ∀ b ∈ S, b < w.heap.size → b ∈ T) : Out T w w' :=
  ⟨h.os, h.tape, h.output, h.size, fun b hb hb' => h.block b hb (fun hs => hb' (hS b hs hb))⟩
/-- nothing old has changed -/
theorem Out.below {S : List Nat} {w w' : World} {B : Nat} (h : Out S w w') (hS : ∀ b ∈ S, B ≤ b) (hB : B ≤ w.heap.size) : Below B w w' :=
  ⟨h.os, h.tape, h.output, h.size, fun b hb => h.block b (by omega) (fun hs => by have := hS b hs; omega)⟩
theorem Out.kept {S T U : List Nat} {w w' : World} (h : Out S w w') (hT : ∀ b ∈ S, b < w.heap.size → b ∈ T) (hU : ∀ b ∈ U, b < w.heap.size → b ∈ T) : Kept (sans w T) (sans w' U) w.heap.size := fun b hb cs t fr hcs hc => by
  obtain ⟨hn, hw⟩ := sans_in hcs hc
  rw [sans_out (fun hu => hn (hU b hu hb)), h.block b hb (fun hs => hn (hT b hs hb)), hw]
section
variable {α : Type} {E : Enc α} {w w' : World} {A : Option Addr} {n c : Nat} {l : List α}
/-- a slice that lies outside of S -/
def SliceFar (E : Enc α) (w : World) (S : List Nat) (A : Option Addr) (n c : Nat) (l : List α) : Prop := SliceIs E (sans w S) w.heap.size A n c l
theorem SliceFar.is {S : List Nat} (h : SliceFar E w S A n c l) : SliceIs E w w.heap.size A n c l := SliceIs.mono' h (Nat.le_refl _) (kept_up w S _)
theorem SliceFar.out {S T U : List Nat} (h : SliceFar E w T A n c l) (ho : Out S w w') (hT : ∀ b ∈ S, b < w.heap.size → b ∈ T) (hU : ∀ b ∈ U, b < w.heap.size → b ∈ T) : SliceFar E w' U A n c l :=
  SliceIs.mono' h ho.size (ho.kept hT hU)
/-- the same S, nothing old changed -/
theorem SliceFar.on {S : List Nat} (h : SliceFar E w S A n c l) (hb : Below w.heap.size w w') : SliceFar E w' S A n c l :=
  h.out (Out.of_below hb S) (fun _ hb _ => hb) (fun _ hb _ => hb)
theorem SliceFar.bound {S : List Nat} (h : SliceFar E w S A n c l) : n ≤ 140737488351232 := SliceIs.bound h
/-- what is older than S lies outside of it -/
theorem SliceFar.old {S : List Nat} {B : Nat} (h : SliceIs E w B A n c l) (hB : B ≤ w.heap.size) (hS : ∀ b ∈ S, B ≤ b) : SliceFar E w S A n c l :=
  SliceIs.mono' h hB fun b hb cs t fr hcs hc => by rw [sans_out (fun hs => by have := hS b hs; omega), hcs]
theorem SliceFar.nil {S : List Nat} : SliceFar E w S none 0 0 ([] : List α) := SliceIs.nil
end
end Go.Proofs.YtgabkmibfhmkmaaGreatDoor

namespace Go.Proofs.YtgabkmibfhmkmaaGreatDoor
open Go.RowKit
/-- what lay stays, but for blocks from B on that hold no cells -/
structure Soft (B : Nat) (w w' : World) : Prop where
  os : w'.os = w.os
  tape : w'.tape = w.tape
  output : w'.output = w.output
  size : w.heap.size ≤ w'.heap.size
  same : ∀ b o, w.heap[b]? = some o → (b < B ∨ o.isCells = true) → w'.heap[b]? = some o
theorem Soft.refl (B : Nat) (w : World) : Soft B w w := ⟨rfl, rfl, rfl, Nat.le_refl _, fun _ _ h _ => h⟩
theorem Soft.trans {B : Nat} {w w1 w2 : World} (h : Soft B w w1) (k : Soft B w1 w2) : Soft B w w2 :=
  ⟨k.os.trans h.os, k.tape.trans h.tape, k.output.trans h.output, Nat.le_trans h.size k.size, fun b o hb ho => k.same b o (h.same b o hb ho) ho⟩
theorem Soft.of_below {w w' : World} (B : Nat) (h : Below w.heap.size w w') : Soft B w w' :=
  ⟨h.os, h.tape, h.output, h.size, fun b _ hb _ => (h.block b (Array.getElem?_eq_some_iff.1 hb).1).trans hb⟩
theorem Soft.putObj {B : Nat} {w : World} {l : Nat} {o : Obj} (o' : Obj) (hB : B ≤ l) (hl : w.heap[l]? = some o) (ho : o.isCells = false) : Soft B w (w.putObj l o') :=
  ⟨rfl, rfl, rfl, by simp [World.putObj], fun b x hb hx => by
    by_cases e : b = l
    · subst e
      rw [hl] at hb; injection hb with hb; subst hb
      rcases hx with hx | hx
      · omega
      · rw [ho] at hx; cases hx
    · exact (World.putObj_heap_other e).trans hb⟩
theorem Soft.below {B : Nat} {w w' : World} (h : Soft B w w') {A : Nat} (hA : A ≤ B) (hw : A ≤ w.heap.size) : Below A w w' :=
  ⟨h.os, h.tape, h.output, h.size, fun b hb => (h.same b _ (Array.getElem?_eq_getElem (by omega)) (.inl (by omega))).trans (Array.getElem?_eq_getElem (by omega)).symm⟩
theorem Soft.row {B : Nat} {w w' : World} (h : Soft B w w') {b : Nat} {cs : Array Value} {t : TypeId} {fr : Nat × Nat} (hb : w.heap[b]? = some (.cells cs t fr)) : w'.heap[b]? = some (.cells cs t fr) := h.same b _ hb (.inr rfl)
theorem Soft.kept {B : Nat} {w w' : World} (h : Soft B w w') (A : Nat) : Kept w w' A := fun _ _ _ _ _ hb _ => h.row hb
theorem Soft.own {B : Nat} {w w' : World} (h : Soft B w w') {base e sz : Nat} {v : Value} {n : Nat} {xs : List Value} (ho : w.ownsRow base e sz v n xs) : w'.ownsRow base e sz v n xs := by
  refine ⟨ho.1, ?_⟩
  rcases ho.2 with hn | ⟨g, cap, cur, rfl, hg, hh, r⟩
  · exact .inl hn
  · exact .inr ⟨g, cap, cur, rfl, hg, h.row hh, r⟩
/-- a round's word: below N the blocks of S alone have changed -/
structure Turn (S : List Nat) (N : Nat) (w w' : World) : Prop where
  os : w'.os = w.os
  tape : w'.tape = w.tape
  output : w'.output = w.output
  size : w.heap.size ≤ w'.heap.size
  block : ∀ b, b < N → b ∉ S → w'.heap[b]? = w.heap[b]?
theorem Turn.refl (S : List Nat) (N : Nat) (w : World) : Turn S N w w := ⟨rfl, rfl, rfl, Nat.le_refl _, fun _ _ _ => rfl⟩
theorem Turn.trans {S : List Nat} {N : Nat} {w w1 w2 : World} (h : Turn S N w w1) (k : Turn S N w1 w2) : Turn S N w w2 :=
  ⟨k.os.trans h.os, k.tape.trans h.tape, k.output.trans h.output, Nat.le_trans h.size k.size, fun b hb hS => (k.block b hb hS).trans (h.block b hb hS)⟩
theorem Turn.of_out {S T : List Nat} {N : Nat} {w w' : World} (h : Out T w w') (hN : N ≤ w.heap.size) (hT : ∀ b ∈ T, b ∈ S ∨ N ≤ b) : Turn S N w w' :=
  ⟨h.os, h.tape, h.output, h.size, fun b hb hS => h.block b (by omega) (fun hbT => by rcases hT b hbT with q | q; exact hS q; omega)⟩
theorem Turn.of_below {S : List Nat} {N : Nat} {w w' : World} (h : Below w.heap.size w w') (hN : N ≤ w.heap.size) : Turn S N w w' :=
  ⟨h.os, h.tape, h.output, h.size, fun b hb _ => h.block b (by omega)⟩
section
variable {n : Nat} {P : Program}
end
end Go.Proofs.YtgabkmibfhmkmaaGreatDoor
