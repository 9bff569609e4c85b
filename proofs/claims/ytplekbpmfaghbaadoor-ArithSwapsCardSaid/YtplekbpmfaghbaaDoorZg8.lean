/- My own texts Pgm, TRight, ExpSize, TDeep, ArA, Env, ArMap, as far as this claim needs them. -/
import Derived.Test.YtplekbpmfaghbaaDoorZg2
import Derived.Test.YtplekbpmfaghbaaDoorZg3
import Derived.Test.YtplekbpmfaghbaaDoorZg4
import Derived.Test.YtplekbpmfaghbaaDoorZg7
import Derived.Deep.RegionHeld3
import Derived.Test.YtplekbpmfaghbaaDoorProg
import Derived.Deep.LoopGhost
set_option linter.unusedVariables false
set_option linter.unusedSimpArgs false
namespace Go.Proofs.YtplekbpmfaghbaaDoor
open Go.RowKit
/-- a slice's header -/
structure Hd where
  A : Option Addr
  n : Nat
  c : Nat
abbrev Hd.v (h : Hd) : Value := .slice h.A h.n h.c
structure GAtom where
  rel : ByteArray
  args : List GTold
structure GLit where
  k : Int
  atom : GAtom
  op : Int
  l : GExp
  r : GExp
  pos : Int
structure GRule where
  head : GAtom
  agg : Int
  col : Int
  body : List GLit
  pos : Int
structure GDecl where
  rel : ByteArray
  kinds : List Int
  pos : Int
structure GProg where
  decls : List GDecl
  rules : List GRule
abbrev litC (x : GLit) (a p q : Hd) : List Value := [.int .i64 x.k, .string x.atom.rel, a.v, .int .i64 x.op, .int .i64 x.l.op, .string x.l.t.x, .int .i64 x.l.t.v.k, .int .i64 x.l.t.v.n, .string x.l.t.v.s, p.v, .int .i64 x.r.op, .string x.r.t.x, .int .i64 x.r.t.v.k, .int .i64 x.r.t.v.n, .string x.r.t.v.s, q.v, .int .i64 x.pos]
abbrev ruleC (x : GRule) (a b : Hd) : List Value := [.string x.head.rel, a.v, .int .i64 x.agg, .int .i64 x.col, b.v, .int .i64 x.pos]
abbrev declC (x : GDecl) (a : Hd) : List Value := [.string x.rel, a.v, .int .i64 x.pos]
structure LitAt (d : Nat) (w : World) (B : Nat) (x : GLit) (a p q : Hd) : Prop where
  k : fits x.k
  op : fits x.op
  pos : fits x.pos
  rel : x.atom.rel.size ≤ reachN
  args : SliceIs Enc.told w B a.A a.n a.c x.atom.args
  lop : fits x.l.op
  lx : x.l.t.x.size ≤ reachN
  lv : x.l.t.v.ok
  lk : SliceIs (Enc.exp d) w B p.A p.n p.c x.l.kids
  rop : fits x.r.op
  rx : x.r.t.x.size ≤ reachN
  rv : x.r.t.v.ok
  rk : SliceIs (Enc.exp d) w B q.A q.n q.c x.r.kids
theorem LitAt.mono' {d : Nat} {w w' : World} {B B' : Nat} {x : GLit} {a p q : Hd} (h : LitAt d w B x a p q) (hB : B ≤ B') (hk : Kept w w' B) : LitAt d w' B' x a p q :=
  ⟨h.k, h.op, h.pos, h.rel, h.args.mono' hB hk, h.lop, h.lx, h.lv, h.lk.mono' hB hk, h.rop, h.rx, h.rv, h.rk.mono' hB hk⟩
theorem LitAt.keep {d : Nat} {w w' : World} {x : GLit} {a p q : Hd} (h : LitAt d w w.heap.size x a p q) (hb : Below w.heap.size w w') : LitAt d w' w'.heap.size x a p q := h.mono' hb.size (Kept.of hb.block)
def Enc.lit (d : Nat) : Enc GLit where
  sz := 17
  ok := fun w B cs x => ∃ a p q : Hd, cs = litC x a p q ∧ LitAt d w B x a p q
  mono := fun hB hk ⟨a, p, q, h1, h2⟩ => ⟨a, p, q, h1, h2.mono' hB hk⟩
  len := fun ⟨_, _, _, h, _⟩ => by rw [h]; rfl
structure RuleAt (d : Nat) (w : World) (B : Nat) (x : GRule) (a b : Hd) : Prop where
  rel : x.head.rel.size ≤ reachN
  args : SliceIs Enc.told w B a.A a.n a.c x.head.args
  agg : fits x.agg
  col : fits x.col
  body : SliceIs (Enc.lit d) w B b.A b.n b.c x.body
  pos : fits x.pos
theorem RuleAt.mono' {d : Nat} {w w' : World} {B B' : Nat} {x : GRule} {a b : Hd} (h : RuleAt d w B x a b) (hB : B ≤ B') (hk : Kept w w' B) : RuleAt d w' B' x a b :=
  ⟨h.rel, h.args.mono' hB hk, h.agg, h.col, h.body.mono' hB hk, h.pos⟩
theorem RuleAt.keep {d : Nat} {w w' : World} {x : GRule} {a b : Hd} (h : RuleAt d w w.heap.size x a b) (hb : Below w.heap.size w w') : RuleAt d w' w'.heap.size x a b := h.mono' hb.size (Kept.of hb.block)
def Enc.rule (d : Nat) : Enc GRule where
  sz := 6
  ok := fun w B cs x => ∃ a b : Hd, cs = ruleC x a b ∧ RuleAt d w B x a b
  mono := fun hB hk ⟨a, b, h1, h2⟩ => ⟨a, b, h1, h2.mono' hB hk⟩
  len := fun ⟨_, _, h, _⟩ => by rw [h]; rfl
structure DeclAt (w : World) (B : Nat) (x : GDecl) (a : Hd) : Prop where
  rel : x.rel.size ≤ reachN
  kinds : SliceIs Enc.int w B a.A a.n a.c x.kinds
  pos : fits x.pos
theorem DeclAt.mono' {w w' : World} {B B' : Nat} {x : GDecl} {a : Hd} (h : DeclAt w B x a) (hB : B ≤ B') (hk : Kept w w' B) : DeclAt w' B' x a := ⟨h.rel, h.kinds.mono' hB hk, h.pos⟩
theorem DeclAt.keep {w w' : World} {x : GDecl} {a : Hd} (h : DeclAt w w.heap.size x a) (hb : Below w.heap.size w w') : DeclAt w' w'.heap.size x a := h.mono' hb.size (Kept.of hb.block)
def Enc.decl : Enc GDecl where
  sz := 3
  ok := fun w B cs x => ∃ a : Hd, cs = declC x a ∧ DeclAt w B x a
  mono := fun hB hk ⟨a, h1, h2⟩ => ⟨a, h1, h2.mono' hB hk⟩
  len := fun ⟨_, h, _⟩ => by rw [h]; rfl
section
variable {w : World} {B : Nat} {A : Option Addr} {n c d : Nat}
theorem SliceIs.lit_at {l : List GLit} (h : SliceIs (Enc.lit d) w B A n c l) {i : Nat} (hi : i < n) :
    ∃ (b o : Nat) (x : GLit) (a p q : Hd), A = some ⟨b, o, none⟩ ∧ b < B ∧ Hid (l[i]? = some x) ∧ LitAt d w B x a p q ∧
      w.cell? ⟨b, o + i * 17, none⟩ = some (.int .i64 x.k) ∧ w.cell? ⟨b, o + i * 17 + 1, none⟩ = some (.string x.atom.rel) ∧ w.cell? ⟨b, o + i * 17 + 2, none⟩ = some (a.v) ∧ w.cell? ⟨b, o + i * 17 + 3, none⟩ = some (.int .i64 x.op) ∧ w.cell? ⟨b, o + i * 17 + 4, none⟩ = some (.int .i64 x.l.op) ∧ w.cell? ⟨b, o + i * 17 + 5, none⟩ = some (.string x.l.t.x) ∧ w.cell? ⟨b, o + i * 17 + 6, none⟩ = some (.int .i64 x.l.t.v.k) ∧ w.cell? ⟨b, o + i * 17 + 7, none⟩ = some (.int .i64 x.l.t.v.n) ∧ w.cell? ⟨b, o + i * 17 + 8, none⟩ = some (.string x.l.t.v.s) ∧ w.cell? ⟨b, o + i * 17 + 9, none⟩ = some (p.v) ∧ w.cell? ⟨b, o + i * 17 + 10, none⟩ = some (.int .i64 x.r.op) ∧ w.cell? ⟨b, o + i * 17 + 11, none⟩ = some (.string x.r.t.x) ∧ w.cell? ⟨b, o + i * 17 + 12, none⟩ = some (.int .i64 x.r.t.v.k) ∧ w.cell? ⟨b, o + i * 17 + 13, none⟩ = some (.int .i64 x.r.t.v.n) ∧ w.cell? ⟨b, o + i * 17 + 14, none⟩ = some (.string x.r.t.v.s) ∧ w.cell? ⟨b, o + i * 17 + 15, none⟩ = some (q.v) ∧ w.cell? ⟨b, o + i * 17 + 16, none⟩ = some (.int .i64 x.pos) := by
  obtain ⟨b, o, x, cs, hA, hb, hx, ⟨a, p, q, rfl, h1⟩, hc⟩ := h.at_ hi
  exact ⟨b, o, x, a, p, q, hA, hb, hx, h1, by simpa [Enc.lit] using hc 0 _ rfl, by simpa [Enc.lit] using hc 1 _ rfl, by simpa [Enc.lit] using hc 2 _ rfl, by simpa [Enc.lit] using hc 3 _ rfl, by simpa [Enc.lit] using hc 4 _ rfl, by simpa [Enc.lit] using hc 5 _ rfl, by simpa [Enc.lit] using hc 6 _ rfl, by simpa [Enc.lit] using hc 7 _ rfl, by simpa [Enc.lit] using hc 8 _ rfl, by simpa [Enc.lit] using hc 9 _ rfl, by simpa [Enc.lit] using hc 10 _ rfl, by simpa [Enc.lit] using hc 11 _ rfl, by simpa [Enc.lit] using hc 12 _ rfl, by simpa [Enc.lit] using hc 13 _ rfl, by simpa [Enc.lit] using hc 14 _ rfl, by simpa [Enc.lit] using hc 15 _ rfl, by simpa [Enc.lit] using hc 16 _ rfl⟩
end
theorem facts2 {W : World} {g : Nat} {t : TypeId} {v0 v1 : Value} (h : W.heap[g]? = some (.cells #[v0, v1] t (0, 0))) : W.cell? ⟨g, 0, none⟩ = some v0 ∧ W.cell? ⟨g, 1, none⟩ = some v1 :=
  ⟨(cell_of_row _ _ 0 _ _ _ h).trans rfl, (cell_of_row _ _ 1 _ _ _ h).trans rfl⟩
theorem facts3 {W : World} {g : Nat} {t : TypeId} {v0 v1 v2 : Value} (h : W.heap[g]? = some (.cells #[v0, v1, v2] t (0, 0))) : W.cell? ⟨g, 0, none⟩ = some v0 ∧ W.cell? ⟨g, 1, none⟩ = some v1 ∧ W.cell? ⟨g, 2, none⟩ = some v2 :=
  ⟨(cell_of_row _ _ 0 _ _ _ h).trans rfl, (cell_of_row _ _ 1 _ _ _ h).trans rfl, (cell_of_row _ _ 2 _ _ _ h).trans rfl⟩
theorem facts4 {W : World} {g : Nat} {t : TypeId} {v0 v1 v2 v3 : Value} (h : W.heap[g]? = some (.cells #[v0, v1, v2, v3] t (0, 0))) : W.cell? ⟨g, 0, none⟩ = some v0 ∧ W.cell? ⟨g, 1, none⟩ = some v1 ∧ W.cell? ⟨g, 2, none⟩ = some v2 ∧ W.cell? ⟨g, 3, none⟩ = some v3 :=
  ⟨(cell_of_row _ _ 0 _ _ _ h).trans rfl, (cell_of_row _ _ 1 _ _ _ h).trans rfl, (cell_of_row _ _ 2 _ _ _ h).trans rfl, (cell_of_row _ _ 3 _ _ _ h).trans rfl⟩
theorem facts6 {W : World} {g : Nat} {t : TypeId} {v0 v1 v2 v3 v4 v5 : Value} (h : W.heap[g]? = some (.cells #[v0, v1, v2, v3, v4, v5] t (0, 0))) : W.cell? ⟨g, 0, none⟩ = some v0 ∧ W.cell? ⟨g, 1, none⟩ = some v1 ∧ W.cell? ⟨g, 2, none⟩ = some v2 ∧ W.cell? ⟨g, 3, none⟩ = some v3 ∧ W.cell? ⟨g, 4, none⟩ = some v4 ∧ W.cell? ⟨g, 5, none⟩ = some v5 :=
  ⟨(cell_of_row _ _ 0 _ _ _ h).trans rfl, (cell_of_row _ _ 1 _ _ _ h).trans rfl, (cell_of_row _ _ 2 _ _ _ h).trans rfl, (cell_of_row _ _ 3 _ _ _ h).trans rfl, (cell_of_row _ _ 4 _ _ _ h).trans rfl, (cell_of_row _ _ 5 _ _ _ h).trans rfl⟩
theorem facts17 {W : World} {g : Nat} {t : TypeId} {v0 v1 v2 v3 v4 v5 v6 v7 v8 v9 v10 v11 v12 v13 v14 v15 v16 : Value} (h : W.heap[g]? = some (.cells #[v0, v1, v2, v3, v4, v5, v6, v7, v8, v9, v10, v11, v12, v13, v14, v15, v16] t (0, 0))) : W.cell? ⟨g, 0, none⟩ = some v0 ∧ W.cell? ⟨g, 1, none⟩ = some v1 ∧ W.cell? ⟨g, 2, none⟩ = some v2 ∧ W.cell? ⟨g, 3, none⟩ = some v3 ∧ W.cell? ⟨g, 4, none⟩ = some v4 ∧ W.cell? ⟨g, 5, none⟩ = some v5 ∧ W.cell? ⟨g, 6, none⟩ = some v6 ∧ W.cell? ⟨g, 7, none⟩ = some v7 ∧ W.cell? ⟨g, 8, none⟩ = some v8 ∧ W.cell? ⟨g, 9, none⟩ = some v9 ∧ W.cell? ⟨g, 10, none⟩ = some v10 ∧ W.cell? ⟨g, 11, none⟩ = some v11 ∧ W.cell? ⟨g, 12, none⟩ = some v12 ∧ W.cell? ⟨g, 13, none⟩ = some v13 ∧ W.cell? ⟨g, 14, none⟩ = some v14 ∧ W.cell? ⟨g, 15, none⟩ = some v15 ∧ W.cell? ⟨g, 16, none⟩ = some v16 :=
  ⟨(cell_of_row _ _ 0 _ _ _ h).trans rfl, (cell_of_row _ _ 1 _ _ _ h).trans rfl, (cell_of_row _ _ 2 _ _ _ h).trans rfl, (cell_of_row _ _ 3 _ _ _ h).trans rfl, (cell_of_row _ _ 4 _ _ _ h).trans rfl, (cell_of_row _ _ 5 _ _ _ h).trans rfl, (cell_of_row _ _ 6 _ _ _ h).trans rfl, (cell_of_row _ _ 7 _ _ _ h).trans rfl, (cell_of_row _ _ 8 _ _ _ h).trans rfl, (cell_of_row _ _ 9 _ _ _ h).trans rfl, (cell_of_row _ _ 10 _ _ _ h).trans rfl, (cell_of_row _ _ 11 _ _ _ h).trans rfl, (cell_of_row _ _ 12 _ _ _ h).trans rfl, (cell_of_row _ _ 13 _ _ _ h).trans rfl, (cell_of_row _ _ 14 _ _ _ h).trans rfl, (cell_of_row _ _ 15 _ _ _ h).trans rfl, (cell_of_row _ _ 16 _ _ _ h).trans rfl⟩
/-- a program's two slices -/
structure ProgAt (d : Nat) (w : World) (B : Nat) (x : GProg) (a b : Hd) : Prop where
  decls : SliceIs Enc.decl w B a.A a.n a.c x.decls
  rules : SliceIs (Enc.rule d) w B b.A b.n b.c x.rules
theorem ProgAt.keep {d : Nat} {w w' : World} {x : GProg} {a b : Hd} (h : ProgAt d w w.heap.size x a b) (hb : Below w.heap.size w w') : ProgAt d w' w'.heap.size x a b := ⟨h.decls.mono' hb.size (Kept.of hb.block), h.rules.mono' hb.size (Kept.of hb.block)⟩
def Enc.prog (d : Nat) : Enc GProg where
  sz := 2
  ok := fun w B cs x => ∃ a b : Hd, cs = [a.v, b.v] ∧ ProgAt d w B x a b
  mono := fun hB hk ⟨a, b, h1, h2⟩ => ⟨a, b, h1, ⟨h2.decls.mono' hB hk, h2.rules.mono' hB hk⟩⟩
  len := fun ⟨_, _, h, _⟩ => by rw [h]; rfl
end Go.Proofs.YtplekbpmfaghbaaDoor

namespace Go.Proofs.YtplekbpmfaghbaaDoor
open Go.RowKit
theorem str_empty {s : ByteArray} : s.toList = [] ↔ s.size = 0 := by
  rw [← ba_len]; simp
def rightT (t : GTold) : Bool := if t.x.size = 0 then rightB t.v else singleB 3 t.x && decide (t.v = gv0)
abbrev toldV (t : GTold) : Value := .agg #[.string t.x, .int .i64 t.v.k, .int .i64 t.v.n, .string t.v.s]
theorem gv_zero {v : GV} : v = gv0 ↔ v.k = 0 ∧ v.n = 0 ∧ v.s.toList = [] := by
  cases v
  simp [gv0, ← toList_inj, show (⟨#[]⟩ : ByteArray).toList = [] from by rw [ByteArray.toList_eq]]
set_option maxRecDepth 100000 in
set_option maxHeartbeats 1000000 in
theorem tright_any (t : GTold) (hx : t.x.size ≤ reachN) (w : World) (hW : LexW w) : Calls Tryd.prog 29 #[toldV t] w (RetBool (rightT t) w) := by
  obtain ⟨B, HB⟩ : ∃ B, Hid (B = rightT t) := ⟨_, rfl⟩
  rw [← HB.out]
  have hrb : (w.alloc (.cells #[.string t.x, .int .i64 t.v.k, .int .i64 t.v.n, .string t.v.s] 31)).heap[w.heap.size]? = some (.cells #[.string t.x, .int .i64 t.v.k, .int .i64 t.v.n, .string t.v.s] 31 (0, 0)) := heapNew rfl
  have hba : Below w.heap.size w (w.alloc (.cells #[.string t.x, .int .i64 t.v.k, .int .i64 t.v.n, .string t.v.s] 31)) := belowA (Below.refl _ _) _
  have HR := Lib.hid (fun W => right_any t.v W)
  have HV := Lib.hid (variable_any t.x hx _ (hW.on hba))
  clear hW
  generalize hwb : w.alloc (.cells #[.string t.x, .int .i64 t.v.k, .int .i64 t.v.n, .string t.v.s] 31) = wb at *
  obtain ⟨b0, b1, b2, b3⟩ := facts4 hrb
  have Hlt := Lib.hid (Array.getElem?_eq_some_iff.1 hrb).1
  by_cases h0 : t.x.size = 0
  · have e0 : (t.x.toList == ([] : List UInt8)) = true := by simp [str_empty.2 h0]
    have e1 : t.x.toList.isEmpty = true := by simp [str_empty.2 h0]
    have HE : Hid (B = rightB t.v) := by show _ = _; rw [HB.out]; simp [rightT, h0]
    clear h0 HB
    go_enter Tryd.func29, Tryd.ntmps29
    go_wp2_with fail
    try simp only [hwb]
    go_wp2_with fail
    refine (HR.out _).mono ?_
    rintro e w1 ⟨rfl, hb⟩
    have Hb := Lib.hid hb
    clear hb
    go_wp2_with fail
    go_ret
    exact ⟨by rw [HE.out]; rfl, below_next hba Hb.out⟩
  · have e0 : (t.x.toList == ([] : List UInt8)) = false := by simp [str_empty, h0]
    have e1 : t.x.toList.isEmpty = false := by simp [str_empty, h0]
    have HE : Hid (B = (singleB 3 t.x && decide (t.v = gv0))) := by show _ = _; rw [HB.out]; simp [rightT, h0]
    clear h0 HB
    go_enter Tryd.func29, Tryd.ntmps29
    go_wp2_with fail
    try simp only [hwb]
    go_wp2_with fail
    refine HV.out.mono ?_
    rintro e w1 ⟨rfl, hb⟩
    have Hb := Lib.hid hb
    obtain ⟨c0, c1, c2, c3⟩ := facts4 ((hb.block _ Hlt.out).trans hrb)
    clear hb
    cases hs : singleB 3 t.x with
    | false =>
      have HE2 : Hid (B = false) := by show _ = _; rw [HE.out, hs]; rfl
      clear HE hs
      go_wp2_with fail
      go_ret
      exact ⟨by rw [HE2.out]; rfl, below_next hba Hb.out⟩
    | true =>
      have HE2 : Hid (B = decide (t.v = gv0)) := by show _ = _; rw [HE.out, hs]; rfl
      clear HE hs
      go_wp2_with fail
      all_goals
        go_ret
        refine ⟨?_, below_next hba Hb.out⟩
        have hE := HE2.out
        clear HE2 Hb HR HV c0 c1 c2 c3 b0 b1 b2 b3 hwb hrb hba Hlt
        simp_all [gv_zero]
end Go.Proofs.YtplekbpmfaghbaaDoor

namespace Go.Proofs.YtplekbpmfaghbaaDoor
open Go.RowKit
mutual
def szE : GExp → Int → Int
  | .mk _ t ks, left => szL ks (left - (1 + (((t.x.size + t.v.s.size) / 50 : Nat) : Int)))
def szL : List GExp → Int → Int
  | [], l => l
  | k :: ks, l => if l < 0 then -1 else szL ks (szE k l)
end
theorem szE_def (e : GExp) (l : Int) : szE e l = szL e.kids (l - (1 + (((e.t.x.size + e.t.v.s.size) / 50 : Nat) : Int))) := by
  cases e; rw [szE]; rfl
mutual
theorem szE_le : ∀ (e : GExp) (l : Int), 0 ≤ l → szE e l ≤ l
  | .mk _ t ks, l, h => by
    rw [szE]
    have := szL_le ks (l - (1 + (((t.x.size + t.v.s.size) / 50 : Nat) : Int)))
    omega
theorem szL_le : ∀ (ks : List GExp) (l : Int), szL ks l ≤ max l (-1)
  | [], l => by rw [szL]; omega
  | k :: ks, l => by
    rw [szL]
    split
    · omega
    · have h1 := szE_le k l (by omega)
      have h2 := szL_le ks (szE k l)
      omega
end
abbrev expV (e : GExp) (A : Option Addr) (n c : Nat) : Value := .agg #[.int .i64 e.op, .string e.t.x, .int .i64 e.t.v.k, .int .i64 e.t.v.n, .string e.t.v.s, .slice A n c]
end Go.Proofs.YtplekbpmfaghbaaDoor

namespace Go.Proofs.YtplekbpmfaghbaaDoor
open Go.RowKit
def zT : GTold := ⟨⟨#[]⟩, gv0⟩
instance : DecidableEq GTold := fun a b => if h : a.x = b.x ∧ a.v = b.v then isTrue (by cases a; cases b; simp_all) else isFalse (fun e => h (by rw [e]; exact ⟨rfl, rfl⟩))
theorem told_zero {t : GTold} : t = zT ↔ t.x.toList = [] ∧ t.v.k = 0 ∧ t.v.n = 0 ∧ t.v.s.toList = [] := by
  rw [← gv_zero]
  cases t
  simp [zT, ← toList_inj, show (⟨#[]⟩ : ByteArray).toList = [] from by rw [ByteArray.toList_eq]]
theorem told_not_zero {t : GTold} (h : t ≠ zT) : (¬ t.x.toList = []) ∨ (t.x.toList = [] ∧ ¬ t.v.k = 0) ∨ (t.x.toList = [] ∧ t.v.k = 0 ∧ ¬ t.v.n = 0) ∨ (t.x.toList = [] ∧ t.v.k = 0 ∧ t.v.n = 0 ∧ ¬ t.v.s.toList = []) := by
  rw [ne_eq, told_zero] at h
  by_cases h1 : t.x.toList = [] <;> by_cases h2 : t.v.k = 0 <;> by_cases h3 : t.v.n = 0 <;> by_cases h4 : t.v.s.toList = [] <;> simp_all
def opE (e : GExp) : Bool := (decide (1 ≤ e.op) && decide (e.op ≤ 3)) && decide (e.t = zT)
theorem opE_lo {e : GExp} (h : e.op < 1) : opE e = false := by
  have h' : ¬ 1 ≤ e.op := by omega
  simp [opE, h']
theorem opE_hi {e : GExp} (h : 3 < e.op) : opE e = false := by
  have h' : ¬ e.op ≤ 3 := by omega
  simp [opE, h']
/-- is an expression as told, and at most so deep? -/
def rightE : Nat → GExp → Bool
  | 0, e => decide (e.op = 0) && (e.kids.isEmpty && rightT e.t)
  | k + 1, e => if e.op = 0 then e.kids.isEmpty && rightT e.t else opE e && (match e.kids with | [a, b] => rightE k a && rightE k b | _ => false)
theorem rightE_leaf {k : Nat} {e : GExp} (h : e.op = 0) : rightE k e = (e.kids.isEmpty && rightT e.t) := by
  cases k <;> simp [rightE, h]
theorem rightE_flat {e : GExp} (h : ¬ e.op = 0) : rightE 0 e = false := by simp [rightE, h]
theorem rightE_bad {k : Nat} {e : GExp} (h : ¬ e.op = 0) (h2 : opE e = false) : rightE k e = false := by
  cases k <;> simp [rightE, h, h2]
theorem rightE_kids {k : Nat} {e : GExp} (h : ¬ e.op = 0) (h2 : e.kids.length ≠ 2) : rightE k e = false := by
  cases k with
  | zero => exact rightE_flat h
  | succ k =>
    simp only [rightE, h, if_false]
    match hk : e.kids, h2 with
    | [], _ => simp
    | [a], _ => simp
    | [a, b], h2 => exact absurd rfl h2
    | a :: b :: c :: l, _ => simp
theorem rightE_two {k : Nat} {e a b : GExp} (h : ¬ e.op = 0) (h2 : opE e = true) (hk : e.kids = [a, b]) : rightE (k + 1) e = (rightE k a && rightE k b) := by
  simp [rightE, h, h2, hk]
def RetDeep (k : Nat) (e : GExp) (w : World) (ex : Ending) (w' : World) : Prop := ∃ m : Int, ex = .returned (.int .i64 m) ∧ decide (0 ≤ m) = rightE k e ∧ -1 ≤ m ∧ m ≤ k ∧ Below w.heap.size w w'
set_option maxRecDepth 100000 in
set_option maxHeartbeats 4000000 in
theorem deep_any : ∀ (k : Nat) (e : GExp) (A : Option Addr) (n c d : Nat) (w : World), k ≤ 20 → SliceIs (Enc.exp d) w w.heap.size A n c e.kids → e.t.x.size ≤ reachN → LexW w →
    Calls Tryd.prog 18 #[.agg #[.int .i64 e.op, .string e.t.x, .int .i64 e.t.v.k, .int .i64 e.t.v.n, .string e.t.v.s, .slice A n c], .int .i64 (k : Int)] w (RetDeep k e w) := by
  intro k
  induction k using Nat.strongRecOn with
  | ind k ih =>
    intro e A n c d w hk20 hk hx hW
    have IH := Lib.hid ih
    have hn := hk.bound
    have HK := Lib.hid hk
    have Hlen := Lib.hid hk.1
    have HW := Lib.hid hW
    have Hx := Lib.hid hx
    have hrb : (w.alloc (.cells #[.int .i64 e.op, .string e.t.x, .int .i64 e.t.v.k, .int .i64 e.t.v.n, .string e.t.v.s, .slice A n c] 34)).heap[w.heap.size]? = some (.cells #[.int .i64 e.op, .string e.t.x, .int .i64 e.t.v.k, .int .i64 e.t.v.n, .string e.t.v.s, .slice A n c] 34 (0, 0)) := heapNew rfl
    have hba : Below w.heap.size w (w.alloc (.cells #[.int .i64 e.op, .string e.t.x, .int .i64 e.t.v.k, .int .i64 e.t.v.n, .string e.t.v.s, .slice A n c] 34)) := belowA (Below.refl _ _) _
    clear hk hW hx ih
    obtain ⟨P, HP⟩ : ∃ P, Hid (P = RetDeep k e w) := ⟨_, rfl⟩
    rw [← HP.out]
    have HBad : Hid (rightE k e = false → ∀ w', Below w.heap.size w w' → P (.returned (.int .i64 (-1))) w') := fun h w' hb => by rw [HP.out]; exact ⟨-1, rfl, by rw [h]; rfl, by omega, by omega, hb⟩
    obtain ⟨b0, b1, b2, b3, b4, b5⟩ := facts6 hrb
    have Hlt := Lib.hid (Array.getElem?_eq_some_iff.1 hrb).1
    have HR := Lib.hid (tright_any e.t Hx.out (w.alloc (.cells #[.int .i64 e.op, .string e.t.x, .int .i64 e.t.v.k, .int .i64 e.t.v.n, .string e.t.v.s, .slice A n c] 34)) (HW.out.on hba))
    by_cases h0 : e.op = 0
    · have q0 : (e.op == 0) = true := by simp [h0]
      have q1 : e.op < 1 := by omega
      have HL : Hid (rightE k e = (e.kids.isEmpty && rightT e.t)) := rightE_leaf h0
      by_cases hn0 : n = 0
      · have q2 : ((n : Int) == 0) = true := by simp [hn0]
        have hke : e.kids.isEmpty = true := by have := Hlen.out; simp; exact List.eq_nil_of_length_eq_zero (by omega)
        cases hr : rightT e.t with
        | true =>
          have HG : Hid (∀ w', Below w.heap.size w w' → P (.returned (.int .i64 0)) w') := fun w' hb => by rw [HP.out]; exact ⟨0, rfl, by rw [HL.out, hke, hr]; rfl, by omega, by omega, hb⟩
          rw [hr] at HR
          clear HP hke hr h0 hn0 HL HBad HK
          generalize hwb : (w.alloc (.cells #[.int .i64 e.op, .string e.t.x, .int .i64 e.t.v.k, .int .i64 e.t.v.n, .string e.t.v.s, .slice A n c] 34)) = wb at *
          go_enter Tryd.func18, Tryd.ntmps18
          go_wp2_with fail
          try simp only [hwb]
          go_wp2_with fail
          refine HR.out.mono ?_
          rintro e1 w1 ⟨rfl, hb⟩
          have Hb := Lib.hid hb
          clear hb
          go_wp2_with fail
          exact HG.out _ (below_next hba Hb.out)
        | false =>
          have HG : Hid (∀ w', Below w.heap.size w w' → P (.returned (.int .i64 (-1))) w') := HBad.out (by rw [HL.out, hr]; simp)
          rw [hr] at HR
          clear HP hke hr h0 hn0 HL HBad HK
          generalize hwb : (w.alloc (.cells #[.int .i64 e.op, .string e.t.x, .int .i64 e.t.v.k, .int .i64 e.t.v.n, .string e.t.v.s, .slice A n c] 34)) = wb at *
          go_enter Tryd.func18, Tryd.ntmps18
          go_wp2_with fail
          try simp only [hwb]
          go_wp2_with fail
          refine HR.out.mono ?_
          rintro e1 w1 ⟨rfl, hb⟩
          have Hb := Lib.hid hb
          obtain ⟨c0, c1, c2, c3, c4, c5⟩ := facts6 ((hb.block _ Hlt.out).trans hrb)
          clear hb
          go_wp2_with fail
          exact HG.out _ (below_next hba Hb.out)
      · have q2 : ((n : Int) == 0) = false := by rw [beq_eq_false_iff_ne]; omega
        have hke : e.kids.isEmpty = false := by
          have := Hlen.out
          cases h : e.kids with
          | nil => rw [h] at this; simp at this; omega
          | cons a l => rfl
        have HG : Hid (∀ w', Below w.heap.size w w' → P (.returned (.int .i64 (-1))) w') := HBad.out (by rw [HL.out, hke]; simp)
        clear HP hke h0 hn0 HL HBad HK HR
        go_enter Tryd.func18, Tryd.ntmps18
        go_wp2_with fail
        exact HG.out _ hba
    · have q0 : (e.op == 0) = false := by simp [h0]
      by_cases h1 : e.op < 1
      · have HG : Hid (∀ w', Below w.heap.size w w' → P (.returned (.int .i64 (-1))) w') := HBad.out (rightE_bad h0 (opE_lo (by omega)))
        clear HP h0 HBad HK HR
        go_enter Tryd.func18, Tryd.ntmps18
        go_wp2_with fail
        exact HG.out _ hba
      by_cases h3 : 3 < e.op
      · have HG : Hid (∀ w', Below w.heap.size w w' → P (.returned (.int .i64 (-1))) w') := HBad.out (rightE_bad h0 (opE_hi (by omega)))
        clear HP h0 HBad HK HR
        go_enter Tryd.func18, Tryd.ntmps18
        go_wp2_with fail
        exact HG.out _ hba
      by_cases hn2 : n = 2
      rotate_left
      · have q2 : ((n : Int) != 2) = true := by simp; omega
        have HG : Hid (∀ w', Below w.heap.size w w' → P (.returned (.int .i64 (-1))) w') := HBad.out (rightE_kids h0 (by have := Hlen.out; omega))
        clear HP h0 HBad HK HR
        go_enter Tryd.func18, Tryd.ntmps18
        go_wp2_with fail
        exact HG.out _ hba
      subst hn2
      by_cases hz : e.t = zT
      rotate_left
      · have HG : Hid (∀ w', Below w.heap.size w w' → P (.returned (.int .i64 (-1))) w') := HBad.out (rightE_bad h0 (by simp [opE, hz]))
        rcases told_not_zero hz with hz | ⟨z0, hz⟩ | ⟨z0, z1, hz⟩ | ⟨z0, z1, z2, hz⟩ <;>
        · clear HP h0 HBad HK HR
          go_enter Tryd.func18, Tryd.ntmps18
          go_wp2_with fail
          exact HG.out _ (belowA (Below.refl _ _) _)
      have hop : opE e = true := by
        have : 1 ≤ e.op := by omega
        have : e.op ≤ 3 := by omega
        simp [opE, *]
      obtain ⟨z0, z1, z2, z3⟩ := told_zero.1 hz
      by_cases hk0 : k = 0
      · have HG : Hid (∀ w', Below w.heap.size w w' → P (.returned (.int .i64 (-1))) w') := HBad.out (by rw [hk0]; exact rightE_flat h0)
        have q4 : ((k : Int) == 0) = true := by simp [hk0]
        clear HP h0 HBad HK HR hop hz
        go_enter Tryd.func18, Tryd.ntmps18
        go_wp2_with fail
        exact HG.out _ (belowA (Below.refl _ _) _)
      obtain ⟨k', hk'⟩ : ∃ k', k = k' + 1 := ⟨k - 1, by omega⟩
      have q4 : ((k : Int) == 0) = false := by rw [beq_eq_false_iff_ne]; omega
      have q5 : (k : Int) - 1 = (k' : Int) := by omega
      have q7 : wrap64 (k' : Int) = (k' : Int) := by unfold wrap64; omega
      have q6 : IntKind.i64.wrap (k' : Int) = (k' : Int) := by rw [IntWalk.i64_left]; exact q7
      obtain ⟨b, o, x, Ax, nx, cx, dx, rfl, hbb, hkx, hdx, x0, x1, x2, x3, x4, x5, fx0, fx1, fx2, hkkx⟩ := HK.out.exp_at (i := 0) (by omega)
      obtain ⟨b', o', y, Ay, ny, cy, dy, hAy, hbb', hky, hdy, y0, y1, y2, y3, y4, y5, fy0, fy1, fy2, hkky⟩ := HK.out.exp_at (i := 1) (by omega)
      injection hAy with hAy
      injection hAy with e1 e2 _
      subst e1 e2
      have hks : e.kids = [x, y] := by
        have h1 := hkx.out
        have h2 := hky.out
        have h3 := Hlen.out
        match e.kids, h1, h2, h3 with
        | [a, b], h1, h2, _ => simp at h1 h2; rw [h1, h2]
      have HT : Hid (rightE k e = (rightE k' x && rightE k' y)) := by show _ = _; rw [hk']; exact rightE_two h0 hop hks
      have HGood : Hid (∀ (m : Int) w', decide (0 ≤ m) = (rightE k' x && rightE k' y) → -1 ≤ m → m ≤ k → Below w.heap.size w w' → P (.returned (.int .i64 m)) w') := fun m w' h h1 h2 hb => by rw [HP.out]; exact ⟨m, rfl, by rw [HT.out]; exact h, h1, h2, hb⟩
      have ex : e.t.x = ⟨#[]⟩ := by rw [hz]; rfl
      have ek : e.t.v.k = 0 := by rw [hz]; rfl
      have en : e.t.v.n = 0 := by rw [hz]; rfl
      have es : e.t.v.s = ⟨#[]⟩ := by rw [hz]; rfl
      clear z0 z1 z2 z3 HR
      simp only [ex, ek, en, es] at hba hrb b0 b1 b2 b3 b4 b5 Hlt
      have CX : Hid (∀ W, Below (w.alloc (.cells #[.int .i64 e.op, .string ⟨#[]⟩, .int .i64 0, .int .i64 0, .string ⟨#[]⟩, .slice (some ⟨b, o, none⟩) 2 c] 34)).heap.size (w.alloc (.cells #[.int .i64 e.op, .string ⟨#[]⟩, .int .i64 0, .int .i64 0, .string ⟨#[]⟩, .slice (some ⟨b, o, none⟩) 2 c] 34)) W → Calls Tryd.prog 18 #[.agg #[.int .i64 x.op, .string x.t.x, .int .i64 x.t.v.k, .int .i64 x.t.v.n, .string x.t.v.s, .slice Ax nx cx], .int .i64 (k' : Int)] W (RetDeep k' x W)) := fun W hW =>
        IH.out k' (by omega) x Ax nx cx dx W (by omega) ((hkkx.keep hba).keep hW) fx1 ((HW.out.on hba).on hW)
      have CY : Hid (∀ W, Below (w.alloc (.cells #[.int .i64 e.op, .string ⟨#[]⟩, .int .i64 0, .int .i64 0, .string ⟨#[]⟩, .slice (some ⟨b, o, none⟩) 2 c] 34)).heap.size (w.alloc (.cells #[.int .i64 e.op, .string ⟨#[]⟩, .int .i64 0, .int .i64 0, .string ⟨#[]⟩, .slice (some ⟨b, o, none⟩) 2 c] 34)) W → Calls Tryd.prog 18 #[.agg #[.int .i64 y.op, .string y.t.x, .int .i64 y.t.v.k, .int .i64 y.t.v.n, .string y.t.v.s, .slice Ay ny cy], .int .i64 (k' : Int)] W (RetDeep k' y W)) := fun W hW =>
        IH.out k' (by omega) y Ay ny cy dy W (by omega) ((hkky.keep hba).keep hW) fy1 ((HW.out.on hba).on hW)
      simp only [Nat.zero_mul, Nat.add_zero, Nat.one_mul] at x0 x1 x2 x3 x4 x5 y0 y1 y2 y3 y4 y5
      have Hk := Lib.hid (fun W (hW : Below (w.alloc (.cells #[.int .i64 e.op, .string ⟨#[]⟩, .int .i64 0, .int .i64 0, .string ⟨#[]⟩, .slice (some ⟨b, o, none⟩) 2 c] 34)).heap.size (w.alloc (.cells #[.int .i64 e.op, .string ⟨#[]⟩, .int .i64 0, .int .i64 0, .string ⟨#[]⟩, .slice (some ⟨b, o, none⟩) 2 c] 34)) W) => show W.cell? ⟨w.heap.size, 5, none⟩ = some (.slice (some ⟨b, o, none⟩) 2 c) ∧ W.cell? ⟨b, o, none⟩ = some (.int .i64 x.op) ∧ W.cell? ⟨b, o + 1, none⟩ = some (.string x.t.x) ∧ W.cell? ⟨b, o + 2, none⟩ = some (.int .i64 x.t.v.k) ∧ W.cell? ⟨b, o + 3, none⟩ = some (.int .i64 x.t.v.n) ∧ W.cell? ⟨b, o + 4, none⟩ = some (.string x.t.v.s) ∧ W.cell? ⟨b, o + 5, none⟩ = some (.slice Ax nx cx) ∧ W.cell? ⟨b, o + 6, none⟩ = some (.int .i64 y.op) ∧ W.cell? ⟨b, o + 6 + 1, none⟩ = some (.string y.t.x) ∧ W.cell? ⟨b, o + 6 + 2, none⟩ = some (.int .i64 y.t.v.k) ∧ W.cell? ⟨b, o + 6 + 3, none⟩ = some (.int .i64 y.t.v.n) ∧ W.cell? ⟨b, o + 6 + 4, none⟩ = some (.string y.t.v.s) ∧ W.cell? ⟨b, o + 6 + 5, none⟩ = some (.slice Ay ny cy) from ⟨below_cell hW b5, below_cell hW (cellA x0), below_cell hW (cellA x1), below_cell hW (cellA x2), below_cell hW (cellA x3), below_cell hW (cellA x4), below_cell hW (cellA x5), below_cell hW (cellA y0), below_cell hW (cellA y1), below_cell hW (cellA y2), below_cell hW (cellA y3), below_cell hW (cellA y4), below_cell hW (cellA y5)⟩)
      have r5 : k' + 1 = k := hk'.symm
      have R5 := Lib.hid r5
      clear HP h0 HBad HK hop IH hks HT hkx hky hk' r5 fx0 fx1 fx2 fy0 fy1 fy2 hkkx hkky hdx hdy x0 x1 x2 x3 x4 x5 y0 y1 y2 y3 y4 y5 hbb hbb' hz hk0 Hx Hlen
      generalize hX : rightE k' x = X at *
      generalize hY : rightE k' y = Y at *
      go_enter Tryd.func18, Tryd.ntmps18
      go_wp2_with fail
      generalize (w.alloc (.cells #[.int .i64 e.op, .string ⟨#[]⟩, .int .i64 0, .int .i64 0, .string ⟨#[]⟩, .slice (some ⟨b, o, none⟩) 2 c] 34)) = wb at *
      have hb1 := Below.refl wb.heap.size wb
      have Hfirst : Hid True := trivial
      go_region_held3 (fun W => W.cell? ⟨w.heap.size, 5, none⟩ = some (.slice (some ⟨b, o, none⟩) 2 c) ∧ W.cell? ⟨b, o, none⟩ = some (.int .i64 x.op) ∧ W.cell? ⟨b, o + 1, none⟩ = some (.string x.t.x) ∧ W.cell? ⟨b, o + 2, none⟩ = some (.int .i64 x.t.v.k) ∧ W.cell? ⟨b, o + 3, none⟩ = some (.int .i64 x.t.v.n) ∧ W.cell? ⟨b, o + 4, none⟩ = some (.string x.t.v.s) ∧ W.cell? ⟨b, o + 5, none⟩ = some (.slice Ax nx cx) ∧ W.cell? ⟨b, o + 6, none⟩ = some (.int .i64 y.op) ∧ W.cell? ⟨b, o + 6 + 1, none⟩ = some (.string y.t.x) ∧ W.cell? ⟨b, o + 6 + 2, none⟩ = some (.int .i64 y.t.v.k) ∧ W.cell? ⟨b, o + 6 + 3, none⟩ = some (.int .i64 y.t.v.n) ∧ W.cell? ⟨b, o + 6 + 4, none⟩ = some (.string y.t.v.s) ∧ W.cell? ⟨b, o + 6 + 5, none⟩ = some (.slice Ay ny cy))
        (first
          | (refine Hk.out _ ?_; (repeat (first | with_reducible exact Below.refl _ _ | with_reducible assumption | with_reducible refine Below.drew ?_ | with_reducible refine belowA ?_ _)); done)
          | go_keep)
        ((first
          | (go_at_call 18
             clear Hfirst
             refine (CX.out _ (Below.refl _ _).drew).mono ?_
             rintro e1 w1 ⟨m1, rfl, hm1, l1, u1, hq1⟩
             have hb1 : Below wb.heap.size wb w1 := ((Below.refl wb.heap.size wb).drew).trans hq1
             have Hm1 := Lib.hid hm1
             clear hq1 hm1)
          | (go_at_call 18
             refine (CY.out _ hb1).mono ?_
             rintro e1 w2 ⟨m2, rfl, hm2, l2, u2, hq2⟩
             have hb2 : Below wb.heap.size wb w2 := hb1.trans (hq2.mono hb1.size)
             have Hm2 := Lib.hid hm2
             clear hq2 hm2)))
      have HB2 : Hid (Below w.heap.size w w2) := below_next hba hb2
      have K0 : (k' : Int) ≤ (k : Int) - 1 := by have := R5.out; omega
      clear Hk CX CY b0 b1 b2 b3 b4 b5 hrb hb1 hb2
      by_cases p1 : m1 < 0
      · have HG : Hid (∀ w', Below w.heap.size w w' → P (.returned (.int .i64 (-1))) w') := fun w' hb => HGood.out (-1) w' (by
          have h1 := Hm1.out
          have h2 : decide (0 ≤ m1) = false := by simp; omega
          rw [← hX, ← h1, h2]; rfl) (by omega) (by omega) hb
        clear HGood Hm1 Hm2
        go_wp2_with fail
        exact HG.out _ HB2.out
      by_cases p2 : m2 < 0
      · have HG : Hid (∀ w', Below w.heap.size w w' → P (.returned (.int .i64 (-1))) w') := fun w' hb => HGood.out (-1) w' (by
          have h1 := Hm2.out
          have h2 : decide (0 ≤ m2) = false := by simp; omega
          rw [← hY, ← h1, h2]; simp) (by omega) (by omega) hb
        clear HGood Hm1 Hm2
        go_wp2_with fail
        exact HG.out _ HB2.out
      have hX1 : X = true := by rw [← hX, ← Hm1.out]; simp; omega
      have hY1 : Y = true := by rw [← hY, ← Hm2.out]; simp; omega
      have HG : Hid (∀ (m : Int) w', 0 ≤ m → m ≤ (k : Int) → Below w.heap.size w w' → P (.returned (.int .i64 m)) w') := fun m w' h1 h2 hb => HGood.out m w' (by rw [hX1, hY1]; simp; omega) (by omega) h2 hb
      clear HGood Hm1 Hm2 hX hY hX1 hY1
      by_cases p3 : m1 ≤ m2
      · have e3 : max m1 m2 = m2 := by omega
        have e4 : wrap64 (1 + m2) = 1 + m2 := by unfold wrap64; omega
        go_wp2_with fail
        exact HG.out _ _ (by omega) (by omega) HB2.out
      · have e3 : max m1 m2 = m1 := by omega
        have e4 : wrap64 (1 + m1) = 1 + m1 := by unfold wrap64; omega
        go_wp2_with fail
        exact HG.out _ _ (by omega) (by omega) HB2.out
set_option maxRecDepth 100000 in
set_option maxHeartbeats 1000000 in
theorem rightExp_any (e : GExp) (A : Option Addr) (n c d : Nat) (w : World) (hk : SliceIs (Enc.exp d) w w.heap.size A n c e.kids) (hx : e.t.x.size ≤ reachN) (hW : LexW w) :
    Calls Tryd.prog 13 #[.agg #[.int .i64 e.op, .string e.t.x, .int .i64 e.t.v.k, .int .i64 e.t.v.n, .string e.t.v.s, .slice A n c]] w (RetBool (rightE 20 e) w) := by
  have hrb : (w.alloc (.cells #[.int .i64 e.op, .string e.t.x, .int .i64 e.t.v.k, .int .i64 e.t.v.n, .string e.t.v.s, .slice A n c] 34)).heap[w.heap.size]? = some (.cells #[.int .i64 e.op, .string e.t.x, .int .i64 e.t.v.k, .int .i64 e.t.v.n, .string e.t.v.s, .slice A n c] 34 (0, 0)) := heapNew rfl
  have hba : Below w.heap.size w (w.alloc (.cells #[.int .i64 e.op, .string e.t.x, .int .i64 e.t.v.k, .int .i64 e.t.v.n, .string e.t.v.s, .slice A n c] 34)) := belowA (Below.refl _ _) _
  have HC := Lib.hid (deep_any 20 e A n c d _ (by omega) (hk.keep hba) hx (hW.on hba))
  obtain ⟨b0, b1, b2, b3, b4, b5⟩ := facts6 hrb
  clear hk hx hW hrb
  generalize hwb : (w.alloc (.cells #[.int .i64 e.op, .string e.t.x, .int .i64 e.t.v.k, .int .i64 e.t.v.n, .string e.t.v.s, .slice A n c] 34)) = wb at *
  go_enter Tryd.func13, Tryd.ntmps13
  go_wp2_with fail
  try simp only [hwb]
  go_wp2_with fail
  refine HC.out.mono ?_
  rintro e1 w1 ⟨m, rfl, hm, -, -, hb⟩
  have Hm := Lib.hid hm
  have Hb := Lib.hid hb
  clear hm hb
  go_wp2_with fail
  go_ret
  exact ⟨by rw [← Hm.out]; rfl, below_next hba Hb.out⟩
end Go.Proofs.YtplekbpmfaghbaaDoor

namespace Go.Proofs.YtplekbpmfaghbaaDoor
open Go.RowKit
def bndI (n : Int) : Bool := decide (-2147483647 ≤ n) && decide (n ≤ 2147483647)
def ofW (n : Int) : GV × Int := if bndI n then (⟨1, n, ⟨#[]⟩⟩, 0) else (gv0, 10)
def termS (f : ByteArray → Option GV) (t : GTold) : GV × Int :=
  if t.x.size = 0 then (if rightB t.v then (t.v, 0) else (gv0, 2))
  else match f t.x with
    | some v => if rightB v then (v, 0) else (gv0, 13)
    | none => (gv0, 13)
def numV (p : GV × Int) : Int × Int := if p.2 ≠ 0 then (0, p.2) else if p.1.k ≠ 1 then (0, 7) else (p.1.n, 0)
def opN (o a b : Int) : Int := if o = 1 then a + b else if o = 2 then a - b else a * b
def evalS (f : ByteArray → Option GV) : Nat → GExp → GV × Int
  | 0, e => termS f e.t
  | k + 1, e => if e.op = 0 then termS f e.t else match e.kids with
    | [a, b] =>
      if (numV (evalS f k a)).2 ≠ 0 then (gv0, (numV (evalS f k a)).2)
      else if (numV (evalS f k b)).2 ≠ 0 then (gv0, (numV (evalS f k b)).2)
      else ofW (opN e.op (numV (evalS f k a)).1 (numV (evalS f k b)).1)
    | _ => (gv0, 2)
def cmpS (op : Int) (a b : GV) : Bool := if op = 1 then decide (a = b) else if op = 2 then decide (a ≠ b) else if op = 3 then decide (a.n < b.n) else if op = 4 then decide (a.n ≤ b.n) else if op = 5 then decide (b.n < a.n) else decide (b.n ≤ a.n)
def holdsS (op : Int) (a b : GV) : Bool × Int :=
  if op < 1 ∨ 6 < op ∨ rightB a = false ∨ rightB b = false then (false, 2)
  else if 3 ≤ op ∧ (a.k ≠ 1 ∨ b.k ≠ 1) then (false, 7) else (cmpS op a b, 0)
theorem rightB_num {n : Int} (h : bndI n = true) : rightB ⟨1, n, ⟨#[]⟩⟩ = true := by
  unfold bndI at h
  simp only [Bool.and_eq_true, decide_eq_true_eq] at h
  have e : (⟨#[]⟩ : ByteArray).size = 0 := rfl
  simp [rightB, h.1, h.2, e]
theorem termS_ok {f : ByteArray → Option GV} {t : GTold} (h : (termS f t).2 = 0) : rightB (termS f t).1 = true := by
  unfold termS at h ⊢
  split at h
  · rename_i h0
    rw [if_pos h0]
    split at h
    · rename_i h1; rw [if_pos h1]; exact h1
    · cases h
  · rename_i h0
    rw [if_neg h0]
    split at h
    · rename_i v hv
      split at h
      · rename_i h1; rw [if_pos h1]; exact h1
      · cases h
    · cases h
theorem ofW_ok {n : Int} (h : (ofW n).2 = 0) : rightB (ofW n).1 = true := by
  unfold ofW at h ⊢
  split at h
  · rename_i h1; rw [if_pos h1]; exact rightB_num h1
  · cases h
theorem evalS_leaf {f : ByteArray → Option GV} {k : Nat} {e : GExp} (h : e.op = 0) : evalS f k e = termS f e.t := by
  cases k <;> simp [evalS, h]
theorem evalS_two {f : ByteArray → Option GV} {k : Nat} {e a b : GExp} (h : ¬ e.op = 0) (hk : e.kids = [a, b]) : evalS f (k + 1) e = if (numV (evalS f k a)).2 ≠ 0 then (gv0, (numV (evalS f k a)).2)
      else if (numV (evalS f k b)).2 ≠ 0 then (gv0, (numV (evalS f k b)).2)
      else ofW (opN e.op (numV (evalS f k a)).1 (numV (evalS f k b)).1) := by
  rw [evalS, if_neg h, hk]
theorem evalS_ok {f : ByteArray → Option GV} : ∀ {k : Nat} {e : GExp}, (evalS f k e).2 = 0 → rightB (evalS f k e).1 = true
  | 0, e, h => termS_ok h
  | k + 1, e, h => by
    by_cases h0 : e.op = 0
    · rw [evalS_leaf h0] at h ⊢; exact termS_ok h
    rw [evalS, if_neg h0] at h ⊢
    split at h
    · rename_i a b hk
      split at h
      · rename_i h1; exact absurd h h1
      · rename_i h1
        rw [if_neg h1]
        split at h
        · rename_i h2; exact absurd h h2
        · rename_i h2
          rw [if_neg h2]
          exact ofW_ok h
    · cases h
theorem numV_bnd {f : ByteArray → Option GV} {k : Nat} {e : GExp} : -2147483647 ≤ (numV (evalS f k e)).1 ∧ (numV (evalS f k e)).1 ≤ 2147483647 := by
  unfold numV
  split
  · exact ⟨(by decide : (-2147483647 : Int) ≤ 0), (by decide : (0 : Int) ≤ 2147483647)⟩
  · rename_i h
    split
    · exact ⟨(by decide : (-2147483647 : Int) ≤ 0), (by decide : (0 : Int) ≤ 2147483647)⟩
    · rename_i h1
      have := evalS_ok (Decidable.not_not.1 h)
      rw [rightB, if_pos (Decidable.not_not.1 h1)] at this
      simp only [Bool.and_eq_true, decide_eq_true_eq] at this
      exact ⟨this.1.2, this.2⟩
theorem mul_bnd {a b m : Int} (ha : -m ≤ a) (ha' : a ≤ m) (hb : -m ≤ b) (hb' : b ≤ m) : -(m * m) ≤ a * b ∧ a * b ≤ m * m := by
  have h1 := Int.mul_nonneg (show 0 ≤ m - a by omega) (show 0 ≤ m - b by omega)
  have h2 := Int.mul_nonneg (show 0 ≤ m + a by omega) (show 0 ≤ m + b by omega)
  have h3 := Int.mul_nonneg (show 0 ≤ m - a by omega) (show 0 ≤ m + b by omega)
  have h4 := Int.mul_nonneg (show 0 ≤ m + a by omega) (show 0 ≤ m - b by omega)
  simp only [Int.sub_mul, Int.mul_sub, Int.add_mul, Int.mul_add] at h1 h2 h3 h4
  have e1 := Int.mul_comm m a
  have e2 := Int.mul_comm m b
  constructor <;> omega
theorem opN_bnd {o a b : Int} (ha : -2147483647 ≤ a ∧ a ≤ 2147483647) (hb : -2147483647 ≤ b ∧ b ≤ 2147483647) : -9223372036854775808 ≤ opN o a b ∧ opN o a b ≤ 9223372036854775807 := by
  have := mul_bnd (m := 2147483647) ha.1 ha.2 hb.1 hb.2
  unfold opN
  split
  · omega
  · split
    · omega
    · omega
end Go.Proofs.YtplekbpmfaghbaaDoor

namespace Go.Proofs.YtplekbpmfaghbaaDoor
open Go.RowKit
def zeroV : GV := ⟨0, 0, ⟨#[]⟩⟩
theorem zero_value (w : World) : (zeroValue 25).run Tryd.prog w = .ok zeroV.v w := by kernel_rfl
def gvs (l : List (ByteArray × GV)) : List (ByteArray × Value) := l.map fun p => (p.1, p.2.v)
theorem gvs_get (l : List (ByteArray × GV)) (s : ByteArray) : kvGet (gvs l) s = (kvGet l s).map GV.v := by
  induction l with
  | nil => rfl
  | cons p l ih =>
    show kvGet ((p.1, p.2.v) :: gvs l) s = _
    rw [kvGet_cons, kvGet_cons, ih]
    split <;> rfl
end Go.Proofs.YtplekbpmfaghbaaDoor

namespace Go.Proofs.YtplekbpmfaghbaaDoor
open Go.RowKit
/-- a map's value, nil or not -/
def MapV (w : World) (v : Value) (kvs : List (ByteArray × GV)) : Prop := (v = .map none ∧ kvs = []) ∨ ∃ g, v = .map (some g) ∧ MapIs w g (gvs kvs)
theorem mapV_lookup_ok {w : World} {v : Value} {kvs : List (ByteArray × GV)} (h : MapV w v kvs) (s : ByteArray) :
    (Instr.lookup 56 v (.string s) true).run Tryd.prog w = .ok (.tuple #[((kvGet kvs s).getD zeroV).v, .bool (kvGet kvs s).isSome]) w := by
  rcases h with ⟨rfl, rfl⟩ | ⟨g, rfl, h⟩
  · exact lookup_nil_ok Tryd.underlying56 Tryd.underlying9 (zero_value _) s
  · rw [h.lookup_ok Tryd.underlying56 Tryd.underlying9 (zero_value _) s, gvs_get]
    cases kvGet kvs s <;> rfl
theorem MapV.below {w w' : World} {v : Value} {kvs : List (ByteArray × GV)} (h : MapV w v kvs) (hb : Below w.heap.size w w') : MapV w' v kvs := by
  rcases h with ⟨rfl, rfl⟩ | ⟨g, rfl, h⟩
  · exact .inl ⟨rfl, rfl⟩
  · exact .inr ⟨g, rfl, h.below hb h.lt⟩
/-- the value is a map that tells f -/
def EnvIs (w : World) (v : Value) (f : ByteArray → Option GV) : Prop := ∃ kvs, MapV w v kvs ∧ (kvs.map Prod.fst).Nodup ∧ ∀ s, kvGet kvs s = f s
theorem EnvIs.below {w w' : World} {v : Value} {f : ByteArray → Option GV} (h : EnvIs w v f) (hb : Below w.heap.size w w') : EnvIs w' v f := by
  obtain ⟨kvs, h1, h2, h3⟩ := h
  exact ⟨kvs, h1.below hb, h2, h3⟩
theorem EnvIs.lookup {w : World} {v : Value} {f : ByteArray → Option GV} (h : EnvIs w v f) (s : ByteArray) :
    (Instr.lookup 56 v (.string s) true).run Tryd.prog w = .ok (.tuple #[((f s).getD zeroV).v, .bool (f s).isSome]) w := by
  obtain ⟨kvs, h1, h2, h3⟩ := h
  rw [mapV_lookup_ok h1 s, h3]
end Go.Proofs.YtplekbpmfaghbaaDoor
