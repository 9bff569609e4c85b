/- Merged by my own program of: LFrame, Exp, Pgm, TFrame. -/
import Derived.Test.YtplekbpmfaghbaaGreatDoorMa3
import Derived.Test.YtplekbpmfaghbaaGreatDoorMa4
import Derived.Test.YtplekbpmfaghbaaGreatDoorMa2
/- The frame of the rows on tokens: the three tables and two errors of the library, and the program's own two lists. -/
namespace Go.Proofs.YtplekbpmfaghbaaGreatDoor
open Go.ChangeShapes Go.WideShapes Go.ChangeAt Go.RowKit
set_option linter.unusedVariables false

def laidL {H : Type} : List (String × DataW H) := [("math/bits.deBruijn32tab", Rows.laid_math_bits_deBruijn32tab), ("math/bits.deBruijn64tab", Rows.laid_math_bits_deBruijn64tab), ("internal/strconv.uint64pow10", Rows.laid_internal_strconv_uint64pow10), ("strconv.ErrRange", Rows.laid_strconv_ErrRange), ("strconv.ErrSyntax", Rows.laid_strconv_ErrSyntax), ("corollary/lex.keys", Rows.laid_corollary_lex_keys), ("corollary/lex.signs", Rows.laid_corollary_lex_signs)]

/-- a list of texts as laid data -/
def strsData {H : Type} (L : List (List UInt8)) : DataW H := .agg (L.map fun l => .lit (.string l))
theorem cells_of_strs {H : Type} {enc : TypeId × Value → H} {P : Program} {w : World} {base : Nat} {sp : Nat → Bool} {held : Bool} {fuel : Nat} {t e : TypeId} {n : Nat} {cs : List Value} {L : List (List UInt8)} {p : List MemPlace}
    (ht : P.underlying t = some (.array n e)) (he : P.underlying e = some .string) (hce : P.cellsOf e = 1) (hct : P.cellsOf t = n)
    (h : DataW.trod enc P w base sp held fuel t cs = some (strsData L, p)) : cs = L.map fun l => Value.string (bytes l) := by
  cases fuel with
  | zero => simp [DataW.trod] at h
  | succ fuel =>
    simp only [DataW.trod, ht, hce, hct, Nat.mul_one] at h
    split at h
    · rename_i hl
      obtain ⟨xs, hm, hx⟩ := Option.map_eq_some_iff.1 h
      have hxs : xs.map (·.1) = L.map fun l => (DataW.lit (.string l) : DataW H) := by
        have := congrArg Prod.fst hx
        simpa [strsData] using this
      have hxl : xs.length = n := by simpa using Lib.mapM_length hm
      have hzl : L.length = n := by
        have := congrArg List.length hxs
        simp at this
        omega
      apply List.ext_getElem?
      intro i
      by_cases hi : i < n
      · obtain ⟨b, hb, hf⟩ := Lib.mapM_at hm i i (by simp [hi])
        obtain ⟨z, hc, rfl, _⟩ := DataW.trod_string he hf
        have h1 : cs[i]? = some (.string z) := by
          have := congrArg (·[0]?) hc
          simpa [List.getElem?_take, List.getElem?_drop] using this
        have h2 : (xs.map (·.1))[i]? = some (DataW.lit (.string z.data.toList) : DataW H) := by simp [hb]
        rw [hxs] at h2
        simp only [List.getElem?_map, Option.map_eq_some_iff, DataW.lit.injEq, Lit.string.injEq] at h2
        obtain ⟨z', hz', hzz⟩ := h2
        have e1 : bytes z' = z := by rw [hzz]; rfl
        simp [h1, hz', e1]
      · rw [List.getElem?_eq_none (by omega), List.getElem?_eq_none (by simp; omega)]
    · cases h
theorem strs_of_head {P : Program} {W : World} {name : String} {L : List (List UInt8)} {rest : List (String × DataW Unit)} {g : Nat} {t e : TypeId} {n : Nat}
    (hg : P.globalNamed name = some g) (hty : (P.globals[g]?).map (·.type) = some t) (ht : P.underlying t = some (.array n e)) (he : P.underlying e = some .string) (hce : P.cellsOf e = 1) (hct : P.cellsOf t = n)
    (h : laidMet P ((name, strsData L) :: rest) W) : StrsW g L W := by
  obtain ⟨ps, ⟨g', t', cs, fuel, p, q, hg', ht', hvar, hd, _, _⟩, _⟩ := h
  obtain rfl := Option.some.inj (hg.symm.trans hg')
  obtain rfl := Option.some.inj (hty.symm.trans ht')
  have e1 := cells_of_strs ht he hce hct hd
  simp only [World.var?, hg, Option.bind_some] at hvar
  split at hvar
  · rename_i c t2 fr hb
    injection hvar with hvar
    refine ⟨t2, fr, hb.trans ?_⟩
    rw [hvar, ← e1]
  · cases hvar
theorem keys_eq {H : Type} : (Rows.laid_corollary_lex_keys : DataW H) = strsData keysL := rfl
theorem signs_eq {H : Type} : (Rows.laid_corollary_lex_signs : DataW H) = strsData signsL := rfl
theorem gK : Tryz.prog.globalNamed "corollary/lex.keys" = some 7 := by kernel_rfl
theorem gKT : (Tryz.prog.globals[7]?).map (·.type) = some 275 := by kernel_rfl
theorem gS : Tryz.prog.globalNamed "corollary/lex.signs" = some 5 := by kernel_rfl
theorem gST : (Tryz.prog.globals[5]?).map (·.type) = some 271 := by kernel_rfl
abbrev restL : List (String × DataW Unit) := [("strconv.ErrRange", Rows.laid_strconv_ErrRange), ("strconv.ErrSyntax", Rows.laid_strconv_ErrSyntax), ("corollary/lex.keys", Rows.laid_corollary_lex_keys), ("corollary/lex.signs", Rows.laid_corollary_lex_signs)]
theorem lexW_of_laidL {W : World} (h : laidMet Tryz.prog laidL W) : LexW W := by
  have h3 := laidMet.tail (laidMet.tail (laidMet.tail h))
  have h5 := laidMet.tail (laidMet.tail h3)
  have h6 := laidMet.tail h5
  refine ⟨TabW.of (Lib.tabIs_of_head gP gPT Tryz.underlying291 Tryz.underlying277 (by kernel_rfl) (by kernel_rfl) (rest := restL) (by rw [← pow_eq]; exact laidMet.tail (laidMet.tail h))), ?_, ?_, ?_⟩
  · obtain ⟨a0, s0, hv0, -, -, -⟩ := laid_sentinel h3 gER gERT Tryz.underlying57 rowES Tryz.underlying303 Tryz.underlying305 rfl rfl Tryz.underlying9 cellsES cellsStr
    obtain ⟨a1, s1, hv1, -, -, -⟩ := laid_sentinel (laidMet.tail h3) gES gEST Tryz.underlying57 rowES Tryz.underlying303 Tryz.underlying305 rfl rfl Tryz.underlying9 cellsES cellsStr
    exact ⟨⟨_, _, by have h0 := World.var?_cell gES hv1 0; simpa using h0⟩, ⟨_, _, by have h0 := World.var?_cell gER hv0 0; simpa using h0⟩⟩
  · rw [keys_eq] at h5
    exact strs_of_head gK gKT Tryz.underlying275 Tryz.underlying9 (by kernel_rfl) (by kernel_rfl) h5
  · rw [signs_eq] at h6
    exact strs_of_head gS gST Tryz.underlying271 Tryz.underlying9 (by kernel_rfl) (by kernel_rfl) h6
noncomputable def laidWorldL (os : Os) : World :=
  let w0 := World.holding Tryz.prog os ⟨#[.cells #[.string synS] 305, .cells #[.string rngS] 305], #[], []⟩
  let put (h : Array Obj) (g : Nat) (cs : Array Value) : Array Obj := h.modify g fun
    | .cells _ t frozen => .cells cs t frozen
    | o => o
  let tab (d : DataW Unit) : Array Value := match d with
    | .agg l => (l.map fun | .lit (.int k n) => Value.int k n | .lit (.string s) => Value.string ⟨s.toArray⟩ | _ => undef).toArray
    | _ => #[]
  let h1 := put w0.heap 11 (tab Rows.laid_math_bits_deBruijn32tab)
  let h2 := put h1 12 (tab Rows.laid_math_bits_deBruijn64tab)
  let h3 := put h2 8 (tab Rows.laid_internal_strconv_uint64pow10)
  let h4 := put h3 9 #[.iface 303 (.pointer (some ⟨low, 0, none⟩))]
  let h5 := put h4 10 #[.iface 303 (.pointer (some ⟨low + 1, 0, none⟩))]
  let h6 := put h5 7 (tab Rows.laid_corollary_lex_keys)
  let h7 := put h6 5 (tab Rows.laid_corollary_lex_signs)
  { w0 with heap := h7 }
set_option maxRecDepth 100000 in
theorem laidWorldL_met (os : Os) (args : Array Value) : laidMet Tryz.prog laidL ((laidWorldL os).forCall (fun _ _ => 0) ⟨#[], args, []⟩).memory :=
  laidMet_of_run' 8 (by kernel_rfl) (by kernel_rfl)
end Go.Proofs.YtplekbpmfaghbaaGreatDoor

/- Expressions: a tree in memory, by its depth; how such an argument is read. Nothing of any program. -/
namespace Go.Proofs.YtplekbpmfaghbaaGreatDoor
open Go.RowKit

/-- an expression -/
inductive GExp where
  | mk (op : Int) (t : GTold) (kids : List GExp)
def GExp.op : GExp → Int | .mk o _ _ => o
def GExp.t : GExp → GTold | .mk _ t _ => t
def GExp.kids : GExp → List GExp | .mk _ _ k => k

/-- an expression over kids that lie as E says -/
def Enc.expStep (E : Enc GExp) : Enc GExp where
  sz := 6
  ok := fun w B cs e => ∃ A n c, cs = [.int .i64 e.op, .string e.t.x, .int .i64 e.t.v.k, .int .i64 e.t.v.n, .string e.t.v.s, .slice A n c] ∧ fits e.op ∧ e.t.x.size ≤ reachN ∧ e.t.v.ok ∧ SliceIs E w B A n c e.kids
  mono := fun hB hk ⟨A, n, c, h1, h2, h3, h4, h5⟩ => ⟨A, n, c, h1, h2, h3, h4, h5.mono' hB hk⟩
  len := fun ⟨_, _, _, h, _⟩ => by rw [h]; rfl
def Enc.expNone : Enc GExp where
  sz := 6
  ok := fun _ _ _ _ => False
  mono := fun _ _ h => h
  len := fun h => h.elim
/-- an expression of a depth below d -/
def Enc.exp : Nat → Enc GExp
  | 0 => Enc.expNone
  | d + 1 => Enc.expStep (Enc.exp d)
theorem Enc.exp_sz : ∀ d, (Enc.exp d).sz = 6
  | 0 => rfl
  | _ + 1 => rfl
/-- the cells of the i-th of a list of expressions -/
theorem SliceIs.exp_at {w : World} {B : Nat} {A : Option Addr} {n c d : Nat} {l : List GExp} (h : SliceIs (Enc.exp d) w B A n c l) {i : Nat} (hi : i < n) :
    ∃ b o e A' n' c' d', A = some ⟨b, o, none⟩ ∧ b < B ∧ Hid (l[i]? = some e) ∧ d = d' + 1 ∧ w.cell? ⟨b, o + i * 6, none⟩ = some (.int .i64 e.op) ∧ w.cell? ⟨b, o + i * 6 + 1, none⟩ = some (.string e.t.x) ∧ w.cell? ⟨b, o + i * 6 + 2, none⟩ = some (.int .i64 e.t.v.k) ∧
      w.cell? ⟨b, o + i * 6 + 3, none⟩ = some (.int .i64 e.t.v.n) ∧ w.cell? ⟨b, o + i * 6 + 4, none⟩ = some (.string e.t.v.s) ∧ w.cell? ⟨b, o + i * 6 + 5, none⟩ = some (.slice A' n' c') ∧
      fits e.op ∧ e.t.x.size ≤ reachN ∧ e.t.v.ok ∧ SliceIs (Enc.exp d') w B A' n' c' e.kids := by
  obtain ⟨b, o, e, cs, hA, hb, hx, hok, hc⟩ := h.at_ hi
  cases d with
  | zero => exact hok.elim
  | succ d =>
    obtain ⟨A', n', c', rfl, h1, h2, h3, h4⟩ := hok
    rw [Enc.exp_sz] at hc
    exact ⟨b, o, e, A', n', c', d, hA, hb, hx, rfl, by simpa using hc 0 _ rfl, by simpa using hc 1 _ rfl, by simpa using hc 2 _ rfl, by simpa using hc 3 _ rfl, by simpa using hc 4 _ rfl, by simpa using hc 5 _ rfl, h1, h2, h3, h4⟩

/-! ### reading it -/
/-- 'Opens', for readings of at most N steps -/
def OpensB {α : Type} (N : Nat) (P : Program) (t : TypeId) (E : Enc α) : Prop :=
  ∀ (H : Type) (enc : TypeId × Value → H) (w : World) (fuel : Nat) (cs : List Value) (x : DataW H × List MemPlace), fuel ≤ N →
    DataW.trod enc P w 0 (fun _ => true) true fuel t cs = some x → (∀ n ∈ x.1.weights P t, n ≤ reachBytes) → ∃ y : α, E.ok w w.heap.size cs y
theorem Opens.bound {α : Type} {P : Program} {t : TypeId} {E : Enc α} (h : Opens P t E) (N : Nat) : OpensB N P t E := fun H enc w fuel cs x _ hx hw => h H enc w fuel cs x hx hw
theorem opensB_slice {α : Type} {N : Nat} {P : Program} {t e : TypeId} {E : Enc α} (h : P.underlying t = some (.slice e)) (he : OpensB N P e E) (hc : P.cellsOf e = E.sz) (hz : 0 < E.sz) (hb : 0 < P.bytesOf e) : OpensB (N + 1) P t (Enc.slice E) := by
  intro H enc w fuel cs x hfu hx hwt
  rcases DataW.trod_slice h hx with ⟨rfl, _⟩ | ⟨a, len, cap, elems, rest, n, rfl, rfl, rfl, -, hl, hm, hel, hi, -, -⟩
  · exact ⟨[], none, 0, 0, rfl, SliceIs.nil⟩
  · have hw0 := hwt ((elems.length + rest.length) * P.bytesOf e) (by simp [DataW.weights, h])
    have hle : len ≤ reachN := by
      rw [reach_eq] at hw0
      have : elems.length + rest.length ≤ (elems.length + rest.length) * P.bytesOf e := Nat.le_mul_of_pos_right _ hb
      omega
    obtain ⟨l, hll, hq⟩ := choose_list (Q := fun i y => ∃ cs', w.cells? 0 (a.add (i * P.cellsOf e)) (P.cellsOf e) = some cs' ∧ E.ok w w.heap.size cs' y) len (fun i hil => by
      have h1 := hi i hil
      rw [List.getElem?_eq_getElem (by omega)] at h1
      obtain ⟨cs', h2, h3⟩ := Option.bind_eq_some_iff.1 h1
      obtain ⟨y, hy⟩ := he H enc w n cs' _ (by omega) h3 (fun q hq => hwt q (by
        simp only [DataW.weights, h, List.mem_cons, List.mem_append]
        exact .inr (.inl (weights_all (List.mem_map.2 ⟨elems[i]'(by omega), List.getElem_mem _, rfl⟩) q hq))))
      exact ⟨y, cs', h2, hy⟩)
    refine ⟨l, some a, len, cap, rfl, hll, hl, hm, hle, ?_⟩
    by_cases h0 : len = 0
    · exact .inl (List.eq_nil_of_length_eq_zero (by omega))
    · right
      have hcell : ∀ i y, l[i]? = some y → ∃ cs', E.ok w w.heap.size cs' y ∧ ∀ j v, cs'[j]? = some v → w.cell? (a.add (i * E.sz + j)) = some v := by
        intro i y hy
        obtain ⟨cs', h1, h2⟩ := hq i y hy
        refine ⟨cs', h2, fun j v hj => ?_⟩
        obtain ⟨_, hcl, hat⟩ := World.cells?_some h1
        have hjl : j < P.cellsOf e := by rw [← hcl]; exact (List.getElem?_eq_some_iff.1 hj).1
        have := hat j hjl
        rw [hj, Go.Deep.add_add, hc] at this
        exact this
      have hex : ∃ y, l[0]? = some y := by
        rw [List.getElem?_eq_getElem (by omega)]
        exact ⟨_, rfl⟩
      obtain ⟨y, hy⟩ := hex
      obtain ⟨cs', h1, h2⟩ := hcell 0 y hy
      have hlen := E.len h1
      obtain ⟨v, hv⟩ : ∃ v, cs'[0]? = some v := by
        rw [List.getElem?_eq_getElem (by omega)]
        exact ⟨_, rfl⟩
      have hc0 := h2 0 v hv
      obtain ⟨b, off, spot⟩ := a
      obtain rfl : spot = none := by simpa [Addr.add] using World.cell?_spot hc0
      refine ⟨b, off, rfl, ?_, fun i y hy => ?_⟩
      · exact World.block_lt_of_cell? w _ (by simpa [Addr.add] using hc0)
      · obtain ⟨cs', h1, h2⟩ := hcell i y hy
        refine ⟨cs', h1, fun j v hj => ?_⟩
        have h3 := h2 j v hj
        rw [Nat.add_assoc]
        unfold Addr.add at h3
        split at h3
        · rename_i h0
          rw [h0]
          exact h3
        · exact h3
theorem open_fieldsB {H : Type} {enc : TypeId × Value → H} {P : Program} {w : World} {t : TypeId} {fuel : Nat} {cs : List Value} {x : DataW H × List MemPlace} {fl : List (TypeId × Nat × Nat)} (hf : fieldsOf P t = fl) (h0 : fl ≠ [])
    (hx : DataW.trod enc P w 0 (fun _ => true) true fuel t cs = some x) (hwt : ∀ n ∈ x.1.weights P t, n ≤ reachBytes) :
    cs.length = P.cellsOf t ∧ ∃ n, fuel = n + 1 ∧ ∀ (j : Nat) (f : TypeId × Nat × Nat), fl[j]? = some f → ∃ y, DataW.trod enc P w 0 (fun _ => true) true n f.1 ((cs.drop f.2.1).take f.2.2) = some y ∧ ∀ n ∈ y.1.weights P f.1, n ≤ reachBytes := by
  unfold fieldsOf at hf
  split at hf
  · rename_i fs hs
    obtain ⟨xs, n, rfl, rfl, hl, hlen, hat⟩ := DataW.trod_struct hs hx
    refine ⟨hl, n, rfl, fun j f hj => ?_⟩
    subst hf
    rw [List.getElem?_map, Option.map_eq_some_iff] at hj
    obtain ⟨fd, hfd, rfl⟩ := hj
    have hfd' : fs[j]? = some fd := by simpa using hfd
    have h1 := hat j fd hfd'
    have hjl : j < fs.size := (Array.getElem?_eq_some_iff.1 hfd').1
    have hxj : xs[j]? = some (xs[j]'(by omega)) := List.getElem?_eq_getElem (by omega)
    refine ⟨_, h1.trans hxj, fun q hq => hwt q ?_⟩
    simp only [DataW.weights, hs]
    exact DataW.weights_mem_each (j := j) (t := fd.type) (d := (xs[j]'(by omega)).1) (by simp [hfd']) (by simp [hxj]) q hq
  · exact absurd hf.symm h0
theorem opens_exp {P : Program} {t a b c : TypeId} (hf : fieldsOf P t = [(a, 0, 1), (b, 1, 4), (c, 5, 1)]) (hz : P.cellsOf t = 6) (hby : 0 < P.bytesOf t) (ha : P.underlying a = some (.int .i64)) (hb : Opens P b Enc.told) (hc : P.underlying c = some (.slice t)) :
    ∀ N, OpensB N P t (Enc.exp (N + 1))
  | 0 => fun H enc w fuel cs x hfu hx _ => by
    obtain rfl : fuel = 0 := by omega
    simp [DataW.trod] at hx
  | N + 1 => by
    have ih := opens_exp hf hz hby ha hb hc N
    have ihs := opensB_slice hc ih (by rw [hz, Enc.exp_sz]) (by rw [Enc.exp_sz]; omega) hby
    intro H enc w fuel cs x hfu hx hwt
    obtain ⟨hl, n, rfl, hat⟩ := open_fieldsB hf (by simp) hx hwt
    rw [hz] at hl
    match cs, hl with
    | [u0, u1, u2, u3, u4, u5], _ =>
      obtain ⟨y, h, hw⟩ := hat 0 _ rfl
      obtain ⟨k, e0, f0⟩ := opens_int ha _ _ _ _ _ _ h hw
      obtain ⟨y, h, hw⟩ := hat 1 _ rfl
      obtain ⟨tt, e1, f1, f2⟩ := hb _ _ _ _ _ _ h hw
      obtain ⟨y, h, hw⟩ := hat 2 _ rfl
      obtain ⟨ks, A, m, d, e2, f3⟩ := ihs _ _ _ _ _ _ (by omega) h hw
      simp at e0 e1 e2
      obtain ⟨rfl, rfl, rfl, rfl⟩ := e1
      subst e0 e2
      exact ⟨.mk k tt ks, A, m, d, rfl, f0, f1, f2, f3⟩
end Go.Proofs.YtplekbpmfaghbaaGreatDoor

/- Atoms, literals, rules, declarations, programs in memory, and how such arguments are read. Nothing of any program. -/
namespace Go.Proofs.YtplekbpmfaghbaaGreatDoor
open Go.RowKit

/-- a slice's header -/
structure Hd where
  A : Option Addr
  n : Nat
  c : Nat
abbrev Hd.v (h : Hd) : Value := .slice h.A h.n h.c
structure GAtom where
  rel : ByteArray
  args : List GTold
structure GLit where
  k : Int
  atom : GAtom
  op : Int
  l : GExp
  r : GExp
  pos : Int
structure GRule where
  head : GAtom
  agg : Int
  col : Int
  body : List GLit
  pos : Int
structure GDecl where
  rel : ByteArray
  kinds : List Int
  pos : Int
structure GProg where
  decls : List GDecl
  rules : List GRule

abbrev litC (x : GLit) (a p q : Hd) : List Value := [.int .i64 x.k, .string x.atom.rel, a.v, .int .i64 x.op, .int .i64 x.l.op, .string x.l.t.x, .int .i64 x.l.t.v.k, .int .i64 x.l.t.v.n, .string x.l.t.v.s, p.v, .int .i64 x.r.op, .string x.r.t.x, .int .i64 x.r.t.v.k, .int .i64 x.r.t.v.n, .string x.r.t.v.s, q.v, .int .i64 x.pos]
abbrev ruleC (x : GRule) (a b : Hd) : List Value := [.string x.head.rel, a.v, .int .i64 x.agg, .int .i64 x.col, b.v, .int .i64 x.pos]
abbrev declC (x : GDecl) (a : Hd) : List Value := [.string x.rel, a.v, .int .i64 x.pos]

structure LitAt (d : Nat) (w : World) (B : Nat) (x : GLit) (a p q : Hd) : Prop where
  k : fits x.k
  op : fits x.op
  pos : fits x.pos
  rel : x.atom.rel.size ≤ reachN
  args : SliceIs Enc.told w B a.A a.n a.c x.atom.args
  lop : fits x.l.op
  lx : x.l.t.x.size ≤ reachN
  lv : x.l.t.v.ok
  lk : SliceIs (Enc.exp d) w B p.A p.n p.c x.l.kids
  rop : fits x.r.op
  rx : x.r.t.x.size ≤ reachN
  rv : x.r.t.v.ok
  rk : SliceIs (Enc.exp d) w B q.A q.n q.c x.r.kids
theorem LitAt.mono' {d : Nat} {w w' : World} {B B' : Nat} {x : GLit} {a p q : Hd} (h : LitAt d w B x a p q) (hB : B ≤ B') (hk : Kept w w' B) : LitAt d w' B' x a p q :=
  ⟨h.k, h.op, h.pos, h.rel, h.args.mono' hB hk, h.lop, h.lx, h.lv, h.lk.mono' hB hk, h.rop, h.rx, h.rv, h.rk.mono' hB hk⟩
theorem LitAt.keep {d : Nat} {w w' : World} {x : GLit} {a p q : Hd} (h : LitAt d w w.heap.size x a p q) (hb : Below w.heap.size w w') : LitAt d w' w'.heap.size x a p q := h.mono' hb.size (Kept.of hb.block)
def Enc.lit (d : Nat) : Enc GLit where
  sz := 17
  ok := fun w B cs x => ∃ a p q : Hd, cs = litC x a p q ∧ LitAt d w B x a p q
  mono := fun hB hk ⟨a, p, q, h1, h2⟩ => ⟨a, p, q, h1, h2.mono' hB hk⟩
  len := fun ⟨_, _, _, h, _⟩ => by rw [h]; rfl
structure RuleAt (d : Nat) (w : World) (B : Nat) (x : GRule) (a b : Hd) : Prop where
  rel : x.head.rel.size ≤ reachN
  args : SliceIs Enc.told w B a.A a.n a.c x.head.args
  agg : fits x.agg
  col : fits x.col
  body : SliceIs (Enc.lit d) w B b.A b.n b.c x.body
  pos : fits x.pos
theorem RuleAt.mono' {d : Nat} {w w' : World} {B B' : Nat} {x : GRule} {a b : Hd} (h : RuleAt d w B x a b) (hB : B ≤ B') (hk : Kept w w' B) : RuleAt d w' B' x a b :=
  ⟨h.rel, h.args.mono' hB hk, h.agg, h.col, h.body.mono' hB hk, h.pos⟩
theorem RuleAt.keep {d : Nat} {w w' : World} {x : GRule} {a b : Hd} (h : RuleAt d w w.heap.size x a b) (hb : Below w.heap.size w w') : RuleAt d w' w'.heap.size x a b := h.mono' hb.size (Kept.of hb.block)
def Enc.rule (d : Nat) : Enc GRule where
  sz := 6
  ok := fun w B cs x => ∃ a b : Hd, cs = ruleC x a b ∧ RuleAt d w B x a b
  mono := fun hB hk ⟨a, b, h1, h2⟩ => ⟨a, b, h1, h2.mono' hB hk⟩
  len := fun ⟨_, _, h, _⟩ => by rw [h]; rfl
structure DeclAt (w : World) (B : Nat) (x : GDecl) (a : Hd) : Prop where
  rel : x.rel.size ≤ reachN
  kinds : SliceIs Enc.int w B a.A a.n a.c x.kinds
  pos : fits x.pos
theorem DeclAt.mono' {w w' : World} {B B' : Nat} {x : GDecl} {a : Hd} (h : DeclAt w B x a) (hB : B ≤ B') (hk : Kept w w' B) : DeclAt w' B' x a := ⟨h.rel, h.kinds.mono' hB hk, h.pos⟩
theorem DeclAt.keep {w w' : World} {x : GDecl} {a : Hd} (h : DeclAt w w.heap.size x a) (hb : Below w.heap.size w w') : DeclAt w' w'.heap.size x a := h.mono' hb.size (Kept.of hb.block)
def Enc.decl : Enc GDecl where
  sz := 3
  ok := fun w B cs x => ∃ a : Hd, cs = declC x a ∧ DeclAt w B x a
  mono := fun hB hk ⟨a, h1, h2⟩ => ⟨a, h1, h2.mono' hB hk⟩
  len := fun ⟨_, h, _⟩ => by rw [h]; rfl

section
variable {w : World} {B : Nat} {A : Option Addr} {n c d : Nat}
theorem SliceIs.lit_at {l : List GLit} (h : SliceIs (Enc.lit d) w B A n c l) {i : Nat} (hi : i < n) :
    ∃ (b o : Nat) (x : GLit) (a p q : Hd), A = some ⟨b, o, none⟩ ∧ b < B ∧ Hid (l[i]? = some x) ∧ LitAt d w B x a p q ∧
      w.cell? ⟨b, o + i * 17, none⟩ = some (.int .i64 x.k) ∧ w.cell? ⟨b, o + i * 17 + 1, none⟩ = some (.string x.atom.rel) ∧ w.cell? ⟨b, o + i * 17 + 2, none⟩ = some (a.v) ∧ w.cell? ⟨b, o + i * 17 + 3, none⟩ = some (.int .i64 x.op) ∧ w.cell? ⟨b, o + i * 17 + 4, none⟩ = some (.int .i64 x.l.op) ∧ w.cell? ⟨b, o + i * 17 + 5, none⟩ = some (.string x.l.t.x) ∧ w.cell? ⟨b, o + i * 17 + 6, none⟩ = some (.int .i64 x.l.t.v.k) ∧ w.cell? ⟨b, o + i * 17 + 7, none⟩ = some (.int .i64 x.l.t.v.n) ∧ w.cell? ⟨b, o + i * 17 + 8, none⟩ = some (.string x.l.t.v.s) ∧ w.cell? ⟨b, o + i * 17 + 9, none⟩ = some (p.v) ∧ w.cell? ⟨b, o + i * 17 + 10, none⟩ = some (.int .i64 x.r.op) ∧ w.cell? ⟨b, o + i * 17 + 11, none⟩ = some (.string x.r.t.x) ∧ w.cell? ⟨b, o + i * 17 + 12, none⟩ = some (.int .i64 x.r.t.v.k) ∧ w.cell? ⟨b, o + i * 17 + 13, none⟩ = some (.int .i64 x.r.t.v.n) ∧ w.cell? ⟨b, o + i * 17 + 14, none⟩ = some (.string x.r.t.v.s) ∧ w.cell? ⟨b, o + i * 17 + 15, none⟩ = some (q.v) ∧ w.cell? ⟨b, o + i * 17 + 16, none⟩ = some (.int .i64 x.pos) := by
  obtain ⟨b, o, x, cs, hA, hb, hx, ⟨a, p, q, rfl, h1⟩, hc⟩ := h.at_ hi
  exact ⟨b, o, x, a, p, q, hA, hb, hx, h1, by simpa [Enc.lit] using hc 0 _ rfl, by simpa [Enc.lit] using hc 1 _ rfl, by simpa [Enc.lit] using hc 2 _ rfl, by simpa [Enc.lit] using hc 3 _ rfl, by simpa [Enc.lit] using hc 4 _ rfl, by simpa [Enc.lit] using hc 5 _ rfl, by simpa [Enc.lit] using hc 6 _ rfl, by simpa [Enc.lit] using hc 7 _ rfl, by simpa [Enc.lit] using hc 8 _ rfl, by simpa [Enc.lit] using hc 9 _ rfl, by simpa [Enc.lit] using hc 10 _ rfl, by simpa [Enc.lit] using hc 11 _ rfl, by simpa [Enc.lit] using hc 12 _ rfl, by simpa [Enc.lit] using hc 13 _ rfl, by simpa [Enc.lit] using hc 14 _ rfl, by simpa [Enc.lit] using hc 15 _ rfl, by simpa [Enc.lit] using hc 16 _ rfl⟩
theorem SliceIs.rule_at {l : List GRule} (h : SliceIs (Enc.rule d) w B A n c l) {i : Nat} (hi : i < n) :
    ∃ (b o : Nat) (x : GRule) (a m : Hd), A = some ⟨b, o, none⟩ ∧ b < B ∧ Hid (l[i]? = some x) ∧ RuleAt d w B x a m ∧
      w.cell? ⟨b, o + i * 6, none⟩ = some (.string x.head.rel) ∧ w.cell? ⟨b, o + i * 6 + 1, none⟩ = some (a.v) ∧ w.cell? ⟨b, o + i * 6 + 2, none⟩ = some (.int .i64 x.agg) ∧ w.cell? ⟨b, o + i * 6 + 3, none⟩ = some (.int .i64 x.col) ∧ w.cell? ⟨b, o + i * 6 + 4, none⟩ = some (m.v) ∧ w.cell? ⟨b, o + i * 6 + 5, none⟩ = some (.int .i64 x.pos) := by
  obtain ⟨b, o, x, cs, hA, hb, hx, ⟨a, m, rfl, h1⟩, hc⟩ := h.at_ hi
  exact ⟨b, o, x, a, m, hA, hb, hx, h1, by simpa [Enc.rule] using hc 0 _ rfl, by simpa [Enc.rule] using hc 1 _ rfl, by simpa [Enc.rule] using hc 2 _ rfl, by simpa [Enc.rule] using hc 3 _ rfl, by simpa [Enc.rule] using hc 4 _ rfl, by simpa [Enc.rule] using hc 5 _ rfl⟩
theorem SliceIs.decl_at {l : List GDecl} (h : SliceIs Enc.decl w B A n c l) {i : Nat} (hi : i < n) :
    ∃ (b o : Nat) (x : GDecl) (a : Hd), A = some ⟨b, o, none⟩ ∧ b < B ∧ Hid (l[i]? = some x) ∧ DeclAt w B x a ∧
      w.cell? ⟨b, o + i * 3, none⟩ = some (.string x.rel) ∧ w.cell? ⟨b, o + i * 3 + 1, none⟩ = some (a.v) ∧ w.cell? ⟨b, o + i * 3 + 2, none⟩ = some (.int .i64 x.pos) := by
  obtain ⟨b, o, x, cs, hA, hb, hx, ⟨a, rfl, h1⟩, hc⟩ := h.at_ hi
  exact ⟨b, o, x, a, hA, hb, hx, h1, by simpa [Enc.decl] using hc 0 _ rfl, by simpa [Enc.decl] using hc 1 _ rfl, by simpa [Enc.decl] using hc 2 _ rfl⟩
end

/-! ### a box's cells -/
theorem facts2 {W : World} {g : Nat} {t : TypeId} {v0 v1 : Value} (h : W.heap[g]? = some (.cells #[v0, v1] t (0, 0))) : W.cell? ⟨g, 0, none⟩ = some v0 ∧ W.cell? ⟨g, 1, none⟩ = some v1 :=
  ⟨(cell_of_row _ _ 0 _ _ _ h).trans rfl, (cell_of_row _ _ 1 _ _ _ h).trans rfl⟩
theorem facts3 {W : World} {g : Nat} {t : TypeId} {v0 v1 v2 : Value} (h : W.heap[g]? = some (.cells #[v0, v1, v2] t (0, 0))) : W.cell? ⟨g, 0, none⟩ = some v0 ∧ W.cell? ⟨g, 1, none⟩ = some v1 ∧ W.cell? ⟨g, 2, none⟩ = some v2 :=
  ⟨(cell_of_row _ _ 0 _ _ _ h).trans rfl, (cell_of_row _ _ 1 _ _ _ h).trans rfl, (cell_of_row _ _ 2 _ _ _ h).trans rfl⟩
theorem facts4 {W : World} {g : Nat} {t : TypeId} {v0 v1 v2 v3 : Value} (h : W.heap[g]? = some (.cells #[v0, v1, v2, v3] t (0, 0))) : W.cell? ⟨g, 0, none⟩ = some v0 ∧ W.cell? ⟨g, 1, none⟩ = some v1 ∧ W.cell? ⟨g, 2, none⟩ = some v2 ∧ W.cell? ⟨g, 3, none⟩ = some v3 :=
  ⟨(cell_of_row _ _ 0 _ _ _ h).trans rfl, (cell_of_row _ _ 1 _ _ _ h).trans rfl, (cell_of_row _ _ 2 _ _ _ h).trans rfl, (cell_of_row _ _ 3 _ _ _ h).trans rfl⟩
theorem facts6 {W : World} {g : Nat} {t : TypeId} {v0 v1 v2 v3 v4 v5 : Value} (h : W.heap[g]? = some (.cells #[v0, v1, v2, v3, v4, v5] t (0, 0))) : W.cell? ⟨g, 0, none⟩ = some v0 ∧ W.cell? ⟨g, 1, none⟩ = some v1 ∧ W.cell? ⟨g, 2, none⟩ = some v2 ∧ W.cell? ⟨g, 3, none⟩ = some v3 ∧ W.cell? ⟨g, 4, none⟩ = some v4 ∧ W.cell? ⟨g, 5, none⟩ = some v5 :=
  ⟨(cell_of_row _ _ 0 _ _ _ h).trans rfl, (cell_of_row _ _ 1 _ _ _ h).trans rfl, (cell_of_row _ _ 2 _ _ _ h).trans rfl, (cell_of_row _ _ 3 _ _ _ h).trans rfl, (cell_of_row _ _ 4 _ _ _ h).trans rfl, (cell_of_row _ _ 5 _ _ _ h).trans rfl⟩
theorem facts17 {W : World} {g : Nat} {t : TypeId} {v0 v1 v2 v3 v4 v5 v6 v7 v8 v9 v10 v11 v12 v13 v14 v15 v16 : Value} (h : W.heap[g]? = some (.cells #[v0, v1, v2, v3, v4, v5, v6, v7, v8, v9, v10, v11, v12, v13, v14, v15, v16] t (0, 0))) : W.cell? ⟨g, 0, none⟩ = some v0 ∧ W.cell? ⟨g, 1, none⟩ = some v1 ∧ W.cell? ⟨g, 2, none⟩ = some v2 ∧ W.cell? ⟨g, 3, none⟩ = some v3 ∧ W.cell? ⟨g, 4, none⟩ = some v4 ∧ W.cell? ⟨g, 5, none⟩ = some v5 ∧ W.cell? ⟨g, 6, none⟩ = some v6 ∧ W.cell? ⟨g, 7, none⟩ = some v7 ∧ W.cell? ⟨g, 8, none⟩ = some v8 ∧ W.cell? ⟨g, 9, none⟩ = some v9 ∧ W.cell? ⟨g, 10, none⟩ = some v10 ∧ W.cell? ⟨g, 11, none⟩ = some v11 ∧ W.cell? ⟨g, 12, none⟩ = some v12 ∧ W.cell? ⟨g, 13, none⟩ = some v13 ∧ W.cell? ⟨g, 14, none⟩ = some v14 ∧ W.cell? ⟨g, 15, none⟩ = some v15 ∧ W.cell? ⟨g, 16, none⟩ = some v16 :=
  ⟨(cell_of_row _ _ 0 _ _ _ h).trans rfl, (cell_of_row _ _ 1 _ _ _ h).trans rfl, (cell_of_row _ _ 2 _ _ _ h).trans rfl, (cell_of_row _ _ 3 _ _ _ h).trans rfl, (cell_of_row _ _ 4 _ _ _ h).trans rfl, (cell_of_row _ _ 5 _ _ _ h).trans rfl, (cell_of_row _ _ 6 _ _ _ h).trans rfl, (cell_of_row _ _ 7 _ _ _ h).trans rfl, (cell_of_row _ _ 8 _ _ _ h).trans rfl, (cell_of_row _ _ 9 _ _ _ h).trans rfl, (cell_of_row _ _ 10 _ _ _ h).trans rfl, (cell_of_row _ _ 11 _ _ _ h).trans rfl, (cell_of_row _ _ 12 _ _ _ h).trans rfl, (cell_of_row _ _ 13 _ _ _ h).trans rfl, (cell_of_row _ _ 14 _ _ _ h).trans rfl, (cell_of_row _ _ 15 _ _ _ h).trans rfl, (cell_of_row _ _ 16 _ _ _ h).trans rfl⟩

/-! ### reading -/
theorem OpensB.down {α : Type} {N M : Nat} {P : Program} {t : TypeId} {E : Enc α} (h : OpensB N P t E) (hM : M ≤ N) : OpensB M P t E := fun H enc w fuel cs x hf hx hw => h H enc w fuel cs x (by omega) hx hw
theorem opensB_slice' {α : Type} {N : Nat} {P : Program} {t e : TypeId} {E : Enc α} (h : P.underlying t = some (.slice e)) (he : OpensB N P e E) (hc : P.cellsOf e = E.sz) (hz : 0 < E.sz) (hb : 0 < P.bytesOf e) : OpensB N P t (Enc.slice E) :=
  (opensB_slice h he hc hz hb).down (Nat.le_succ _)
theorem opens_atomF {H : Type} {enc : TypeId × Value → H} {P : Program} {w : World} {t a b : TypeId} {fuel : Nat} {cs : List Value} {x : DataW H × List MemPlace} (hf : fieldsOf P t = [(a, 0, 1), (b, 1, 1)]) (hz : P.cellsOf t = 2) (ha : P.underlying a = some .string) (hb : Opens P b (Enc.slice Enc.told))
    (hx : DataW.trod enc P w 0 (fun _ => true) true fuel t cs = some x) (hwt : ∀ n ∈ x.1.weights P t, n ≤ reachBytes) : ∃ (y : GAtom) (h : Hd), cs = [.string y.rel, h.v] ∧ y.rel.size ≤ reachN ∧ SliceIs Enc.told w w.heap.size h.A h.n h.c y.args := by
  obtain ⟨hl, n, rfl, hat⟩ := open_fieldsB hf (by simp) hx hwt
  rw [hz] at hl
  match cs, hl with
  | [u0, u1], _ =>
    obtain ⟨y, h, hw⟩ := hat 0 _ rfl
    obtain ⟨s, e0, f0⟩ := opens_str ha _ _ _ _ _ _ h hw
    obtain ⟨y, h, hw⟩ := hat 1 _ rfl
    obtain ⟨ks, A, m, d, e1, f1⟩ := hb _ _ _ _ _ _ h hw
    simp at e0 e1
    subst e0 e1
    exact ⟨⟨s, ks⟩, ⟨A, m, d⟩, rfl, f0, f1⟩
theorem opens_lit {N d : Nat} {P : Program} {t k at_ o e s al : TypeId} (hf : fieldsOf P t = [(k, 0, 1), (at_, 1, 2), (o, 3, 1), (e, 4, 6), (e, 10, 6), (o, 16, 1)]) (hz : P.cellsOf t = 17) (hk : P.underlying k = some (.int .i64)) (ho : P.underlying o = some (.int .i64))
    (hfa : fieldsOf P at_ = [(s, 0, 1), (al, 1, 1)]) (hza : P.cellsOf at_ = 2) (hs : P.underlying s = some .string) (hal : Opens P al (Enc.slice Enc.told)) (he : OpensB N P e (Enc.exp (d + 1))) : OpensB N P t (Enc.lit d) := by
  intro H enc w fuel cs x hfu hx hwt
  obtain ⟨hl, n, rfl, hat⟩ := open_fieldsB hf (by simp) hx hwt
  rw [hz] at hl
  match cs, hl with
  | [u0, u1, u2, u3, u4, u5, u6, u7, u8, u9, u10, u11, u12, u13, u14, u15, u16], _ =>
    obtain ⟨y, h, hw⟩ := hat 0 _ rfl
    obtain ⟨i0, e0, f0⟩ := opens_int hk _ _ _ _ _ _ h hw
    obtain ⟨y, h, hw⟩ := hat 1 _ rfl
    obtain ⟨ga, ha, e1, f1, f2⟩ := opens_atomF hfa hza hs hal h hw
    obtain ⟨y, h, hw⟩ := hat 2 _ rfl
    obtain ⟨i3, e3, f3⟩ := opens_int ho _ _ _ _ _ _ h hw
    obtain ⟨y, h, hw⟩ := hat 3 _ rfl
    obtain ⟨x4, A4, m4, d4, e4, f4, g4, h4, k4⟩ := he _ _ _ _ _ _ (by omega) h hw
    obtain ⟨y, h, hw⟩ := hat 4 _ rfl
    obtain ⟨x5, A5, m5, d5, e5, f5, g5, h5, k5⟩ := he _ _ _ _ _ _ (by omega) h hw
    obtain ⟨y, h, hw⟩ := hat 5 _ rfl
    obtain ⟨i6, e6, f6⟩ := opens_int ho _ _ _ _ _ _ h hw
    simp at e0 e1 e3 e4 e5 e6
    obtain ⟨rfl, rfl⟩ := e1
    obtain ⟨rfl, rfl, rfl, rfl, rfl, rfl⟩ := e4
    obtain ⟨rfl, rfl, rfl, rfl, rfl, rfl⟩ := e5
    subst e0 e3 e6
    exact ⟨⟨i0, ga, i3, x4, x5, i6⟩, ha, ⟨A4, m4, d4⟩, ⟨A5, m5, d5⟩, rfl, ⟨f0, f3, f6, f1, f2, f4, g4, h4, k4, f5, g5, h5, k5⟩⟩
theorem opens_rule {N d : Nat} {P : Program} {t at_ o lt s al : TypeId} (hf : fieldsOf P t = [(at_, 0, 2), (o, 2, 1), (o, 3, 1), (lt, 4, 1), (o, 5, 1)]) (hz : P.cellsOf t = 6) (ho : P.underlying o = some (.int .i64))
    (hfa : fieldsOf P at_ = [(s, 0, 1), (al, 1, 1)]) (hza : P.cellsOf at_ = 2) (hs : P.underlying s = some .string) (hal : Opens P al (Enc.slice Enc.told)) (hl : OpensB N P lt (Enc.slice (Enc.lit d))) : OpensB N P t (Enc.rule d) := by
  intro H enc w fuel cs x hfu hx hwt
  obtain ⟨hlen, n, rfl, hat⟩ := open_fieldsB hf (by simp) hx hwt
  rw [hz] at hlen
  match cs, hlen with
  | [u0, u1, u2, u3, u4, u5], _ =>
    obtain ⟨y, h, hw⟩ := hat 0 _ rfl
    obtain ⟨ga, ha, e1, f1, f2⟩ := opens_atomF hfa hza hs hal h hw
    obtain ⟨y, h, hw⟩ := hat 1 _ rfl
    obtain ⟨i2, e2, f3⟩ := opens_int ho _ _ _ _ _ _ h hw
    obtain ⟨y, h, hw⟩ := hat 2 _ rfl
    obtain ⟨i3, e3, f4⟩ := opens_int ho _ _ _ _ _ _ h hw
    obtain ⟨y, h, hw⟩ := hat 3 _ rfl
    obtain ⟨ls, A, m, c, e4, f5⟩ := hl _ _ _ _ _ _ (by omega) h hw
    obtain ⟨y, h, hw⟩ := hat 4 _ rfl
    obtain ⟨i5, e5, f6⟩ := opens_int ho _ _ _ _ _ _ h hw
    simp at e1 e2 e3 e4 e5
    obtain ⟨rfl, rfl⟩ := e1
    subst e2 e3 e4 e5
    exact ⟨⟨ga, i2, i3, ls, i5⟩, ha, ⟨A, m, c⟩, rfl, ⟨f1, f2, f3, f4, f5, f6⟩⟩
theorem opens_decl {P : Program} {t s k o : TypeId} (hf : fieldsOf P t = [(s, 0, 1), (k, 1, 1), (o, 2, 1)]) (hz : P.cellsOf t = 3) (hs : P.underlying s = some .string) (hk : Opens P k (Enc.slice Enc.int)) (ho : P.underlying o = some (.int .i64)) : Opens P t Enc.decl := by
  intro H enc w fuel cs x hx hwt
  obtain ⟨hlen, n, rfl, hat⟩ := open_fieldsB hf (by simp) hx hwt
  rw [hz] at hlen
  match cs, hlen with
  | [u0, u1, u2], _ =>
    obtain ⟨y, h, hw⟩ := hat 0 _ rfl
    obtain ⟨s0, e0, f0⟩ := opens_str hs _ _ _ _ _ _ h hw
    obtain ⟨y, h, hw⟩ := hat 1 _ rfl
    obtain ⟨ks, A, m, c, e1, f1⟩ := hk _ _ _ _ _ _ h hw
    obtain ⟨y, h, hw⟩ := hat 2 _ rfl
    obtain ⟨i2, e2, f2⟩ := opens_int ho _ _ _ _ _ _ h hw
    simp at e0 e1 e2
    subst e0 e1 e2
    exact ⟨⟨s0, ks, i2⟩, ⟨A, m, c⟩, rfl, ⟨f0, f1, f2⟩⟩
/-- a program's two slices -/
structure ProgAt (d : Nat) (w : World) (B : Nat) (x : GProg) (a b : Hd) : Prop where
  decls : SliceIs Enc.decl w B a.A a.n a.c x.decls
  rules : SliceIs (Enc.rule d) w B b.A b.n b.c x.rules
theorem ProgAt.keep {d : Nat} {w w' : World} {x : GProg} {a b : Hd} (h : ProgAt d w w.heap.size x a b) (hb : Below w.heap.size w w') : ProgAt d w' w'.heap.size x a b := ⟨h.decls.mono' hb.size (Kept.of hb.block), h.rules.mono' hb.size (Kept.of hb.block)⟩
def Enc.prog (d : Nat) : Enc GProg where
  sz := 2
  ok := fun w B cs x => ∃ a b : Hd, cs = [a.v, b.v] ∧ ProgAt d w B x a b
  mono := fun hB hk ⟨a, b, h1, h2⟩ => ⟨a, b, h1, ⟨h2.decls.mono' hB hk, h2.rules.mono' hB hk⟩⟩
  len := fun ⟨_, _, h, _⟩ => by rw [h]; rfl
theorem opens_prog {N d : Nat} {P : Program} {t a b : TypeId} (hf : fieldsOf P t = [(a, 0, 1), (b, 1, 1)]) (hz : P.cellsOf t = 2) (ha : Opens P a (Enc.slice Enc.decl)) (hb : OpensB N P b (Enc.slice (Enc.rule d))) : OpensB N P t (Enc.prog d) := by
  intro H enc w fuel cs x hfu hx hwt
  obtain ⟨hlen, n, rfl, hat⟩ := open_fieldsB hf (by simp) hx hwt
  rw [hz] at hlen
  match cs, hlen with
  | [u0, u1], _ =>
    obtain ⟨y, h, hw⟩ := hat 0 _ rfl
    obtain ⟨ds, A, m, c, e0, f0⟩ := ha _ _ _ _ _ _ h hw
    obtain ⟨y, h, hw⟩ := hat 1 _ rfl
    obtain ⟨rs, A', m', c', e1, f1⟩ := hb _ _ _ _ _ _ (by omega) h hw
    simp at e0 e1
    subst e0 e1
    exact ⟨⟨ds, rs⟩, ⟨A, m, c⟩, ⟨A', m', c'⟩, rfl, ⟨f0, f1⟩⟩
end Go.Proofs.YtplekbpmfaghbaaGreatDoor

/- The frame of the rows on expressions and programs: how such arguments are read. -/
namespace Go.Proofs.YtplekbpmfaghbaaGreatDoor
open Go.RowKit Go.WideShapes

theorem open_encB {α : Type} {E : Nat → Enc α} {H : Type} {enc : TypeId × Value → H} {P : Program} {w : World} {t : TypeId} {v : Value} {d : DataW H} {p : List MemPlace} {r : Reach} {b0 : Nat} (hs : ∃ fs, P.underlying t = some (.struct fs)) (ho : ∀ N, OpensB N P t (E N))
    (hval : Value.okWide P w r b0 t v) (h : DataW.Trod enc P w 0 (fun _ => true) true t v d p) (hwt : ∀ n ∈ d.weights P t, n ≤ reachBytes) : ∃ (N : Nat) (x : α) (cs : List Value), v = .agg cs.toArray ∧ (E N).ok w w.heap.size cs x := by
  obtain ⟨fs, hs⟩ := hs
  obtain ⟨cs, rfl, hsz⟩ := okWide_struct hs hval
  obtain ⟨fuel, hx⟩ := h
  obtain ⟨y, hy⟩ := ho fuel _ _ _ fuel _ _ (Nat.le_refl _) hx hwt
  obtain ⟨cs⟩ := cs
  exact ⟨fuel, y, cs, rfl, by simpa [Value.cells] using hy⟩
theorem o_val2 : Opens Tryz.prog 31 Enc.val := opens_val (a := 29) (b := 3) (c := 9) (by kernel_rfl) (by kernel_rfl) Tryz.underlying29 Tryz.underlying3 Tryz.underlying9
theorem o_term : Opens Tryz.prog 33 Enc.told := opens_told (a := 9) (b := 31) (by kernel_rfl) (by kernel_rfl) Tryz.underlying9 o_val2
theorem o_exp (N : Nat) : OpensB N Tryz.prog 36 (Enc.exp (N + 1)) := opens_exp (a := 3) (b := 33) (c := 34) (by kernel_rfl) (by kernel_rfl) (of_decide_eq_true (by kernel_rfl)) Tryz.underlying3 o_term Tryz.underlying34 N
theorem u_exp : ∃ fs, Tryz.prog.underlying 36 = some (.struct fs) := ⟨_, Tryz.underlying36⟩
theorem o_terms : Opens Tryz.prog 22 (Enc.slice Enc.told) := opens_slice Tryz.underlying22 o_term (by kernel_rfl) (by show 0 < _; decide) (of_decide_eq_true (by kernel_rfl))
theorem o_lit (N : Nat) : OpensB N Tryz.prog 38 (Enc.lit N) := opens_lit (k := 28) (at_ := 24) (o := 3) (e := 36) (s := 9) (al := 22) (by kernel_rfl) (by kernel_rfl) Tryz.underlying28 Tryz.underlying3 (by kernel_rfl) (by kernel_rfl) Tryz.underlying9 o_terms (o_exp N)
theorem o_lits (N : Nat) : OpensB N Tryz.prog 25 (Enc.slice (Enc.lit N)) := opensB_slice' Tryz.underlying25 (o_lit N) (by show _ = 17; kernel_rfl) (show 0 < 17 by decide) (of_decide_eq_true (by kernel_rfl))
theorem o_rule (N : Nat) : OpensB N Tryz.prog 27 (Enc.rule N) := opens_rule (at_ := 24) (o := 3) (lt := 25) (s := 9) (al := 22) (by kernel_rfl) (by kernel_rfl) Tryz.underlying3 (by kernel_rfl) (by kernel_rfl) Tryz.underlying9 o_terms (o_lits N)
theorem o_rules (N : Nat) : OpensB N Tryz.prog 72 (Enc.slice (Enc.rule N)) := opensB_slice' Tryz.underlying72 (o_rule N) (by show _ = 6; kernel_rfl) (show 0 < 6 by decide) (of_decide_eq_true (by kernel_rfl))
theorem o_kind : Opens Tryz.prog 29 Enc.int := opens_int Tryz.underlying29
theorem o_kinds : Opens Tryz.prog 153 (Enc.slice Enc.int) := opens_slice Tryz.underlying153 o_kind (by kernel_rfl) (by show 0 < _; decide) (of_decide_eq_true (by kernel_rfl))
theorem o_decl : Opens Tryz.prog 155 Enc.decl := opens_decl (s := 9) (k := 153) (o := 3) (by kernel_rfl) (by kernel_rfl) Tryz.underlying9 o_kinds Tryz.underlying3
theorem o_decls : Opens Tryz.prog 71 (Enc.slice Enc.decl) := opens_slice Tryz.underlying71 o_decl (by kernel_rfl) (by show 0 < _; decide) (of_decide_eq_true (by kernel_rfl))
theorem o_prog (N : Nat) : OpensB N Tryz.prog 74 (Enc.prog N) := opens_prog (a := 71) (b := 72) (by kernel_rfl) (by kernel_rfl) o_decls (o_rules N)
theorem u_prog : ∃ fs, Tryz.prog.underlying 74 = some (.struct fs) := ⟨_, Tryz.underlying74⟩
end Go.Proofs.YtplekbpmfaghbaaGreatDoor
