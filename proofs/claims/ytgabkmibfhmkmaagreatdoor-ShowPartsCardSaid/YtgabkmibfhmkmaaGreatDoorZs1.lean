/- My own texts Base, Open, Num, Shelf, Tab, as far as this claim needs them. -/
import Derived.WalkKit
import Derived.WalkSpells
import Derived.WalkLawsBesides
import Derived.MapKept
import Derived.BigQuiet
import Derived.Lib.Hide
import Derived.Deep.Draws
import Derived.Deep.QuietTactic
import Derived.SizedLaws
import Derived.ProofKit
import Derived.Deep.Slices
import Derived.Test.YtgabkmibfhmkmaaGreatDoorProg
import Derived.Shelf.Strings.Builder1
import Derived.Shelf.Strings.Builder2
import Derived.Shelf.Strings.OnBuilder
import Derived.Shelf.Small.Bits
import Derived.Shelf.Small.Strs
import Derived.Shelf.Small.Wraps
import Derived.Shelf.Strings.BuilderF
import Derived.Shelf.Strings.BuilderK
import Derived.Shelf.Strconv.Atoi
import Derived.Shelf.Strconv.Itoa0
import Derived.Shelf.Strconv.Itoa1
import Derived.Shelf.LaysM
import Derived.Shelf.Strconv.Itoa2
import Derived.Shelf.Strconv.Itoa3
import Derived.Shelf.Strconv.AtoiErrFast
import Derived.Shelf.Strconv.ParseIntEmpty
import Derived.Shelf.Strconv.AtoiFail
import Derived.Shelf.Strconv.Clone
import Derived.Shelf.Strconv.SyntaxError
import Derived.Shelf.LaysC
import Derived.Shelf.Strconv.ToError
import Derived.Shelf.Strconv.Lower
import Derived.Shelf.Strconv.ParseUint10
import Derived.Shelf.Strconv.ParseUint10Empty
import Derived.Shelf.Strconv.ParseUint10Any
import Derived.Shelf.Strconv.ParseInt10
import Derived.Shelf.Strconv.AtoiLong
import Derived.Shelf.Strconv.AtoiInnerAll
import Derived.Shelf.Strconv.RangeError
import Derived.Shelf.Strconv.ToErrorRange
import Derived.Shelf.Strconv.AtoiAll
import Derived.Shelf.Strconv.ErrVarAll
import Derived.Shelf.Strings.Search1
import Derived.Shelf.Strings.Search2
import Derived.Shelf.Strings.Cut
import Derived.Shelf.Strings.Shaped
import Derived.Shelf.Strings.Prefix
import Derived.Shelf.Slices.Reverse
import Derived.Ground.Names2Prog
import Derived.Shelf.Slices.SearchI
import Derived.Shelf.Slices.Delete
import Derived.Shelf.Slices.Cells
import Derived.Shelf.Slices.Empties
import Derived.Lib.AppendIntMem
import Derived.Lib.ItoaLen
set_option linter.unusedVariables false
set_option linter.unusedSimpArgs false
namespace Go.Proofs.YtgabkmibfhmkmaaGreatDoor
open Go.RowKit
theorem toList_inj (a b : ByteArray) : a.toList = b.toList ↔ a = b := by
  rw [ByteArray.toList_eq, ByteArray.toList_eq]
  obtain ⟨⟨x⟩⟩ := a
  obtain ⟨⟨y⟩⟩ := b
  simp
instance : LawfulBEq ByteArray where
  eq_of_beq {a b} h := by rw [beq_toListBytes] at h; exact (toList_inj a b).1 (by simpa using h)
  rfl {a} := by rw [beq_toListBytes]; simp
structure MapIs (w : World) (b : Nat) (kvs : List (ByteArray × Value)) : Prop where
  ex : ∃ es clock, w.heap[b]? = some (.map es clock) ∧ es.toList.map (fun e => (e.key, e.val)) = kvs.map (fun p => (Value.string p.1, p.2)) ∧
    (es.toList.map (·.born)).Nodup ∧ ∀ e ∈ es.toList, e.born < clock
  keys : (kvs.map Prod.fst).Nodup
section
variable {P : Program} {w : World} {b : Nat} {kvs : List (ByteArray × Value)}
theorem MapIs.len (h : MapIs w b kvs) {t k e : TypeId} (ht : P.underlying t = some (.map k e)) (ty : TypeId) :
    (Builtin.len_ #[t] ty #[.map (some b)]).run P w = .ok (.int .i64 kvs.length) w := by
  obtain ⟨es, clock, hb, hes, _, _⟩ := h.ex
  have hl : es.size = kvs.length := by have := congrArg List.length hes; simpa using this
  simp [Builtin.len_, run_underlying ht, MapKept.run_getObj_map hb, hl, goInt]
theorem heap_set_grown {o : Obj} : w.grownBy { w with heap := w.heap.setIfInBounds b o } (some b) :=
  ⟨rfl, rfl, rfl, by simp, fun k _ hne => by
    show (w.heap.setIfInBounds b o)[k]? = _
    rw [Array.getElem?_setIfInBounds_ne (by intro e; exact hne (by rw [e]))]⟩
theorem MapIs.lt (h : MapIs w b kvs) : b < w.heap.size := by
  obtain ⟨es, clock, hb, _⟩ := h.ex
  exact (Array.getElem?_eq_some_iff.1 hb).1
theorem MapIs.same {w' : World} (h : MapIs w b kvs) (hs : w'.heap[b]? = w.heap[b]?) : MapIs w' b kvs := by
  obtain ⟨⟨es, clock, hb, r⟩, k⟩ := h
  exact ⟨⟨es, clock, by rw [hs]; exact hb, r⟩, k⟩
theorem MapIs.below {w' : World} {B : Nat} (h : MapIs w b kvs) (hb : Below B w w') (hB : b < B) : MapIs w' b kvs := h.same (hb.block b hB)
theorem MapIs.alloc (h : MapIs w b kvs) (o : Obj) : MapIs (w.alloc o) b kvs := h.same (Below.heap_alloc w o b h.lt)
theorem MapIs.drewN (h : MapIs w b kvs) (n : Nat) : MapIs (w.drewN n) b kvs := h.same rfl
theorem MapIs.drew (h : MapIs w b kvs) : MapIs w.drew b kvs := h.same rfl
theorem MapIs.grown {w' : World} {row : Option Nat} (h : MapIs w b kvs) (hg : w.grownBy w' row) (hne : some b ≠ row) : MapIs w' b kvs := h.same (hg.block b h.lt hne)
end
theorem below_cell {w w' : World} {a : Addr} {v : Value} (hb : Below w.heap.size w w') (h : w.cell? a = some v) : w'.cell? a = some v :=
  (hb.cell (World.block_lt_of_cell? w a h)).trans h
theorem belowA {w W : World} (h : Below w.heap.size w W) (o : Obj) : Below w.heap.size w (W.alloc o) := h.alloc h.size o
theorem bcell {W w1 : World} (hb : Below W.heap.size W w1) : (∀ b o, b < W.heap.size → w1.cell? ⟨b, o, none⟩ = W.cell? ⟨b, o, none⟩) ∧ (∀ b o, b < W.heap.size → w1.frozen? ⟨b, o, none⟩ = W.frozen? ⟨b, o, none⟩) :=
  ⟨fun b o h => hb.cell (p := ⟨b, o, none⟩) h, fun b o h => hb.frozen (p := ⟨b, o, none⟩) h⟩
theorem cellA {w : World} {o : Obj} {a : Addr} {v : Value} (h : w.cell? a = some v) : (w.alloc o).cell? a = some v := below_cell (belowA (Below.refl _ _) o) h
theorem below_drewN (w : World) (n : Nat) (B : Nat) : Below B w (w.drewN n) := ⟨rfl, rfl, rfl, Nat.le_refl _, fun _ _ => rfl⟩
/-- what a string, slice or map that came in takes at most (the form's own reach) -/
def reachN : Nat := 140737488351232
/-- rows that hold cells stay as they are, below B -/
def Kept (w w' : World) (B : Nat) : Prop := ∀ b, b < B → ∀ cs t fr, w.heap[b]? = some (.cells cs t fr) → cs ≠ #[] → w'.heap[b]? = some (.cells cs t fr)
theorem Kept.of {w w' : World} {B : Nat} (hk : ∀ b, b < B → w'.heap[b]? = w.heap[b]?) : Kept w w' B := fun b hb _ _ _ h _ => (hk b hb).trans h
theorem Kept.cell {w w' : World} {B b i : Nat} {v : Value} (hk : Kept w w' B) (hb : b < B) (h : w.cell? ⟨b, i, none⟩ = some v) : w'.cell? ⟨b, i, none⟩ = some v := by
  cases ho : w.heap[b]? with
  | none => simp [World.cell?, ho] at h
  | some o =>
    cases o with
    | cells cs t fr =>
      have h1 : cs[i]? = some v := by simpa [World.cell?, ho] using h
      have h2 := hk b hb cs t fr ho (by rintro rfl; simp at h1)
      simpa [World.cell?, h2] using h1
    | _ => simp [World.cell?, ho] at h
structure Enc (α : Type) where
  sz : Nat
  ok : World → Nat → List Value → α → Prop
  mono : ∀ {w w' : World} {B B' : Nat} {cs : List Value} {x : α}, B ≤ B' → Kept w w' B → ok w B cs x → ok w' B' cs x
  len : ∀ {w : World} {B : Nat} {cs : List Value} {x : α}, ok w B cs x → cs.length = sz
/-- the slice value '.slice A n c' holds the list l; all its blocks lie below B -/
def SliceIs {α : Type} (E : Enc α) (w : World) (B : Nat) (A : Option Addr) (n c : Nat) (l : List α) : Prop :=
  l.length = n ∧ n ≤ c ∧ c ≤ maxLen ∧ n ≤ reachN ∧ (l = [] ∨ ∃ b o, A = some ⟨b, o, none⟩ ∧ b < B ∧
    ∀ i x, l[i]? = some x → ∃ cs, E.ok w B cs x ∧ ∀ j v, cs[j]? = some v → w.cell? ⟨b, o + i * E.sz + j, none⟩ = some v)
theorem SliceIs.mono' {α : Type} {E : Enc α} {w w' : World} {B B' : Nat} {A : Option Addr} {n c : Nat} {l : List α} (h : SliceIs E w B A n c l) (hB : B ≤ B') (hk : Kept w w' B) :
    SliceIs E w' B' A n c l := by
  obtain ⟨h1, h2, h3, hr, h4⟩ := h
  refine ⟨h1, h2, h3, hr, ?_⟩
  rcases h4 with h4 | ⟨b, o, hA, hb, hc⟩
  · exact .inl h4
  · refine .inr ⟨b, o, hA, by omega, fun i x hx => ?_⟩
    obtain ⟨cs, hok, hcs⟩ := hc i x hx
    exact ⟨cs, E.mono hB hk hok, fun j v hv => hk.cell hb (hcs j v hv)⟩
theorem SliceIs.mono {α : Type} {E : Enc α} {w w' : World} {B B' : Nat} {A : Option Addr} {n c : Nat} {l : List α} (h : SliceIs E w B A n c l) (hB : B ≤ B') (hk : ∀ b, b < B → w'.heap[b]? = w.heap[b]?) :
    SliceIs E w' B' A n c l := h.mono' hB (Kept.of hk)
theorem SliceIs.below {α : Type} {E : Enc α} {w w' : World} {B : Nat} {A : Option Addr} {n c : Nat} {l : List α} (h : SliceIs E w B A n c l) (hb : Below B w w') : SliceIs E w' B A n c l :=
  h.mono (Nat.le_refl _) hb.block
theorem SliceIs.bound {α : Type} {E : Enc α} {w : World} {B : Nat} {A : Option Addr} {n c : Nat} {l : List α} (h : SliceIs E w B A n c l) : n ≤ 140737488351232 := h.2.2.2.1
def Enc.slice {α : Type} (E : Enc α) : Enc (List α) where
  sz := 1
  ok w B cs l := ∃ A n c, cs = [.slice A n c] ∧ SliceIs E w B A n c l
  mono hB hk := fun ⟨A, n, c, e, h⟩ => ⟨A, n, c, e, h.mono' hB hk⟩
  len := fun ⟨_, _, _, e, _⟩ => by rw [e]; rfl
def fits (n : Int) : Prop := (Lit.int .i64 n).wf = true
def Enc.int : Enc Int where
  sz := 1
  ok _ _ cs n := cs = [.int .i64 n] ∧ fits n
  mono _ _ h := h
  len h := by rw [h.1]; rfl
def Enc.str : Enc ByteArray where
  sz := 1
  ok _ _ cs s := cs = [.string s] ∧ s.size ≤ reachN
  mono _ _ h := h
  len h := by rw [h.1]; rfl
/-- a value of the program (api.Value) -/
structure GV where
  k : Int
  n : Int
  s : ByteArray
def GV.beq (x y : GV) : Bool := x.k == y.k && (x.n == y.n && x.s.toList == y.s.toList)
abbrev GV.v (x : GV) : Value := .agg #[.int .i64 x.k, .int .i64 x.n, .string x.s]
def GV.ok (x : GV) : Prop := fits x.k ∧ fits x.n ∧ x.s.size ≤ reachN
def Enc.val : Enc GV where
  sz := 3
  ok _ _ cs x := cs = [.int .i64 x.k, .int .i64 x.n, .string x.s] ∧ x.ok
  mono _ _ h := h
  len h := by rw [h.1]; rfl
/-- a variable and its value (corollaryref13.Told) -/
structure GTold where
  x : ByteArray
  v : GV
def Enc.told : Enc GTold where
  sz := 4
  ok _ _ cs t := cs = [.string t.x, .int .i64 t.v.k, .int .i64 t.v.n, .string t.v.s] ∧ t.x.size ≤ reachN ∧ t.v.ok
  mono _ _ h := h
  len h := by rw [h.1]; rfl
theorem SliceIs.at_ {α : Type} {E : Enc α} {w : World} {B : Nat} {A : Option Addr} {n c : Nat} {l : List α} (h : SliceIs E w B A n c l) {i : Nat} (hi : i < n) :
    ∃ b o x cs, A = some ⟨b, o, none⟩ ∧ b < B ∧ Hid (l[i]? = some x) ∧ E.ok w B cs x ∧ ∀ j v, cs[j]? = some v → w.cell? ⟨b, o + i * E.sz + j, none⟩ = some v := by
  obtain ⟨h1, h2, h3, hr, h4⟩ := h
  rcases h4 with h4 | ⟨b, o, hA, hb, hc⟩
  · subst h4; simp at h1; omega
  · have hx := List.getElem?_eq_getElem (l := l) (i := i) (by omega)
    obtain ⟨cs, hok, hcs⟩ := hc i _ hx
    exact ⟨b, o, _, cs, hA, hb, hx, hok, hcs⟩
section
variable {w : World} {B : Nat} {A : Option Addr} {n c : Nat}
theorem SliceIs.str_at {l : List ByteArray} (h : SliceIs Enc.str w B A n c l) {i : Nat} (hi : i < n) :
    ∃ b o x, A = some ⟨b, o, none⟩ ∧ b < B ∧ Hid (l[i]? = some x) ∧ w.cell? ⟨b, o + i, none⟩ = some (.string x) ∧ x.size ≤ 140737488351232 := by
  obtain ⟨b, o, x, cs, hA, hb, hx, ⟨rfl, hf⟩, hc⟩ := h.at_ hi
  exact ⟨b, o, x, hA, hb, hx, by simpa [Enc.str] using hc 0 _ rfl, hf⟩
theorem SliceIs.told_at {l : List GTold} (h : SliceIs Enc.told w B A n c l) {i : Nat} (hi : i < n) :
    ∃ b o x, A = some ⟨b, o, none⟩ ∧ b < B ∧ Hid (l[i]? = some x) ∧ w.cell? ⟨b, o + i * 4, none⟩ = some (.string x.x) ∧ w.cell? ⟨b, o + i * 4 + 1, none⟩ = some (.int .i64 x.v.k) ∧
      w.cell? ⟨b, o + i * 4 + 2, none⟩ = some (.int .i64 x.v.n) ∧ w.cell? ⟨b, o + i * 4 + 3, none⟩ = some (.string x.v.s) ∧ x.x.size ≤ 140737488351232 ∧ x.v.ok := by
  obtain ⟨b, o, x, cs, hA, hb, hx, ⟨rfl, hf⟩, hc⟩ := h.at_ hi
  exact ⟨b, o, x, hA, hb, hx, by simpa [Enc.told] using hc 0 _ rfl, by simpa [Enc.told] using hc 1 _ rfl, by simpa [Enc.told] using hc 2 _ rfl, by simpa [Enc.told] using hc 3 _ rfl, hf⟩
end
theorem SliceIs.nil {α : Type} {E : Enc α} {w : World} {B : Nat} : SliceIs E w B none 0 0 [] := ⟨rfl, Nat.le_refl _, by simp [maxLen], by simp [reachN], .inl rfl⟩
/-- a row of the call's own, read as a list -/
theorem SliceIs.of_own {α : Type} {E : Enc α} {w : World} {base e : Nat} {A : Option Addr} {n c : Nat} {l : List α} {xs : List Value}
    (h : w.ownsRow base e E.sz (.slice A n c) n xs) (hl : l.length = n) (hr : n ≤ reachN) (hx : ∀ i x, l[i]? = some x → E.ok w w.heap.size ((xs.drop (i * E.sz)).take E.sz) x) : SliceIs E w w.heap.size A n c l := by
  obtain ⟨h1, h2⟩ := h
  rcases h2 with ⟨hv, hn⟩ | ⟨g, cap, cur, hv, hg, hh, hnc, hcm, hsz, htk⟩
  · simp only [Value.slice.injEq] at hv
    obtain ⟨rfl, _, rfl⟩ := hv
    subst hn
    exact ⟨hl, Nat.le_refl _, by simp [maxLen], hr, .inl (List.eq_nil_of_length_eq_zero hl)⟩
  · simp only [Value.slice.injEq] at hv
    obtain ⟨rfl, _, rfl⟩ := hv
    refine ⟨hl, hnc, hcm, hr, .inr ⟨g, 0, rfl, (Array.getElem?_eq_some_iff.1 hh).1, fun i x hix => ⟨_, hx i x hix, fun j v hv => ?_⟩⟩⟩
    rw [cell_of_row w g _ cur e (0, 0) hh]
    rw [List.getElem?_take] at hv
    split at hv
    · rw [List.getElem?_drop, ← htk, List.getElem?_take] at hv
      split at hv
      · simpa [Array.getElem?_toList] using hv
      · cases hv
    · cases hv
theorem flat_piece {α : Type} (f : α → List Value) {sz : Nat} (hf : ∀ x, (f x).length = sz) : ∀ (l : List α) (i : Nat) (x : α), l[i]? = some x → ((l.flatMap f).drop (i * sz)).take sz = f x
  | [], _, _, h => by simp at h
  | y :: l, 0, x, h => by
    simp at h
    subst h
    simp [List.flatMap_cons, ← hf y]
  | y :: l, i + 1, x, h => by
    have ih := flat_piece f hf l i x (by simpa using h)
    rw [List.flatMap_cons, List.drop_append, hf y]
    have h1 : (f y).drop ((i + 1) * sz) = [] := List.drop_of_length_le (by rw [hf y, Nat.add_mul]; omega)
    rw [h1, List.nil_append]
    have h2 : (i + 1) * sz - sz = i * sz := by rw [Nat.add_mul]; omega
    rw [h2]; exact ih
theorem SliceIs.of_flat {α : Type} {E : Enc α} {w : World} {base e : Nat} {A : Option Addr} {n c : Nat} {l : List α} (f : α → List Value) (hf : ∀ x, (f x).length = E.sz)
    (h : w.ownsRow base e E.sz (.slice A n c) n (l.flatMap f)) (hl : l.length = n) (hr : n ≤ reachN) (hok : ∀ x ∈ l, E.ok w w.heap.size (f x) x) : SliceIs E w w.heap.size A n c l :=
  SliceIs.of_own h hl hr fun i x hx => by rw [flat_piece f hf l i x hx]; exact hok x (List.mem_of_getElem? hx)
theorem own_below {w w' : World} {base e sz : Nat} {v : Value} {n : Nat} {xs : List Value} (h : w.ownsRow base e sz v n xs) (hb : Below w.heap.size w w') : w'.ownsRow base e sz v n xs := by
  refine ⟨h.1, ?_⟩
  rcases h.2 with hn | ⟨g, cap, cur, rfl, hg, hh, r⟩
  · exact .inl hn
  · exact .inr ⟨g, cap, cur, rfl, hg, (hb.block g (Array.getElem?_eq_some_iff.1 hh).1).trans hh, r⟩
/-- an own row is a slice value -/
theorem own_form {w : World} {base e sz : Nat} {v : Value} {n : Nat} {xs : List Value} (h : w.ownsRow base e sz v n xs) : ∃ A c, v = .slice A n c := by
  rcases h.2 with ⟨rfl, rfl⟩ | ⟨g, cap, cur, rfl, _⟩
  · exact ⟨_, _, rfl⟩
  · exact ⟨_, _, rfl⟩
theorem own_block {w : World} {base e sz : Nat} {v : Value} {n : Nat} {xs : List Value} (h : w.ownsRow base e sz v n xs) : ∀ k, v.ownBlock = some k → base ≤ k := by
  rcases h.2 with ⟨rfl, rfl⟩ | ⟨g, cap, cur, rfl, hg, _⟩
  · intro k hk; cases hk
  · intro k hk; simp [Value.ownBlock] at hk; omega
/-- append of one element, which the statement has just laid into a row of its own, onto a row of the call's own -/
theorem run_push {P : Program} (w0 : World) (g0 : Nat) (hg0 : w0.heap.size = g0) {base t ty e size bytes : Nat} {z : Value} (ht : P.underlying t = some (.slice e)) (hi : (P.info? e).map (fun i => (i.zero, i.size, i.bytes)) = some (some z, size, bytes))
    (hzs : z.cells.size = size) (hsz : 0 < size) {v : Value} {n : Nat} {xs : List Value} (hown : w0.ownsRow base e size v n xs) (cs : List Value) (hl : cs.length = size) (h1 : ∀ u ∈ cs, u.oneCell' = true)
    (h63 : n + 1 ≤ maxLen) (hbytes : (n + 1) * bytes ≤ 140737488355328) (hbase : base ≤ w0.heap.size) :
    ∃ v' w', (Builtin.append_ #[t, t] ty #[v, .slice (some ⟨g0, 0, none⟩) 1 1]).run P (w0.alloc (.cells cs.toArray e)) = .ok v' w' ∧ w'.ownsRow base e size v' (n + 1) (xs ++ cs) ∧ Below base w0 w' := by
  obtain ⟨i, hi', hz, hs, hb⟩ := info_parts hi
  subst hg0
  have hnews : ∀ j u, cs[j]? = some u → (w0.alloc (.cells cs.toArray e)).cell? ((⟨w0.heap.size, 0, none⟩ : Addr).add j) = some u := by
    intro j u hu
    have hadd : (⟨w0.heap.size, 0, none⟩ : Addr).add j = ⟨w0.heap.size, j, none⟩ := by unfold Addr.add; split <;> simp_all
    rw [hadd, cell_of_row _ w0.heap.size j cs.toArray e (0, 0) (heap_alloc_new w0 _)]
    simpa using hu
  obtain ⟨v', w', hrun, ho, hg, _⟩ := run_append_own (P := P) (w0.alloc (.cells cs.toArray e)) base t ty e i z size bytes ht hi' hz hs hb hzs hsz v n xs (hown.alloc _) ⟨w0.heap.size, 0, none⟩ 1 1 cs (by rw [hl]; omega) hnews h1 h63 hbytes (by simp; omega)
  exact ⟨v', w', hrun, ho, ((Below.refl base w0).alloc hbase _).grown hg (by simp; omega) (own_block hown)⟩
theorem wpList_append_run {P : Program} {w w' : World} {ops : Array Oper} {rest : List Oper} {o : Oper} {a : Act} {Q : Exit → Act → World → Prop} {v' : Value} (hg : o.guard = none) (s x : Operand) (t : TypeId)
    (ho : o.op = .call { callee := .builtin .append, args := #[s, x], argTypes := #[t, t] }) (v xv : Value) (hs : a.eval s = v) (hx : a.eval x = xv)
    (hrun : (Builtin.append_ #[t, t] o.type #[v, xv]).run P w = .ok v' w') (h : wpList P ops Q rest (a.put o.dst v') w') : wpList P ops Q (o :: rest) a w :=
  wpList_plain hg fun K hK => by
    unfold Oper.wp execOp
    simp only [ho, resolve, invoke, builtin, Sem.run_bind, Sem.run_pure, Result.andThen_ok, List.map_toArray, List.map_cons, List.map_nil, hs, hx, hrun]
    exact hK _ _ h
/-- an error by its number: 0 is none -/
def errV (T : TypeId) (n : Int) : Value := if n = 0 then .nilIface else .iface T (.int .i64 n)
def GV.cells (x : GV) : List Value := [.int .i64 x.k, .int .i64 x.n, .string x.s]
def GTold.cells (t : GTold) : List Value := [.string t.x, .int .i64 t.v.k, .int .i64 t.v.n, .string t.v.s]
theorem heapNew {w : World} {o : Obj} {g : Nat} (h : w.heap.size = g) : (w.alloc o).heap[g]? = some o := by subst h; exact heap_alloc_new w o
theorem heapOld {w : World} {o x : Obj} {g : Nat} (h : w.heap[g]? = some x) : (w.alloc o).heap[g]? = some x := (Below.heap_alloc w o g (Array.getElem?_eq_some_iff.1 h).1).trans h
/-- append of one element that lies in block g onto a row of the call's own -/
theorem run_push_at {P : Program} (w : World) {base t ty e size bytes : Nat} {z : Value} (ht : P.underlying t = some (.slice e)) (hi : (P.info? e).map (fun i => (i.zero, i.size, i.bytes)) = some (some z, size, bytes))
    (hzs : z.cells.size = size) (hsz : 0 < size) {v : Value} {n : Nat} {xs : List Value} (hown : w.ownsRow base e size v n xs) (g : Nat) (cs : List Value) (hl : cs.length = size) (hg : w.heap[g]? = some (.cells cs.toArray e (0, 0))) (h1 : ∀ u ∈ cs, u.oneCell' = true)
    (h63 : n + 1 ≤ maxLen) (hbytes : (n + 1) * bytes ≤ 140737488355328) (hbase : base ≤ w.heap.size) :
    ∃ v' w', (Builtin.append_ #[t, t] ty #[v, .slice (some ⟨g, 0, none⟩) 1 1]).run P w = .ok v' w' ∧ w'.ownsRow base e size v' (n + 1) (xs ++ cs) ∧ w.grownBy w' v.ownBlock ∧ Below base w w' := by
  obtain ⟨i, hi', hz, hs, hb⟩ := info_parts hi
  have hnews : ∀ j u, cs[j]? = some u → w.cell? ((⟨g, 0, none⟩ : Addr).add j) = some u := by
    intro j u hu
    have hadd : (⟨g, 0, none⟩ : Addr).add j = ⟨g, j, none⟩ := by unfold Addr.add; split <;> simp_all
    rw [hadd, cell_of_row _ g j cs.toArray e (0, 0) hg]
    simpa using hu
  obtain ⟨v', w', hrun, ho, hgr, _⟩ := run_append_own (P := P) w base t ty e i z size bytes ht hi' hz hs hb hzs hsz v n xs hown ⟨g, 0, none⟩ 1 1 cs (by rw [hl]; omega) hnews h1 h63 hbytes hbase
  exact ⟨v', w', hrun, ho, hgr, (Below.refl base w).grown hgr hbase (own_block hown)⟩
theorem nodup_len {α : Type} : ∀ (l m : List α), l.Nodup → (∀ x ∈ l, x ∈ m) → l.length ≤ m.length
  | [], _, _, _ => Nat.zero_le _
  | x :: l, m, hn, hs => by
    obtain ⟨s, t, rfl⟩ := List.append_of_mem (hs x (by simp))
    rw [List.nodup_cons] at hn
    have := nodup_len l (s ++ t) hn.2 (fun y hy => by
      have := hs y (by simp [hy])
      simp only [List.mem_append, List.mem_cons] at this ⊢
      rcases this with h | h | h
      · exact .inl h
      · subst h; exact absurd hy hn.1
      · exact .inr h)
    simp only [List.length_append, List.length_cons] at this ⊢
    omega
/-- a walk over the map in block g by the iterator in block it; done: what has been met -/
structure IterIs (w : World) (it g : Nat) (kvs done : List (ByteArray × Value)) : Prop where
  ex : ∃ (es : Array MapEntry) (clock : Nat) (seen : Array Nat) (last : Nat) (ds : List MapEntry), w.heap[g]? = some (.map es clock) ∧ es.toList.map (fun e => (e.key, e.val)) = kvs.map (fun p => (Value.string p.1, p.2)) ∧
    (es.toList.map (·.born)).Nodup ∧ (∀ e ∈ es.toList, e.born < clock) ∧ w.heap[it]? = some (.mapIter (some g) clock seen last) ∧ (done ≠ [] → last = clock) ∧
    (∀ e ∈ ds, e ∈ es.toList) ∧ seen.toList = ds.map (·.born) ∧ ds.map (fun e => (e.key, e.val)) = done.map (fun p => (Value.string p.1, p.2))
  keys : (kvs.map Prod.fst).Nodup
  sub : ∀ p ∈ done, p ∈ kvs
  once : done.Nodup
section
variable {P : Program} {w : World} {it g : Nat} {kvs done : List (ByteArray × Value)}
theorem entry_of_mem {es : List MapEntry} {kvs : List (ByteArray × Value)} (h : es.map (fun e => (e.key, e.val)) = kvs.map (fun p => (Value.string p.1, p.2))) {e : MapEntry} (he : e ∈ es) :
    ∃ p ∈ kvs, e.key = .string p.1 ∧ e.val = p.2 := by
  have h1 : (e.key, e.val) ∈ es.map (fun e => (e.key, e.val)) := List.mem_map.2 ⟨e, he, rfl⟩
  rw [h] at h1
  obtain ⟨p, hp, hpe⟩ := List.mem_map.1 h1
  simp only [Prod.mk.injEq] at hpe
  exact ⟨p, hp, hpe.1.symm, hpe.2.symm⟩
theorem mem_of_entry {es : List MapEntry} {kvs : List (ByteArray × Value)} (h : es.map (fun e => (e.key, e.val)) = kvs.map (fun p => (Value.string p.1, p.2))) {p : ByteArray × Value} (hp : p ∈ kvs) :
    ∃ e ∈ es, e.key = .string p.1 ∧ e.val = p.2 := by
  have h1 : (Value.string p.1, p.2) ∈ kvs.map (fun p => (Value.string p.1, p.2)) := List.mem_map.2 ⟨p, hp, rfl⟩
  rw [← h] at h1
  obtain ⟨e, he, hpe⟩ := List.mem_map.1 h1
  simp only [Prod.mk.injEq] at hpe
  exact ⟨e, he, hpe.1, hpe.2⟩
theorem born_inj {es : List MapEntry} (hn : (es.map (·.born)).Nodup) {e e' : MapEntry} (he : e ∈ es) (he' : e' ∈ es) (hb : e.born = e'.born) : e = e' := by
  induction es with
  | nil => cases he
  | cons x es ih =>
    simp only [List.map_cons, List.nodup_cons] at hn
    rcases List.mem_cons.1 he with h1 | h1 <;> rcases List.mem_cons.1 he' with h2 | h2
    · rw [h1, h2]
    · exact absurd (List.mem_map.2 ⟨e', h2, by rw [← hb, h1]⟩) hn.1
    · exact absurd (List.mem_map.2 ⟨e, h1, by rw [hb, h2]⟩) hn.1
    · exact ih hn.2 h1 h2
theorem MapIs.range (h : MapIs w g kvs) {t k e : TypeId} (ht : P.underlying t = some (.map k e)) :
    ∃ clock, (Instr.range t (.map (some g))).run P w = .ok (.pointer (some ⟨w.heap.size, 0, none⟩)) (w.alloc (.mapIter (some g) clock #[] clock)) ∧ IterIs (w.alloc (.mapIter (some g) clock #[] clock)) w.heap.size g kvs [] := by
  obtain ⟨es, clock, hb, hes, hn, hc⟩ := h.ex
  refine ⟨clock, ?_, ⟨⟨es, clock, #[], clock, [], heapOld hb, hes, hn, hc, heapNew rfl, fun _ => rfl, by simp, by simp, by simp⟩, h.keys, by simp, by simp⟩⟩
  simp only [Instr.range, Sem.run_bind, run_underlying ht, Result.andThen_ok, MapKept.run_getObj_map hb, Sem.run_pure]
  rfl
theorem IterIs.next (h : IterIs w it g kvs done) (hne : it ≠ g) (ty : TypeId) :
    ((∀ p ∈ kvs, p ∈ done) ∧ (Instr.next (.pointer (some ⟨it, 0, none⟩)) false ty).run P w = .ok (.tuple #[.bool false]) w) ∨
    ∃ p w', p ∈ kvs ∧ p ∉ done ∧ (Instr.next (.pointer (some ⟨it, 0, none⟩)) false ty).run P w = .ok (.tuple #[.bool true, .string p.1, p.2]) w' ∧ IterIs w' it g kvs (done ++ [p]) ∧ w.grownBy w' (some it) ∧ w'.heap.size = w.heap.size := by
  obtain ⟨es, clock, seen, last, ds, hb, hes, hn, hc, hit, hlast, hds, hseen, hdone⟩ := h.ex
  have hgo : (getObj it).run P w = .ok (.mapIter (some g) clock seen last) w := by simp [getObj, Sem.run, hit]
  have hguard : (!seen.isEmpty && !es.isEmpty && es.all (·.born ≥ last)) = false := by
    by_cases hd : done = []
    · have : ds = [] := by subst hd; simpa using hdone
      subst this
      have : seen = #[] := by apply Array.toList_inj.1; simpa using hseen
      subst this
      simp
    · have hl := hlast hd
      subst hl
      by_cases he : es.isEmpty
      · simp [he]
      · have hne : es.size ≠ 0 := by simpa using he
        have h0 := hc es[0] (by simp)
        have : es.all (·.born ≥ last) = false := by
          rw [Array.all_eq_false]
          exact ⟨0, by omega, by simpa using h0⟩
        simp [this]
  have hold : ∀ l : Array MapEntry, (∀ e ∈ l.toList, e.born < clock) → l.filter (·.born < clock) = l := by
    intro l hl
    rw [Array.filter_eq_self]
    intro a ha
    simpa using hl a (by simpa using ha)
  have hnew : ∀ l : Array MapEntry, (∀ e ∈ l.toList, e.born < clock) → l.filter (·.born ≥ clock) = #[] := by
    intro l hl
    rw [Array.filter_eq_empty_iff]
    intro a ha
    have := hl a (by simpa using ha)
    simp; omega
  have hleft : ∀ e ∈ (es.filter fun e => !seen.contains e.born).toList, e.born < clock := by
    intro e he
    simp at he
    exact hc e (by simpa using he.1)
  have hstart : (Instr.next (.pointer (some ⟨it, 0, none⟩)) false ty).run P w = ((choose (Question.mapNext ((if (es.filter fun e : MapEntry => !seen.contains e.born).isEmpty = true then #[none] else #[]) ++ (es.filter fun e : MapEntry => !seen.contains e.born).map some).size)).run P w).andThen fun j w1 =>
      (match ((if (es.filter fun e : MapEntry => !seen.contains e.born).isEmpty = true then #[none] else #[]) ++ (es.filter fun e : MapEntry => !seen.contains e.born).map some)[j]? with
        | some (some e) => (do
          setObj it (Obj.mapIter (some g) clock (seen.push e.born) clock)
          pure (Value.tuple #[Value.bool true, e.key, e.val]) : Sem Value)
        | some none => pure (Value.tuple #[Value.bool false])
        | none => stuck "Next: no such candidate").run P w1 := by
    simp only [Instr.next, Sem.run_bind, hgo, Result.andThen_ok, MapKept.run_getObj_map hb, hguard, hold _ hleft, hnew _ hleft]
    simp only [Array.append_empty, Bool.false_eq_true, if_false, Sem.run_bind]
    rfl
  rw [hstart]
  have hmem : ∀ e, e ∈ (es.filter fun e => !seen.contains e.born).toList ↔ e ∈ es.toList ∧ e ∉ ds := by
    intro e
    simp only [Array.toList_filter, List.mem_filter, Bool.not_eq_true', and_congr_right_iff]
    intro he
    rw [← Bool.not_eq_true, ← Array.contains_toList, List.contains_iff_mem, hseen]
    constructor
    · intro h1 h2
      exact h1 (List.mem_map.2 ⟨e, h2, rfl⟩)
    · intro h1 h2
      obtain ⟨e', he', hb'⟩ := List.mem_map.1 h2
      have := born_inj hn (hds e' he') he hb'
      subst this
      exact h1 he'
  generalize (es.filter fun e : MapEntry => !seen.contains e.born) = L at hmem
  by_cases hL : L.isEmpty
  · left
    have hL0 : L = #[] := by simpa using hL
    subst hL0
    refine ⟨fun p hp => ?_, ?_⟩
    · obtain ⟨e, he, hk, hv⟩ := mem_of_entry hes hp
      have hd : e ∈ ds := by
        rcases Classical.em (e ∈ ds) with h1 | h1
        · exact h1
        · have := (hmem e).2 ⟨he, h1⟩; simp at this
      obtain ⟨q, hq, hk2, hv2⟩ := entry_of_mem hdone hd
      have hpq : p = q := by
        rw [hk] at hk2
        rw [hv] at hv2
        injection hk2 with hk2
        exact Prod.ext hk2 hv2
      rw [hpq]; exact hq
    · simp only [Array.isEmpty_empty, if_true, Array.map_empty, Array.append_empty]
      rfl
  · right
    have hn1 : 0 < L.size := by
      rcases Nat.eq_zero_or_pos L.size with h0 | h0
      · exact absurd (by simpa using h0) hL
      · exact h0
    obtain ⟨j, w1, hch, hj, hw1⟩ : ∃ j w1, (choose (Question.mapNext L.size)).run P w = .ok j w1 ∧ j < L.size ∧ (w1 = w ∨ w1 = w.drew) := by
      by_cases h1 : L.size ≤ 1
      · exact ⟨0, w, by simp [choose, Sem.run, Question.forced, h1], hn1, .inl rfl⟩
      · exact ⟨(Question.mapNext L.size).cut (w.tape w.drawn (.mapNext L.size)), w.drew, by simp [choose, Sem.run, Question.forced, h1], by simp only [Question.cut]; exact Nat.mod_lt _ hn1, .inr rfl⟩
    have hLj : (L.map some)[j]? = some (some L[j]) := by simp [hj]
    simp only [if_neg hL, Array.empty_append, Array.size_map, hch, Result.andThen_ok, hLj]
    have he : L[j] ∈ es.toList ∧ L[j] ∉ ds := (hmem L[j]).1 (by simp)
    obtain ⟨p, hp, hk, hv⟩ := entry_of_mem hes he.1
    have hpd : p ∉ done := by
      intro hpd
      obtain ⟨e', he', hk', hv'⟩ := mem_of_entry hdone hpd
      obtain ⟨i1, h1⟩ := List.mem_iff_getElem?.1 (hds e' he')
      obtain ⟨i2, h2⟩ := List.mem_iff_getElem?.1 he.1
      have g1 := congrArg (fun l => l[i1]?) hes
      have g2 := congrArg (fun l => l[i2]?) hes
      simp only [List.getElem?_map, h1, h2, Option.map_some] at g1 g2
      have gg : ∀ (i : Nat) (e : Value), (kvs.map (fun p => (Value.string p.1, p.2)))[i]? = some (e, p.2) → e = Value.string p.1 → (kvs.map Prod.fst)[i]? = some p.1 := by
        intro i e hh he
        simp only [List.getElem?_map] at hh ⊢
        cases hx : kvs[i]? with
        | none => rw [hx] at hh; cases hh
        | some q => rw [hx] at hh; subst he; simp at hh; simp [hh.1]
      rw [← List.getElem?_map] at g1 g2
      have e1 := gg i1 _ (by rw [← g1, hv']) hk'
      have e2 := gg i2 _ (by rw [← g2, hv]) hk
      have hi : i1 = i2 := by
        have hl : i1 < (kvs.map Prod.fst).length := by
          rcases Nat.lt_or_ge i1 (kvs.map Prod.fst).length with h | h
          · exact h
          · rw [List.getElem?_eq_none h] at e1; cases e1
        exact List.getElem?_inj hl h.keys |>.1 (by rw [e1, e2])
      subst hi
      rw [h1] at h2
      injection h2 with h2
      exact he.2 (h2 ▸ he')
    have hlt : it < w.heap.size := (Array.getElem?_eq_some_iff.1 hit).1
    have hit1 : w1.heap[it]? = some (.mapIter (some g) clock seen last) := by rcases hw1 with rfl | rfl <;> exact hit
    have hb1 : w1.heap[g]? = some (.map es clock) := by rcases hw1 with rfl | rfl <;> exact hb
    have hset : (setObj it (Obj.mapIter (some g) clock (seen.push L[j].born) clock)).run P w1 = .ok () { w1 with heap := w1.heap.setIfInBounds it (Obj.mapIter (some g) clock (seen.push L[j].born) clock) } := by
      simp [setObj, Sem.run, hit1]
    refine ⟨p, { w1 with heap := w1.heap.setIfInBounds it (Obj.mapIter (some g) clock (seen.push L[j].born) clock) }, hp, hpd, ?_, ?_, ?_, ?_⟩
    · simp only [Sem.run_bind, hset, Result.andThen_ok, Sem.run_pure, hk, hv]
    · have hlt1 : it < w1.heap.size := (Array.getElem?_eq_some_iff.1 hit1).1
      refine ⟨⟨es, clock, seen.push L[j].born, clock, ds ++ [L[j]], ?_, hes, hn, hc, ?_, fun _ => rfl, ?_, ?_, ?_⟩, h.keys, ?_, ?_⟩
      · show (w1.heap.setIfInBounds it _)[g]? = _
        rw [Array.getElem?_setIfInBounds_ne hne]; exact hb1
      · show (w1.heap.setIfInBounds it _)[it]? = _
        simp [hlt1]
      · intro e hh
        rcases List.mem_append.1 hh with hh | hh
        · exact hds e hh
        · simp at hh; subst hh; exact he.1
      · simp [hseen]
      · simp [hdone, hk, hv]
      · intro q hq
        rcases List.mem_append.1 hq with hq | hq
        · exact h.sub q hq
        · simp at hq; subst hq; exact hp
      · rw [List.nodup_append]
        refine ⟨h.once, by simp, ?_⟩
        intro a ha b hb
        simp at hb
        subst hb
        rintro rfl
        exact hpd ha
    · have hg := heap_set_grown (w := w1) (b := it) (o := Obj.mapIter (some g) clock (seen.push L[j].born) clock)
      rcases hw1 with rfl | rfl
      · exact hg
      · exact ⟨hg.os, hg.tape, hg.output, hg.size, hg.block⟩
    · rcases hw1 with rfl | rfl <;> (show (Array.setIfInBounds _ _ _).size = _; rw [Array.size_setIfInBounds]; try rfl)
theorem IterIs.below {w' : World} {B : Nat} (h : IterIs w it g kvs done) (hb : Below B w w') (h1 : it < B) (h2 : g < B) : IterIs w' it g kvs done := by
  obtain ⟨⟨es, clock, seen, last, ds, a1, a2, a3, a4, a5, a6⟩, k, s, o⟩ := h
  exact ⟨⟨es, clock, seen, last, ds, (hb.block g h2).trans a1, a2, a3, a4, (hb.block it h1).trans a5, a6⟩, k, s, o⟩
theorem IterIs.same {w' : World} (h : IterIs w it g kvs done) (h1 : w'.heap[it]? = w.heap[it]?) (h2 : w'.heap[g]? = w.heap[g]?) : IterIs w' it g kvs done := by
  obtain ⟨⟨es, clock, seen, last, ds, a1, a2, a3, a4, a5, a6⟩, k, s, o⟩ := h
  exact ⟨⟨es, clock, seen, last, ds, h2.trans a1, a2, a3, a4, h1.trans a5, a6⟩, k, s, o⟩
theorem IterIs.lt (h : IterIs w it g kvs done) : it < w.heap.size := by
  obtain ⟨⟨es, clock, seen, last, ds, a1, a2, a3, a4, a5, a6⟩, k, s, o⟩ := h
  exact (Array.getElem?_eq_some_iff.1 a5).1
theorem IterIs.map (h : IterIs w it g kvs done) : MapIs w g kvs := by
  obtain ⟨⟨es, clock, seen, last, ds, a1, a2, a3, a4, a5, a6⟩, k, s, o⟩ := h
  exact ⟨⟨es, clock, a1, a2, a3, a4⟩, k⟩
theorem IterIs.len (h : IterIs w it g kvs done) : done.length ≤ kvs.length :=
  nodup_len _ _ h.once h.sub
end
end Go.Proofs.YtgabkmibfhmkmaaGreatDoor

namespace Go.Proofs.YtgabkmibfhmkmaaGreatDoor
open Go.RowKit
/-- what is read at type t lies in cells as E says -/
def Opens {α : Type} (P : Program) (t : TypeId) (E : Enc α) : Prop :=
  ∀ (H : Type) (enc : TypeId × Value → H) (w : World) (fuel : Nat) (cs : List Value) (x : DataW H × List MemPlace),
    DataW.trod enc P w 0 (fun _ => true) true fuel t cs = some x → (∀ n ∈ x.1.weights P t, n ≤ reachBytes) → ∃ y : α, E.ok w w.heap.size cs y
theorem reach_eq : reachBytes = reachN := by decide
def fieldsOf (P : Program) (t : TypeId) : List (TypeId × Nat × Nat) := match P.underlying t with
  | some (.struct fs) => fs.toList.map fun f => (f.type, f.offset, P.cellsOf f.type)
  | _ => []
theorem opens_int {P : Program} {t : TypeId} (h : P.underlying t = some (.int .i64)) : Opens P t Enc.int := by
  intro H enc w fuel cs x hx _
  obtain ⟨n, rfl, _, hw⟩ := DataW.trod_int h hx
  exact ⟨n, rfl, hw⟩
theorem opens_str {P : Program} {t : TypeId} (h : P.underlying t = some .string) : Opens P t Enc.str := by
  intro H enc w fuel cs x hx hwt
  obtain ⟨s, rfl, rfl, _⟩ := DataW.trod_string h hx
  refine ⟨s, rfl, ?_⟩
  have := hwt s.data.toList.length (by simp [DataW.weights])
  rw [reach_eq] at this
  simpa using this
theorem choose_list {α : Type} {Q : Nat → α → Prop} : ∀ n : Nat, (∀ i, i < n → ∃ x, Q i x) → ∃ l : List α, l.length = n ∧ ∀ i x, l[i]? = some x → Q i x
  | 0, _ => ⟨[], rfl, fun i x h => by simp at h⟩
  | n + 1, h => by
    obtain ⟨l, hl, hq⟩ := choose_list n (fun i hi => h i (by omega))
    obtain ⟨x, hx⟩ := h n (by omega)
    refine ⟨l ++ [x], by simp [hl], fun i y hy => ?_⟩
    by_cases hi : i < l.length
    · rw [List.getElem?_append_left hi] at hy
      exact hq i y hy
    · have hil : i < (l ++ [x]).length := (List.getElem?_eq_some_iff.1 hy).1
      simp at hil
      obtain rfl : i = n := by omega
      rw [List.getElem?_append_right (by omega)] at hy
      simp [hl] at hy
      exact hy ▸ hx
theorem weights_all {H : Type} {P : Program} {e : TypeId} {l : List (DataW H)} {d : DataW H} (h : d ∈ l) : ∀ n ∈ d.weights P e, n ∈ DataW.weightsAll P e l := by
  induction l with
  | nil => cases h
  | cons a l ih =>
    intro n hn
    simp only [DataW.weightsAll, List.mem_append]
    rcases List.mem_cons.1 h with rfl | h
    · exact .inl hn
    · exact .inr (ih h n hn)
theorem opens_slice {α : Type} {P : Program} {t e : TypeId} {E : Enc α} (h : P.underlying t = some (.slice e)) (he : Opens P e E) (hc : P.cellsOf e = E.sz) (hz : 0 < E.sz) (hb : 0 < P.bytesOf e) : Opens P t (Enc.slice E) := by
  intro H enc w fuel cs x hx hwt
  rcases Go.Deep.open_slice h hx with ⟨rfl, _⟩ | ⟨a, len, cap, m, n, D, Pl, rfl, _, hl, hm, hmm, rfl, hi⟩
  · exact ⟨[], none, 0, 0, rfl, SliceIs.nil⟩
  · simp only [if_true] at hmm
    subst hmm
    have hw0 := hwt ((len + (m - len)) * P.bytesOf e) (by simp [DataW.weights, h])
    have hle : len ≤ reachN := by
      rw [reach_eq] at hw0
      have : len + (m - len) ≤ (len + (m - len)) * P.bytesOf e := Nat.le_mul_of_pos_right _ hb
      omega
    obtain ⟨l, hll, hq⟩ := choose_list (Q := fun i y => ∃ cs', w.cells? 0 (a.add (i * P.cellsOf e)) (P.cellsOf e) = some cs' ∧ E.ok w w.heap.size cs' y) len (fun i hil => by
      obtain ⟨cs', h1, h2⟩ := hi i (by omega)
      obtain ⟨y, hy⟩ := he H enc w n cs' _ h2 (fun q hq => hwt q (by
        simp only [DataW.weights, h, List.mem_cons, List.mem_append]
        exact .inr (.inl (weights_all (List.mem_map.2 ⟨i, List.mem_range.2 hil, rfl⟩) q hq))))
      exact ⟨y, cs', h1, hy⟩)
    refine ⟨l, some a, len, m, rfl, hll, hl, hm, hle, ?_⟩
    by_cases h0 : len = 0
    · exact .inl (List.eq_nil_of_length_eq_zero (by omega))
    · right
      have hcell : ∀ i y, l[i]? = some y → ∃ cs', E.ok w w.heap.size cs' y ∧ ∀ j v, cs'[j]? = some v → w.cell? (a.add (i * E.sz + j)) = some v := by
        intro i y hy
        obtain ⟨cs', h1, h2⟩ := hq i y hy
        refine ⟨cs', h2, fun j v hj => ?_⟩
        obtain ⟨_, hcl, hat⟩ := World.cells?_some h1
        have hjl : j < P.cellsOf e := by rw [← hcl]; exact (List.getElem?_eq_some_iff.1 hj).1
        have := hat j hjl
        rw [hj, Go.Deep.add_add, hc] at this
        exact this
      have hex : ∃ y, l[0]? = some y := by
        rw [List.getElem?_eq_getElem (by omega)]
        exact ⟨_, rfl⟩
      obtain ⟨y, hy⟩ := hex
      obtain ⟨cs', h1, h2⟩ := hcell 0 y hy
      have hlen := E.len h1
      obtain ⟨v, hv⟩ : ∃ v, cs'[0]? = some v := by
        rw [List.getElem?_eq_getElem (by omega)]
        exact ⟨_, rfl⟩
      have hc0 := h2 0 v hv
      obtain ⟨b, off, spot⟩ := a
      obtain rfl : spot = none := by simpa [Addr.add] using World.cell?_spot hc0
      refine ⟨b, off, rfl, ?_, fun i y hy => ?_⟩
      · exact World.block_lt_of_cell? w _ (by simpa [Addr.add] using hc0)
      · obtain ⟨cs', h1, h2⟩ := hcell i y hy
        refine ⟨cs', h1, fun j v hj => ?_⟩
        have h3 := h2 j v hj
        rw [Nat.add_assoc]
        unfold Addr.add at h3
        split at h3
        · rename_i h0
          rw [h0]
          exact h3
        · exact h3
/-- a struct read: its fields, each by itself -/
theorem open_fields {H : Type} {enc : TypeId × Value → H} {P : Program} {w : World} {t : TypeId} {fuel : Nat} {cs : List Value} {x : DataW H × List MemPlace} {fl : List (TypeId × Nat × Nat)} (hf : fieldsOf P t = fl) (h0 : fl ≠ [])
    (hx : DataW.trod enc P w 0 (fun _ => true) true fuel t cs = some x) (hwt : ∀ n ∈ x.1.weights P t, n ≤ reachBytes) :
    cs.length = P.cellsOf t ∧ ∀ (j : Nat) (f : TypeId × Nat × Nat), fl[j]? = some f → ∃ y n, DataW.trod enc P w 0 (fun _ => true) true n f.1 ((cs.drop f.2.1).take f.2.2) = some y ∧ ∀ n ∈ y.1.weights P f.1, n ≤ reachBytes := by
  unfold fieldsOf at hf
  split at hf
  · rename_i fs hs
    obtain ⟨xs, n, _, rfl, hl, hlen, hat⟩ := DataW.trod_struct hs hx
    refine ⟨hl, fun j f hj => ?_⟩
    subst hf
    rw [List.getElem?_map, Option.map_eq_some_iff] at hj
    obtain ⟨fd, hfd, rfl⟩ := hj
    have hfd' : fs[j]? = some fd := by simpa using hfd
    have h1 := hat j fd hfd'
    have hjl : j < fs.size := (Array.getElem?_eq_some_iff.1 hfd').1
    have hxj : xs[j]? = some (xs[j]'(by omega)) := List.getElem?_eq_getElem (by omega)
    refine ⟨_, n, h1.trans hxj, fun q hq => hwt q ?_⟩
    simp only [DataW.weights, hs]
    exact DataW.weights_mem_each (j := j) (t := fd.type) (d := (xs[j]'(by omega)).1) (by simp [hfd']) (by simp [hxj]) q hq
  · exact absurd hf.symm h0
theorem opens_val {P : Program} {t a b c : TypeId} (hf : fieldsOf P t = [(a, 0, 1), (b, 1, 1), (c, 2, 1)]) (hz : P.cellsOf t = 3) (ha : P.underlying a = some (.int .i64)) (hb : P.underlying b = some (.int .i64)) (hc : P.underlying c = some .string) : Opens P t Enc.val := by
  intro H enc w fuel cs x hx hwt
  obtain ⟨hl, hat⟩ := open_fields hf (by simp) hx hwt
  rw [hz] at hl
  match cs, hl with
  | [u0, u1, u2], _ =>
    obtain ⟨y, n, h, hw⟩ := hat 0 _ rfl
    obtain ⟨k, e0, f0⟩ := opens_int ha _ _ _ _ _ _ h hw
    obtain ⟨y, n, h, hw⟩ := hat 1 _ rfl
    obtain ⟨i, e1, f1⟩ := opens_int hb _ _ _ _ _ _ h hw
    obtain ⟨y, n, h, hw⟩ := hat 2 _ rfl
    obtain ⟨s, e2, f2⟩ := opens_str hc _ _ _ _ _ _ h hw
    simp at e0 e1 e2
    subst e0 e1 e2
    exact ⟨⟨k, i, s⟩, rfl, f0, f1, f2⟩
theorem opens_told {P : Program} {t a b : TypeId} (hf : fieldsOf P t = [(a, 0, 1), (b, 1, 3)]) (hz : P.cellsOf t = 4) (ha : P.underlying a = some .string) (hb : Opens P b Enc.val) : Opens P t Enc.told := by
  intro H enc w fuel cs x hx hwt
  obtain ⟨hl, hat⟩ := open_fields hf (by simp) hx hwt
  rw [hz] at hl
  match cs, hl with
  | [u0, u1, u2, u3], _ =>
    obtain ⟨y, n, h, hw⟩ := hat 0 _ rfl
    obtain ⟨s, e0, f0⟩ := opens_str ha _ _ _ _ _ _ h hw
    obtain ⟨y, n, h, hw⟩ := hat 1 _ rfl
    obtain ⟨v, e1, f1⟩ := hb _ _ _ _ _ _ h hw
    simp at e0 e1
    obtain ⟨rfl, rfl, rfl⟩ := e1
    subst e0
    exact ⟨⟨s, v⟩, rfl, f0, f1⟩
end Go.Proofs.YtgabkmibfhmkmaaGreatDoor

namespace Go.Proofs.YtgabkmibfhmkmaaGreatDoor
open Go.RowKit
def RetInt (n : Int) (w : World) (e : Ending) (w' : World) : Prop := e = .returned (.int .i64 n) ∧ Below w.heap.size w w'
def RetBool (b : Bool) (w : World) (e : Ending) (w' : World) : Prop := e = .returned (.bool b) ∧ Below w.heap.size w w'
set_option maxRecDepth 100000 in
set_option maxHeartbeats 400000 in
theorem num_any (n : Int) (w : World) : Calls Tryz.prog 28 #[errV 66 n] w (RetInt n w) := by
  by_cases h : n = 0
  · subst h
    simp only [errV, if_true]
    go_enter Tryz.func28, Tryz.ntmps28
    go_wp2
    go_ret
    exact ⟨rfl, Below.refl _ _⟩
  · simp only [errV, if_neg h]
    have h1 : ((n : Int) != 0) = true := by simp [h]
    have ta : ∀ w, (Instr.typeAssert (.iface 66 (.int .i64 n)) 57 66 true).run Tryz.prog w = .ok (.tuple #[.int .i64 n, .bool true]) w := fun _ => by kernel_rfl
    clear h
    go_enter Tryz.func28, Tryz.ntmps28
    go_wp2
    go_ret
    exact ⟨rfl, Below.refl _ _⟩
theorem GV.beq_iff (x y : GV) : x.beq y = true ↔ x = y := by
  cases x; cases y
  simp [GV.beq, toList_inj]
instance : DecidableEq GV := fun x y => if h : x.beq y = true then isTrue ((GV.beq_iff x y).1 h) else isFalse (fun e => h ((GV.beq_iff x y).2 e))
end Go.Proofs.YtgabkmibfhmkmaaGreatDoor

namespace Go.Proofs
open Go.Shelf
def Tryz.lays156_ren : Go.Shelf.Ren := ⟨fun | 156 => 187 | 165 => 258 | 166 => 259 | 169 => 260 | 240 => 314 | 241 => 315 | 276 => 341 | 277 => 342 | n => n, fun | 31 => 107 | 9 => 9 | 3 => 3 | 4 => 4 | 0 => 0 | 20 => 20 | 72 => 341 | 76 => 121 | 70 => 338 | 37 => 339 | 75 => 57 | 127 => 393 | 164 => 417 | 5 => 5 | 80 => 85 | n => n, fun | n => n⟩
theorem Tryz.lays156 : Go.Proofs.Lays.n156 Tryz.prog Tryz.lays156_ren := {
  mixed := by kernel_rfl
  f156 := Tryz.func187.trans (congrArg some (by kernel_rfl))
  f165 := Tryz.func258.trans (congrArg some (by kernel_rfl))
  f166 := Tryz.func259.trans (congrArg some (by kernel_rfl))
  f169 := Tryz.func260.trans (congrArg some (by kernel_rfl))
  f240 := Tryz.func314.trans (congrArg some (by kernel_rfl))
  f241 := Tryz.func315.trans (congrArg some (by kernel_rfl))
  f276 := Tryz.func341.trans (congrArg some (by kernel_rfl))
  f277 := Tryz.func342.trans (congrArg some (by kernel_rfl))
  t0 := Tryz.underlying0
  a0 := Tryz.isAgg0
  z0 := Tryz.sizeOf0
  v0 := Tryz.zeroValue0
  t3 := Tryz.underlying3
  a3 := Tryz.isAgg3
  z3 := Tryz.sizeOf3
  v3 := Tryz.zeroValue3
  t4 := Tryz.underlying4
  a4 := Tryz.isAgg4
  z4 := Tryz.sizeOf4
  v4 := Tryz.zeroValue4
  t9 := Tryz.underlying9
  a9 := Tryz.isAgg9
  z9 := Tryz.sizeOf9
  v9 := Tryz.zeroValue9
  t20 := Tryz.underlying20
  a20 := Tryz.isAgg20
  z20 := Tryz.sizeOf20
  v20 := Tryz.zeroValue20
  t31 := Tryz.underlying107
  a31 := Tryz.isAgg107
  z31 := Tryz.sizeOf107
  v31 := Tryz.zeroValue107
  t37 := Tryz.underlying339
  a37 := Tryz.isAgg339
  z37 := Tryz.sizeOf339
  v37 := Tryz.zeroValue339
  t70 := Tryz.underlying338
  a70 := Tryz.isAgg338
  z70 := Tryz.sizeOf338
  v70 := Tryz.zeroValue338
  t72 := Tryz.underlying341
  a72 := Tryz.isAgg341
  z72 := Tryz.sizeOf341
  v72 := Tryz.zeroValue341
  t75 := Tryz.underlying57
  a75 := Tryz.isAgg57
  z75 := Tryz.sizeOf57
  v75 := Tryz.zeroValue57
  t76 := Tryz.underlying121
  a76 := Tryz.isAgg121
  z76 := Tryz.sizeOf121
  v76 := Tryz.zeroValue121
  t127 := Tryz.underlying393
  a127 := Tryz.isAgg393
  z127 := Tryz.sizeOf393
  v127 := Tryz.zeroValue393
  t164 := Tryz.underlying417
  a164 := Tryz.isAgg417
  z164 := Tryz.sizeOf417
  v164 := Tryz.zeroValue417 }
theorem Tryz.Builder_Extra_156 : Builder.Extra Tryz.prog Tryz.lays156_ren := {
  sizeBuilder := by kernel_rfl
  liesBuilder := by kernel_rfl
  t5 := Tryz.underlying5
  a5 := Tryz.isAgg5
  z5 := Tryz.sizeOf5
  v5 := Tryz.zeroValue5
  infoByte := by kernel_rfl
  cellsByte := by kernel_rfl
  sizeByte := by kernel_rfl
  neB5 := by decide }
open Go.RowKit in
theorem Tryz.strings_Join_none (a : Option Addr) (c : Nat) (sep : ByteArray) (w : World) :
    Calls Tryz.prog 187 #[.slice a 0 c, .string sep] w fun e w' => e = .returned (.string ⟨#[]⟩) ∧ w' = w := Any.strings_Join_none Tryz.lays156 Tryz.Builder_Extra_156 a c sep w
open Go.RowKit in
theorem Tryz.strings_Join (bk o c : Nat) (xs : List ByteArray) (sep : ByteArray) (w : World) (hcells : ∀ (j : Nat) x, xs[j]? = some x → w.cell? ⟨bk, o + j, none⟩ = some (.string x)) (hbk : bk < w.heap.size) (hN : xs.length ≤ 140737488355328) (hcap : xs.length ≤ c) (hlen : (Lib.join (xs.map (·.data.toList)) sep.data.toList).length ≤ 140737488355328) :
    Calls Tryz.prog 187 #[.slice (some ⟨bk, o, none⟩) xs.length c, .string sep] w fun e w' => e = .returned (.string ⟨(Lib.join (xs.map (·.data.toList)) sep.data.toList).toArray⟩) ∧ Below w.heap.size w w' := Any.strings_Join Tryz.lays156 Tryz.Builder_Extra_156 bk o c xs sep w hcells hbk hN hcap hlen
def Tryz.lays137_ren : Go.Shelf.Ren := ⟨fun | 137 => 344 | 217 => 361 | 266 => 379 | n => n, fun | 9 => 9 | 5 => 5 | 3 => 3 | n => n, fun | n => n⟩
theorem Tryz.lays137 : Go.Proofs.Lays.n137 Tryz.prog Tryz.lays137_ren := {
  mixed := by kernel_rfl
  f137 := Tryz.func344.trans (congrArg some (by kernel_rfl))
  f217 := Tryz.func361.trans (congrArg some (by kernel_rfl))
  f266 := Tryz.func379.trans (congrArg some (by kernel_rfl))
  t3 := Tryz.underlying3
  a3 := Tryz.isAgg3
  z3 := Tryz.sizeOf3
  v3 := Tryz.zeroValue3
  t5 := Tryz.underlying5
  a5 := Tryz.isAgg5
  z5 := Tryz.sizeOf5
  v5 := Tryz.zeroValue5
  t9 := Tryz.underlying9
  a9 := Tryz.isAgg9
  z9 := Tryz.sizeOf9
  v9 := Tryz.zeroValue9 }
open Go.RowKit in
theorem Tryz.strings_IndexByte (s : ByteArray) (c : Int) (w : World) :
    Calls Tryz.prog 344 #[.string s, .int .u8 c] w fun e w' => e = .returned (.int .i64 (Lib.indexByte s.data.toList c.toNat.toUInt8)) ∧ w' = w := Any.strings_IndexByte Tryz.lays137 s c w
def Tryz.laysM171_ren : Go.Shelf.Ren := ⟨fun | 171 => 316 | 243 => 343 | 246 => 360 | 283 => 375 | 284 => 376 | 285 => 377 | 286 => 378 | 129 => 306 | 317 => 384 | 318 => 385 | 319 => 386 | 320 => 387 | 337 => 393 | 338 => 394 | n => n, fun | 3 => 3 | 9 => 9 | 2 => 2 | 4 => 4 | 171 => 442 | 0 => 0 | 53 => 385 | 37 => 339 | 5 => 5 | 173 => 444 | 212 => 454 | 51 => 383 | 20 => 20 | 213 => 455 | 46 => 106 | 232 => 462 | 233 => 463 | n => n, fun | 17 => 10 | 18 => 11 | 19 => 12 | n => n⟩
theorem Tryz.laysM171 : Go.Proofs.LaysM.n171 Tryz.prog Tryz.laysM171_ren := {
  mixed := by kernel_rfl
  f129 := Tryz.func306.trans (congrArg some (by kernel_rfl))
  f171 := Tryz.func316.trans (congrArg some (by kernel_rfl))
  f243 := Tryz.func343.trans (congrArg some (by kernel_rfl))
  f246 := Tryz.func360.trans (congrArg some (by kernel_rfl))
  f283 := Tryz.func375.trans (congrArg some (by kernel_rfl))
  f284 := Tryz.func376.trans (congrArg some (by kernel_rfl))
  f285 := Tryz.func377.trans (congrArg some (by kernel_rfl))
  f286 := Tryz.func378.trans (congrArg some (by kernel_rfl))
  f317 := Tryz.func384.trans (congrArg some (by kernel_rfl))
  f318 := Tryz.func385.trans (congrArg some (by kernel_rfl))
  f319 := Tryz.func386.trans (congrArg some (by kernel_rfl))
  f320 := Tryz.func387.trans (congrArg some (by kernel_rfl))
  f337 := Tryz.func393.trans (congrArg some (by kernel_rfl))
  f338 := Tryz.func394.trans (congrArg some (by kernel_rfl))
  t0 := Tryz.underlying0
  a0 := Tryz.isAgg0
  z0 := Tryz.sizeOf0
  v0 := Tryz.zeroValue0
  t2 := Tryz.underlying2
  a2 := Tryz.isAgg2
  z2 := Tryz.sizeOf2
  v2 := Tryz.zeroValue2
  t3 := Tryz.underlying3
  a3 := Tryz.isAgg3
  z3 := Tryz.sizeOf3
  v3 := Tryz.zeroValue3
  t4 := Tryz.underlying4
  a4 := Tryz.isAgg4
  z4 := Tryz.sizeOf4
  v4 := Tryz.zeroValue4
  t5 := Tryz.underlying5
  a5 := Tryz.isAgg5
  z5 := Tryz.sizeOf5
  v5 := Tryz.zeroValue5
  t9 := Tryz.underlying9
  a9 := Tryz.isAgg9
  z9 := Tryz.sizeOf9
  v9 := Tryz.zeroValue9
  t20 := Tryz.underlying20
  a20 := Tryz.isAgg20
  z20 := Tryz.sizeOf20
  v20 := Tryz.zeroValue20
  t37 := Tryz.underlying339
  a37 := Tryz.isAgg339
  z37 := Tryz.sizeOf339
  v37 := Tryz.zeroValue339
  t46 := Tryz.underlying106
  a46 := Tryz.isAgg106
  z46 := Tryz.sizeOf106
  v46 := Tryz.zeroValue106
  t51 := Tryz.underlying383
  a51 := Tryz.isAgg383
  z51 := Tryz.sizeOf383
  v51 := Tryz.zeroValue383
  t53 := Tryz.underlying385
  a53 := Tryz.isAgg385
  z53 := Tryz.sizeOf385
  v53 := Tryz.zeroValue385
  t171 := Tryz.underlying442
  a171 := Tryz.isAgg442
  z171 := Tryz.sizeOf442
  v171 := Tryz.zeroValue442
  t173 := Tryz.underlying444
  a173 := Tryz.isAgg444
  z173 := Tryz.sizeOf444
  v173 := Tryz.zeroValue444
  t212 := Tryz.underlying454
  a212 := Tryz.isAgg454
  z212 := Tryz.sizeOf454
  v212 := Tryz.zeroValue454
  t213 := Tryz.underlying455
  a213 := Tryz.isAgg455
  z213 := Tryz.sizeOf455
  t232 := Tryz.underlying462
  a232 := Tryz.isAgg462
  z232 := Tryz.sizeOf462
  v232 := Tryz.zeroValue462
  t233 := Tryz.underlying463
  a233 := Tryz.isAgg463
  z233 := Tryz.sizeOf463
  v233 := Tryz.zeroValue463
  g17 := by kernel_rfl
  g18 := by kernel_rfl
  g19 := by kernel_rfl
  i0 := by kernel_rfl
  i2 := by kernel_rfl
  i3 := by kernel_rfl
  i4 := by kernel_rfl
  i5 := by kernel_rfl
  i9 := by kernel_rfl
  i20 := by kernel_rfl
  i37 := by kernel_rfl
  i46 := by kernel_rfl
  i51 := by kernel_rfl
  i53 := by kernel_rfl
  i171 := by kernel_rfl
  i173 := by kernel_rfl
  i212 := by kernel_rfl
  i232 := by kernel_rfl
  i233 := by kernel_rfl
  m17 := by kernel_rfl
  m18 := by kernel_rfl
  m19 := by kernel_rfl }
open Go.RowKit Go.Sort Go.Lib in
theorem Tryz.strconv_Itoa (n : Int) (h0 : -9223372036854775808 ≤ n) (h1 : n ≤ 9223372036854775807) (w : World) (htab : Lib.TabIs Tryz.prog w "internal/strconv.uint64pow10" .u64 Lib.pow10Tab) :
    Calls Tryz.prog 316 #[.int .i64 n] w fun e w' => e = .returned (.string ⟨(Lib.itoa n).toArray⟩) ∧ ∃ k os, w' = grow (w.drewN k) os := Any.strconv_Itoa Tryz.laysM171 n h0 h1 w htab
def Tryz.laysC172_ren : Go.Shelf.Ren := ⟨fun | 172 => 337 | 244 => 356 | 245 => 357 | 247 => 369 | 279 => 370 | 280 => 371 | 281 => 372 | 282 => 373 | 287 => 381 | 316 => 382 | 171 => 316 | 205 => 383 | 321 => 391 | 322 => 392 | 243 => 343 | 246 => 360 | 283 => 375 | 284 => 376 | 285 => 377 | 286 => 378 | 129 => 306 | 317 => 384 | 318 => 385 | 319 => 386 | 320 => 387 | 337 => 393 | 338 => 394 | n => n, fun | 9 => 9 | 3 => 3 | 75 => 57 | 76 => 121 | 4 => 4 | 5 => 5 | 167 => 436 | 37 => 339 | 0 => 0 | 85 => 437 | 2 => 2 | 168 => 439 | 53 => 385 | 175 => 447 | 46 => 106 | 210 => 451 | 127 => 393 | 145 => 459 | 143 => 457 | 21 => 21 | 171 => 442 | 173 => 444 | 212 => 454 | 51 => 383 | 20 => 20 | 213 => 455 | 232 => 462 | 233 => 463 | 80 => 85 | n => n, fun | 15 => 8 | 16 => 9 | 17 => 10 | 18 => 11 | 19 => 12 | n => n⟩
theorem Tryz.laysC172 : Go.Proofs.LaysC.n172 Tryz.prog Tryz.laysC172_ren := {
  mixed := by kernel_rfl
  f129 := Tryz.func306.trans (congrArg some (by kernel_rfl))
  f171 := Tryz.func316.trans (congrArg some (by kernel_rfl))
  f172 := Tryz.func337.trans (congrArg some (by kernel_rfl))
  f205 := Tryz.func383.trans (congrArg some (by kernel_rfl))
  f243 := Tryz.func343.trans (congrArg some (by kernel_rfl))
  f244 := Tryz.func356.trans (congrArg some (by kernel_rfl))
  f245 := Tryz.func357.trans (congrArg some (by kernel_rfl))
  f246 := Tryz.func360.trans (congrArg some (by kernel_rfl))
  f247 := Tryz.func369.trans (congrArg some (by kernel_rfl))
  f279 := Tryz.func370.trans (congrArg some (by kernel_rfl))
  f280 := Tryz.func371.trans (congrArg some (by kernel_rfl))
  f281 := Tryz.func372.trans (congrArg some (by kernel_rfl))
  f282 := Tryz.func373.trans (congrArg some (by kernel_rfl))
  f283 := Tryz.func375.trans (congrArg some (by kernel_rfl))
  f284 := Tryz.func376.trans (congrArg some (by kernel_rfl))
  f285 := Tryz.func377.trans (congrArg some (by kernel_rfl))
  f286 := Tryz.func378.trans (congrArg some (by kernel_rfl))
  f287 := Tryz.func381.trans (congrArg some (by kernel_rfl))
  f316 := Tryz.func382.trans (congrArg some (by kernel_rfl))
  f317 := Tryz.func384.trans (congrArg some (by kernel_rfl))
  f318 := Tryz.func385.trans (congrArg some (by kernel_rfl))
  f319 := Tryz.func386.trans (congrArg some (by kernel_rfl))
  f320 := Tryz.func387.trans (congrArg some (by kernel_rfl))
  f321 := Tryz.func391.trans (congrArg some (by kernel_rfl))
  f322 := Tryz.func392.trans (congrArg some (by kernel_rfl))
  f337 := Tryz.func393.trans (congrArg some (by kernel_rfl))
  f338 := Tryz.func394.trans (congrArg some (by kernel_rfl))
  t0 := Tryz.underlying0
  a0 := Tryz.isAgg0
  z0 := Tryz.sizeOf0
  v0 := Tryz.zeroValue0
  t2 := Tryz.underlying2
  a2 := Tryz.isAgg2
  z2 := Tryz.sizeOf2
  v2 := Tryz.zeroValue2
  t3 := Tryz.underlying3
  a3 := Tryz.isAgg3
  z3 := Tryz.sizeOf3
  v3 := Tryz.zeroValue3
  t4 := Tryz.underlying4
  a4 := Tryz.isAgg4
  z4 := Tryz.sizeOf4
  v4 := Tryz.zeroValue4
  t5 := Tryz.underlying5
  a5 := Tryz.isAgg5
  z5 := Tryz.sizeOf5
  v5 := Tryz.zeroValue5
  t9 := Tryz.underlying9
  a9 := Tryz.isAgg9
  z9 := Tryz.sizeOf9
  v9 := Tryz.zeroValue9
  t20 := Tryz.underlying20
  a20 := Tryz.isAgg20
  z20 := Tryz.sizeOf20
  v20 := Tryz.zeroValue20
  t21 := Tryz.underlying21
  a21 := Tryz.isAgg21
  z21 := Tryz.sizeOf21
  v21 := Tryz.zeroValue21
  t37 := Tryz.underlying339
  a37 := Tryz.isAgg339
  z37 := Tryz.sizeOf339
  v37 := Tryz.zeroValue339
  t46 := Tryz.underlying106
  a46 := Tryz.isAgg106
  z46 := Tryz.sizeOf106
  v46 := Tryz.zeroValue106
  t51 := Tryz.underlying383
  a51 := Tryz.isAgg383
  z51 := Tryz.sizeOf383
  v51 := Tryz.zeroValue383
  t53 := Tryz.underlying385
  a53 := Tryz.isAgg385
  z53 := Tryz.sizeOf385
  v53 := Tryz.zeroValue385
  t75 := Tryz.underlying57
  a75 := Tryz.isAgg57
  z75 := Tryz.sizeOf57
  v75 := Tryz.zeroValue57
  t76 := Tryz.underlying121
  a76 := Tryz.isAgg121
  z76 := Tryz.sizeOf121
  v76 := Tryz.zeroValue121
  t85 := Tryz.underlying437
  a85 := Tryz.isAgg437
  z85 := Tryz.sizeOf437
  v85 := Tryz.zeroValue437
  t127 := Tryz.underlying393
  a127 := Tryz.isAgg393
  z127 := Tryz.sizeOf393
  v127 := Tryz.zeroValue393
  t143 := Tryz.underlying457
  a143 := Tryz.isAgg457
  z143 := Tryz.sizeOf457
  v143 := Tryz.zeroValue457
  t145 := Tryz.underlying459
  a145 := Tryz.isAgg459
  z145 := Tryz.sizeOf459
  v145 := Tryz.zeroValue459
  t167 := Tryz.underlying436
  a167 := Tryz.isAgg436
  z167 := Tryz.sizeOf436
  v167 := Tryz.zeroValue436
  t168 := Tryz.underlying439
  a168 := Tryz.isAgg439
  z168 := Tryz.sizeOf439
  v168 := Tryz.zeroValue439
  t171 := Tryz.underlying442
  a171 := Tryz.isAgg442
  z171 := Tryz.sizeOf442
  v171 := Tryz.zeroValue442
  t173 := Tryz.underlying444
  a173 := Tryz.isAgg444
  z173 := Tryz.sizeOf444
  v173 := Tryz.zeroValue444
  t175 := Tryz.underlying447
  a175 := Tryz.isAgg447
  z175 := Tryz.sizeOf447
  v175 := Tryz.zeroValue447
  t210 := Tryz.underlying451
  a210 := Tryz.isAgg451
  z210 := Tryz.sizeOf451
  v210 := Tryz.zeroValue451
  t212 := Tryz.underlying454
  a212 := Tryz.isAgg454
  z212 := Tryz.sizeOf454
  v212 := Tryz.zeroValue454
  t213 := Tryz.underlying455
  a213 := Tryz.isAgg455
  z213 := Tryz.sizeOf455
  t232 := Tryz.underlying462
  a232 := Tryz.isAgg462
  z232 := Tryz.sizeOf462
  v232 := Tryz.zeroValue462
  t233 := Tryz.underlying463
  a233 := Tryz.isAgg463
  z233 := Tryz.sizeOf463
  v233 := Tryz.zeroValue463
  g15 := by kernel_rfl
  g16 := by kernel_rfl
  g17 := by kernel_rfl
  g18 := by kernel_rfl
  g19 := by kernel_rfl
  t80 := Tryz.underlying85
  a80 := Tryz.isAgg85
  z80 := Tryz.sizeOf85
  v80 := Tryz.zeroValue85
  i0 := by kernel_rfl
  i2 := by kernel_rfl
  i3 := by kernel_rfl
  i4 := by kernel_rfl
  i5 := by kernel_rfl
  i9 := by kernel_rfl
  i20 := by kernel_rfl
  i21 := by kernel_rfl
  i37 := by kernel_rfl
  i46 := by kernel_rfl
  i51 := by kernel_rfl
  i53 := by kernel_rfl
  i75 := by kernel_rfl
  i76 := by kernel_rfl
  i80 := by kernel_rfl
  i85 := by kernel_rfl
  i127 := by kernel_rfl
  i143 := by kernel_rfl
  i145 := by kernel_rfl
  i167 := by kernel_rfl
  i168 := by kernel_rfl
  i171 := by kernel_rfl
  i173 := by kernel_rfl
  i175 := by kernel_rfl
  i210 := by kernel_rfl
  i212 := by kernel_rfl
  i232 := by kernel_rfl
  i233 := by kernel_rfl
  m15 := by kernel_rfl
  m16 := by kernel_rfl
  m17 := by kernel_rfl
  m18 := by kernel_rfl
  m19 := by kernel_rfl
  c0 := by kernel_rfl
  c2 := by kernel_rfl
  c3 := by kernel_rfl
  c4 := by kernel_rfl
  c5 := by kernel_rfl
  c9 := by kernel_rfl
  c20 := by kernel_rfl
  c21 := by kernel_rfl
  c37 := by kernel_rfl
  c46 := by kernel_rfl
  c51 := by kernel_rfl
  c53 := by kernel_rfl
  c75 := by kernel_rfl
  c76 := by kernel_rfl
  c80 := by kernel_rfl
  c85 := by kernel_rfl
  c127 := by kernel_rfl
  c143 := by kernel_rfl
  c145 := by kernel_rfl
  c167 := by kernel_rfl
  c168 := by kernel_rfl
  c171 := by kernel_rfl
  c173 := by kernel_rfl
  c175 := by kernel_rfl
  c210 := by kernel_rfl
  c212 := by kernel_rfl
  c213 := by kernel_rfl
  c232 := by kernel_rfl
  c233 := by kernel_rfl }
open Go.RowKit in
theorem Tryz.strconv_Atoi_ok (s : ByteArray) (hmax : s.size ≤ 9223372036854775806) (v : Int) (h : Lib.atoiAll s.data.toList = .ok v) (w : World) :
    Calls Tryz.prog 337 #[.string s] w fun e w' => e = .returned (.tuple #[.int .i64 v, .nilIface]) ∧ (w' = w ∨ ∃ t, w' = Lib.bytesWorld w 5 t) := Any.strconv_Atoi_ok Tryz.laysC172 s hmax v h w
def Tryz.lays99_ren : Go.Shelf.Ren := ⟨fun | 99 => 348 | 206 => 366 | n => n, fun | 9 => 9 | 4 => 4 | 3 => 3 | n => n, fun | n => n⟩
theorem Tryz.lays99 : Go.Proofs.Lays.n99 Tryz.prog Tryz.lays99_ren := {
  mixed := by kernel_rfl
  f99 := Tryz.func348.trans (congrArg some (by kernel_rfl))
  f206 := Tryz.func366.trans (congrArg some (by kernel_rfl))
  t3 := Tryz.underlying3
  a3 := Tryz.isAgg3
  z3 := Tryz.sizeOf3
  v3 := Tryz.zeroValue3
  t4 := Tryz.underlying4
  a4 := Tryz.isAgg4
  z4 := Tryz.sizeOf4
  v4 := Tryz.zeroValue4
  t9 := Tryz.underlying9
  a9 := Tryz.isAgg9
  z9 := Tryz.sizeOf9
  v9 := Tryz.zeroValue9 }
open Go.RowKit Go.Lib in
theorem Tryz.strings_HasPrefix (s p : ByteArray) (w : World) :
    Calls Tryz.prog 348 #[.string s, .string p] w fun e w' => e = .returned (.bool (Lib.hasPrefix s.data.toList p.data.toList)) ∧ w' = w := Any.strings_HasPrefix Tryz.lays99 s p w
end Go.Proofs

namespace Go.Proofs.YtgabkmibfhmkmaaGreatDoor
open Go.RowKit
def RetV (v : Value) (w : World) (e : Ending) (w' : World) : Prop := e = .returned v ∧ Below w.heap.size w w'
def TabW (w : World) : Prop := ∀ W, Below w.heap.size w W → Lib.TabIs Tryz.prog W "internal/strconv.uint64pow10" .u64 Lib.pow10Tab
theorem TabW.of {w : World} (h : Lib.TabIs Tryz.prog w "internal/strconv.uint64pow10" .u64 Lib.pow10Tab) : TabW w := Lib.tabBelow_of_tabIs h
theorem TabW.on {w W : World} (h : TabW w) (hb : Below w.heap.size w W) : TabW W := fun _ hb' => h _ (hb.trans (hb'.mono hb.size))
theorem itoa_any (n : Int) (hn : fits n) (w : World) (h : TabW w) : Calls Tryz.prog 316 #[.int .i64 n] w (fun e w' => ∃ s : ByteArray, Hid (s = ⟨(Lib.itoa n).toArray⟩) ∧ s.size ≤ 21 ∧ e = .returned (.string s) ∧ Below w.heap.size w w') := by
  have hn' : -9223372036854775808 ≤ n ∧ n ≤ 9223372036854775807 := by
    unfold fits at hn; simp [Lit.wf, IntKind.min, IntKind.max, IntKind.signed, IntKind.bits] at hn; omega
  refine (Tryz.strconv_Itoa n hn'.1 hn'.2 w (h w (Below.refl _ _))).mono ?_
  rintro e w' ⟨rfl, k, os, rfl⟩
  exact ⟨_, rfl, by have := Lib.itoa_length_le n hn'.1 hn'.2; simpa [ByteArray.size] using this, rfl, Lib.below_grow _ _ (Nat.le_refl _) _ _⟩
end Go.Proofs.YtgabkmibfhmkmaaGreatDoor
