/- My own texts Base, as far as this claim needs them. -/
import Derived.WalkKit
import Derived.WalkSpells
import Derived.WalkLawsBesides
import Derived.MapKept
import Derived.BigQuiet
import Derived.Lib.Hide
import Derived.Deep.Draws
import Derived.Deep.QuietTactic
set_option linter.unusedVariables false
set_option linter.unusedSimpArgs false
namespace Go.Proofs.YtfklheagafffmaaGreatDoor
open Go.RowKit
theorem toList_inj (a b : ByteArray) : a.toList = b.toList ↔ a = b := by
  rw [ByteArray.toList_eq, ByteArray.toList_eq]
  obtain ⟨⟨x⟩⟩ := a
  obtain ⟨⟨y⟩⟩ := b
  simp
instance : LawfulBEq ByteArray where
  eq_of_beq {a b} h := by rw [beq_toListBytes] at h; exact (toList_inj a b).1 (by simpa using h)
  rfl {a} := by rw [beq_toListBytes]; simp
def kvGet {α : Type} (l : List (ByteArray × α)) (s : ByteArray) : Option α := (l.find? (fun p => p.1 == s)).map (·.2)
def kvSet {α : Type} : List (ByteArray × α) → ByteArray → α → List (ByteArray × α)
  | [], s, v => [(s, v)]
  | p :: l, s, v => if p.1 = s then (s, v) :: l else p :: kvSet l s v
structure MapIs (w : World) (b : Nat) (kvs : List (ByteArray × Value)) : Prop where
  ex : ∃ es clock, w.heap[b]? = some (.map es clock) ∧ es.toList.map (fun e => (e.key, e.val)) = kvs.map (fun p => (Value.string p.1, p.2)) ∧
    (es.toList.map (·.born)).Nodup ∧ ∀ e ∈ es.toList, e.born < clock
  keys : (kvs.map Prod.fst).Nodup
theorem findNow_str (s : ByteArray) : ∀ (l : List MapEntry) (kvs : List (ByteArray × Value)) (i : Nat),
    l.map (fun e => (e.key, e.val)) = kvs.map (fun p => (Value.string p.1, p.2)) →
    Instr.findNow .string (.string s) l i = some ((kvs.findIdx? (fun p => p.1 == s)).map fun j => (i + j, ((kvs[j]?).map (·.2)).getD undef))
  | [], kvs, i, h => by
    cases kvs with
    | nil => simp [Instr.findNow]
    | cons p kvs => simp at h
  | e :: l, kvs, i, h => by
    cases kvs with
    | nil => simp at h
    | cons p kvs =>
      simp only [List.map_cons, List.cons.injEq, Prod.mk.injEq] at h
      obtain ⟨⟨hk, hv⟩, ht⟩ := h
      have ih := findNow_str s l kvs (i + 1) ht
      simp only [Instr.findNow, hk, Instr.sameNow]
      by_cases hs : p.1 = s
      · subst hs
        simp [List.findIdx?_cons, hv]
      · have h1 : (s == p.1) = false := by simp; exact fun e => hs e.symm
        have h2 : (p.1 == s) = false := by simp [hs]
        rw [h1]
        simp only [ih, List.findIdx?_cons, h2]
        congr 1
        simp [Option.map_map, Function.comp_def]
        cases List.findIdx? (fun p => p.1 == s) kvs <;> simp [Nat.add_assoc, Nat.add_comm 1]
theorem findIdx_get {α : Type} (kvs : List (ByteArray × α)) (s : ByteArray) (d : α) :
    ((kvs.findIdx? (fun p => p.1 == s)).map fun j => ((kvs[j]?).map (·.2)).getD d) = kvGet kvs s := by
  induction kvs with
  | nil => simp [kvGet]
  | cons p kvs ih =>
    by_cases hs : p.1 = s
    · simp [kvGet, List.findIdx?_cons, hs]
    · have h2 : (p.1 == s) = false := by simp [hs]
      simp only [kvGet, List.findIdx?_cons, h2, List.find?_cons] at ih ⊢
      rw [← ih]
      simp [Option.map_map, Function.comp_def]
section
variable {P : Program} {w : World} {b : Nat} {kvs : List (ByteArray × Value)}
theorem run_checkKey_str {k : TypeId} (hk : P.underlying k = some .string) (e : Bool) (s : ByteArray) : (Instr.checkKey e 10000 k (.string s)).run P w = .ok () w := by
  exact MapKept.run_checkKey hk (by simp [MapKept.IsKey]) e 9999
theorem MapIs.lookup (h : MapIs w b kvs) {t k e : TypeId} (ht : P.underlying t = some (.map k e)) (hk : P.underlying k = some .string) {z : Value} (hz : (zeroValue e).run P w = .ok z w) (s : ByteArray) :
    (Instr.lookup t (.map (some b)) (.string s) false).run P w = .ok ((kvGet kvs s).getD z) w := by
  obtain ⟨es, clock, hb, hes, _, _⟩ := h.ex
  have h1 := findNow_str s es.toList kvs 0 hes
  have h2 := findIdx_get kvs s undef
  simp only [Instr.lookup, Sem.run_bind, run_underlying ht, Result.andThen_ok, MapKept.run_getObj_map hb, run_checkKey_str hk, MapKept.run_findKey hk h1, Sem.run_pure]
  rw [← h2]
  cases List.findIdx? (fun p => p.1 == s) kvs with
  | none => simp [hz]
  | some j => simp
theorem MapIs.len (h : MapIs w b kvs) {t k e : TypeId} (ht : P.underlying t = some (.map k e)) (ty : TypeId) :
    (Builtin.len_ #[t] ty #[.map (some b)]).run P w = .ok (.int .i64 kvs.length) w := by
  obtain ⟨es, clock, hb, hes, _, _⟩ := h.ex
  have hl : es.size = kvs.length := by have := congrArg List.length hes; simpa using this
  simp [Builtin.len_, run_underlying ht, MapKept.run_getObj_map hb, hl, goInt]
theorem kvSet_mem {α : Type} {l : List (ByteArray × α)} {s : ByteArray} {v : α} {x : ByteArray} : x ∈ (kvSet l s v).map Prod.fst ↔ x ∈ l.map Prod.fst ∨ x = s := by
  induction l with
  | nil => simp [kvSet]
  | cons p l ih =>
    unfold kvSet
    split
    · rename_i h
      simp only [List.map_cons, List.mem_cons, h]
      constructor
      · rintro (h | h)
        · exact .inr h
        · exact .inl (.inr h)
      · rintro ((h | h) | h)
        · exact .inl h
        · exact .inr h
        · exact .inl h
    · simp only [List.map_cons, List.mem_cons, ih, or_assoc]
theorem kvSet_keys {α : Type} {l : List (ByteArray × α)} {s : ByteArray} {v : α} (h : (l.map Prod.fst).Nodup) : ((kvSet l s v).map Prod.fst).Nodup := by
  induction l with
  | nil => simp [kvSet]
  | cons p l ih =>
    simp only [List.map_cons, List.nodup_cons] at h
    unfold kvSet
    split
    · rename_i e
      simp only [List.map_cons, List.nodup_cons]
      rw [← e]; exact h
    · rename_i e
      simp only [List.map_cons, List.nodup_cons, kvSet_mem]
      refine ⟨?_, ih h.2⟩
      rintro (hm | hm)
      · exact h.1 hm
      · exact e hm
theorem kvGet_cons {α : Type} (p : ByteArray × α) (l : List (ByteArray × α)) (t : ByteArray) : kvGet (p :: l) t = if p.1 = t then some p.2 else kvGet l t := by
  by_cases h : p.1 = t
  · simp [kvGet, h]
  · simp only [kvGet, List.find?_cons, beq_eq_false_iff_ne.2 h, if_neg h]
theorem kvGet_set {α : Type} (l : List (ByteArray × α)) (s t : ByteArray) (v : α) : kvGet (kvSet l s v) t = if s = t then some v else kvGet l t := by
  induction l with
  | nil => simp [kvSet, kvGet_cons]
  | cons p l ih =>
    unfold kvSet
    split
    · rename_i e
      rw [kvGet_cons, kvGet_cons]
      by_cases h : s = t
      · simp [h]
      · simp [h, e]
    · rename_i e
      rw [kvGet_cons, kvGet_cons, ih]
      by_cases h : s = t
      · subst h
        simp [e]
      · simp [h]
theorem kvSet_none {α : Type} {l : List (ByteArray × α)} {s : ByteArray} (v : α) (h : l.findIdx? (fun p => p.1 == s) = none) : kvSet l s v = l ++ [(s, v)] := by
  induction l with
  | nil => rfl
  | cons p l ih =>
    rw [List.findIdx?_cons] at h
    by_cases e : p.1 = s
    · simp [e] at h
    · simp only [beq_eq_false_iff_ne.2 e, Bool.false_eq_true, if_false, Option.map_eq_none_iff] at h
      unfold kvSet
      rw [if_neg e, ih h]; rfl
theorem kvSet_some {α : Type} {l : List (ByteArray × α)} {s : ByteArray} (v : α) {j : Nat} (h : l.findIdx? (fun p => p.1 == s) = some j) : kvSet l s v = l.set j (s, v) := by
  induction l generalizing j with
  | nil => simp at h
  | cons p l ih =>
    rw [List.findIdx?_cons] at h
    by_cases e : p.1 = s
    · simp [e] at h
      subst h
      unfold kvSet
      rw [if_pos e]; rfl
    · simp only [beq_eq_false_iff_ne.2 e, Bool.false_eq_true, if_false, Option.map_eq_some_iff] at h
      obtain ⟨i, hi, rfl⟩ := h
      unfold kvSet
      rw [if_neg e, ih hi]; rfl
theorem stamps_modify {es : Array MapEntry} (j : Nat) (f : MapEntry → MapEntry) (hf : ∀ e, (f e).born = e.born) : (es.modify j f).toList.map (·.born) = es.toList.map (·.born) := by
  apply List.ext_getElem?
  intro i
  simp only [List.getElem?_map, Array.getElem?_toList, Array.getElem?_modify]
  split
  · cases es[i]? <;> simp [hf]
  · rfl
theorem heap_set_grown {o : Obj} : w.grownBy { w with heap := w.heap.setIfInBounds b o } (some b) :=
  ⟨rfl, rfl, rfl, by simp, fun k _ hne => by
    show (w.heap.setIfInBounds b o)[k]? = _
    rw [Array.getElem?_setIfInBounds_ne (by intro e; exact hne (by rw [e]))]⟩
theorem findIdx_some {α : Type} {kvs : List (ByteArray × α)} {s : ByteArray} {j : Nat} (h : kvs.findIdx? (fun p => p.1 == s) = some j) : ∃ v, kvs[j]? = some (s, v) := by
  rw [List.findIdx?_eq_some_iff_getElem] at h
  obtain ⟨hlt, h1, _⟩ := h
  refine ⟨kvs[j].2, ?_⟩
  rw [List.getElem?_eq_getElem hlt]
  simp at h1
  rw [← h1]
theorem MapIs.update (h : MapIs w b kvs) {t k e : TypeId} (ht : P.underlying t = some (.map k e)) (hk : P.underlying k = some .string) (s : ByteArray) (v : Value) :
    ∃ w', (Instr.mapUpdate t (.map (some b)) (.string s) v).run P w = .ok () w' ∧ MapIs w' b (kvSet kvs s v) ∧ w.grownBy w' (some b) ∧ w'.heap.size = w.heap.size := by
  obtain ⟨es, clock, hb, hes, hn, hc⟩ := h.ex
  have hlt : b < w.heap.size := (Array.getElem?_eq_some_iff.1 hb).1
  have h1 := findNow_str s es.toList kvs 0 hes
  have hky : MapKept.IsKey .string (.string s) := by simp [MapKept.IsKey]
  cases hf : kvs.findIdx? (fun p => p.1 == s) with
  | none =>
    rw [hf] at h1
    refine ⟨_, by simp [Instr.mapUpdate, run_underlying ht, MapKept.run_getObj_map hb, run_checkKey_str hk, MapKept.run_findKey hk h1, MapKept.run_setObj_map _ hb, Result.andThen]; rfl, ?_, heap_set_grown, by simp⟩
    refine ⟨⟨es.push ⟨.string s, v, clock⟩, clock + 1, by simp [hlt], ?_, ?_, ?_⟩, kvSet_keys h.keys⟩
    · rw [kvSet_none v hf]
      simp only [Array.toList_push, List.map_append, hes]
      simp
    · simp only [Array.toList_push, List.map_append, List.nodup_append]
      refine ⟨hn, by simp, ?_⟩
      intro a ha b hb'
      simp at hb'
      subst hb'
      simp at ha
      obtain ⟨x, hx, rfl⟩ := ha
      have := hc x (by simpa using hx)
      simp; omega
    · intro x hx
      simp at hx
      rcases hx with hx | rfl
      · have := hc x (by simpa using hx); omega
      · simp
  | some j =>
    rw [hf] at h1
    obtain ⟨v0, hj⟩ := findIdx_some hf
    have hej : ∃ ej, es[j]? = some ej ∧ ej.key = .string s := by
      have := congrArg (fun l => l[j]?) hes
      simp only [List.getElem?_map, hj, Option.map_some, Array.getElem?_toList] at this
      cases hh : es[j]? with
      | none => rw [hh] at this; simp at this
      | some ej => rw [hh] at this; simp at this; exact ⟨ej, rfl, this.1⟩
    obtain ⟨ej, hej, hkey⟩ := hej
    refine ⟨_, by simp [Instr.mapUpdate, run_underlying ht, MapKept.run_getObj_map hb, run_checkKey_str hk, MapKept.run_findKey hk h1, hej, hkey, MapKept.run_keyThatStays hky, MapKept.run_setObj_map _ hb, Result.andThen]; rfl, ?_, heap_set_grown, by simp⟩
    refine ⟨⟨_, clock, by simp [hlt]; rfl, ?_, ?_, ?_⟩, kvSet_keys h.keys⟩
    · rw [kvSet_some v hf]
      apply List.ext_getElem?
      intro i
      have hlt' : j < kvs.length := (List.getElem?_eq_some_iff.1 hj).1
      simp only [List.getElem?_map, Array.getElem?_toList, Array.getElem?_modify, List.getElem?_set, hlt', if_true]
      have hi := congrArg (fun l => l[i]?) hes
      simp only [List.getElem?_map, Array.getElem?_toList] at hi
      by_cases hij : j = i
      · subst hij
        simp [hej]
      · rw [if_neg hij, if_neg hij]
        exact hi
    · have := stamps_modify (es := es) j (fun e => { key := Value.string s, val := v, born := e.born }) (fun _ => rfl)
      rw [this]; exact hn
    · intro x hx
      have h2 : x.born ∈ (es.modify j fun e => { key := Value.string s, val := v, born := e.born }).toList.map (·.born) := List.mem_map.2 ⟨x, hx, rfl⟩
      rw [stamps_modify (es := es) j (fun e => { key := Value.string s, val := v, born := e.born }) (fun _ => rfl)] at h2
      obtain ⟨y, hy, e⟩ := List.mem_map.1 h2
      have := hc y hy
      omega
theorem MapIs.made : MapIs (w.alloc (.map #[] 0)) w.heap.size [] :=
  ⟨⟨#[], 0, heap_alloc_new w _, rfl, by simp, by simp⟩, by simp⟩
theorem MapIs.lt (h : MapIs w b kvs) : b < w.heap.size := by
  obtain ⟨es, clock, hb, _⟩ := h.ex
  exact (Array.getElem?_eq_some_iff.1 hb).1
theorem MapIs.same {w' : World} (h : MapIs w b kvs) (hs : w'.heap[b]? = w.heap[b]?) : MapIs w' b kvs := by
  obtain ⟨⟨es, clock, hb, r⟩, k⟩ := h
  exact ⟨⟨es, clock, by rw [hs]; exact hb, r⟩, k⟩
theorem MapIs.below {w' : World} {B : Nat} (h : MapIs w b kvs) (hb : Below B w w') (hB : b < B) : MapIs w' b kvs := h.same (hb.block b hB)
theorem MapIs.alloc (h : MapIs w b kvs) (o : Obj) : MapIs (w.alloc o) b kvs := h.same (Below.heap_alloc w o b h.lt)
theorem MapIs.drewN (h : MapIs w b kvs) (n : Nat) : MapIs (w.drewN n) b kvs := h.same rfl
theorem MapIs.drew (h : MapIs w b kvs) : MapIs w.drew b kvs := h.same rfl
theorem MapIs.grown {w' : World} {row : Option Nat} (h : MapIs w b kvs) (hg : w.grownBy w' row) (hne : some b ≠ row) : MapIs w' b kvs := h.same (hg.block b h.lt hne)
end
theorem below_cell {w w' : World} {a : Addr} {v : Value} (hb : Below w.heap.size w w') (h : w.cell? a = some v) : w'.cell? a = some v :=
  (hb.cell (World.block_lt_of_cell? w a h)).trans h
theorem belowA {w W : World} (h : Below w.heap.size w W) (o : Obj) : Below w.heap.size w (W.alloc o) := h.alloc h.size o
theorem belowS {w W : World} (h : Below w.heap.size w W) (n i : Nat) (hn : w.heap.size ≤ n) (u : Value) : Below w.heap.size w (W.setCell ⟨n, i, none⟩ u) := h.setCell hn u
theorem bcell {W w1 : World} (hb : Below W.heap.size W w1) : (∀ b o, b < W.heap.size → w1.cell? ⟨b, o, none⟩ = W.cell? ⟨b, o, none⟩) ∧ (∀ b o, b < W.heap.size → w1.frozen? ⟨b, o, none⟩ = W.frozen? ⟨b, o, none⟩) :=
  ⟨fun b o h => hb.cell (p := ⟨b, o, none⟩) h, fun b o h => hb.frozen (p := ⟨b, o, none⟩) h⟩
theorem cellA {w : World} {o : Obj} {a : Addr} {v : Value} (h : w.cell? a = some v) : (w.alloc o).cell? a = some v := below_cell (belowA (Below.refl _ _) o) h
theorem below_drewN (w : World) (n : Nat) (B : Nat) : Below B w (w.drewN n) := ⟨rfl, rfl, rfl, Nat.le_refl _, fun _ _ => rfl⟩
/-- what a string, slice or map that came in takes at most (the form's own reach) -/
def reachN : Nat := 140737488351232
/-- rows that hold cells stay as they are, below B -/
def Kept (w w' : World) (B : Nat) : Prop := ∀ b, b < B → ∀ cs t fr, w.heap[b]? = some (.cells cs t fr) → cs ≠ #[] → w'.heap[b]? = some (.cells cs t fr)
theorem Kept.of {w w' : World} {B : Nat} (hk : ∀ b, b < B → w'.heap[b]? = w.heap[b]?) : Kept w w' B := fun b hb _ _ _ h _ => (hk b hb).trans h
theorem Kept.cell {w w' : World} {B b i : Nat} {v : Value} (hk : Kept w w' B) (hb : b < B) (h : w.cell? ⟨b, i, none⟩ = some v) : w'.cell? ⟨b, i, none⟩ = some v := by
  cases ho : w.heap[b]? with
  | none => simp [World.cell?, ho] at h
  | some o =>
    cases o with
    | cells cs t fr =>
      have h1 : cs[i]? = some v := by simpa [World.cell?, ho] using h
      have h2 := hk b hb cs t fr ho (by rintro rfl; simp at h1)
      simpa [World.cell?, h2] using h1
    | _ => simp [World.cell?, ho] at h
structure Enc (α : Type) where
  sz : Nat
  ok : World → Nat → List Value → α → Prop
  mono : ∀ {w w' : World} {B B' : Nat} {cs : List Value} {x : α}, B ≤ B' → Kept w w' B → ok w B cs x → ok w' B' cs x
  len : ∀ {w : World} {B : Nat} {cs : List Value} {x : α}, ok w B cs x → cs.length = sz
/-- the slice value '.slice A n c' holds the list l; all its blocks lie below B -/
def SliceIs {α : Type} (E : Enc α) (w : World) (B : Nat) (A : Option Addr) (n c : Nat) (l : List α) : Prop :=
  l.length = n ∧ n ≤ c ∧ c ≤ maxLen ∧ n ≤ reachN ∧ (l = [] ∨ ∃ b o, A = some ⟨b, o, none⟩ ∧ b < B ∧
    ∀ i x, l[i]? = some x → ∃ cs, E.ok w B cs x ∧ ∀ j v, cs[j]? = some v → w.cell? ⟨b, o + i * E.sz + j, none⟩ = some v)
theorem SliceIs.mono' {α : Type} {E : Enc α} {w w' : World} {B B' : Nat} {A : Option Addr} {n c : Nat} {l : List α} (h : SliceIs E w B A n c l) (hB : B ≤ B') (hk : Kept w w' B) :
    SliceIs E w' B' A n c l := by
  obtain ⟨h1, h2, h3, hr, h4⟩ := h
  refine ⟨h1, h2, h3, hr, ?_⟩
  rcases h4 with h4 | ⟨b, o, hA, hb, hc⟩
  · exact .inl h4
  · refine .inr ⟨b, o, hA, by omega, fun i x hx => ?_⟩
    obtain ⟨cs, hok, hcs⟩ := hc i x hx
    exact ⟨cs, E.mono hB hk hok, fun j v hv => hk.cell hb (hcs j v hv)⟩
theorem SliceIs.mono {α : Type} {E : Enc α} {w w' : World} {B B' : Nat} {A : Option Addr} {n c : Nat} {l : List α} (h : SliceIs E w B A n c l) (hB : B ≤ B') (hk : ∀ b, b < B → w'.heap[b]? = w.heap[b]?) :
    SliceIs E w' B' A n c l := h.mono' hB (Kept.of hk)
theorem SliceIs.below {α : Type} {E : Enc α} {w w' : World} {B : Nat} {A : Option Addr} {n c : Nat} {l : List α} (h : SliceIs E w B A n c l) (hb : Below B w w') : SliceIs E w' B A n c l :=
  h.mono (Nat.le_refl _) hb.block
theorem SliceIs.bound {α : Type} {E : Enc α} {w : World} {B : Nat} {A : Option Addr} {n c : Nat} {l : List α} (h : SliceIs E w B A n c l) : n ≤ 140737488351232 := h.2.2.2.1
def Enc.slice {α : Type} (E : Enc α) : Enc (List α) where
  sz := 1
  ok w B cs l := ∃ A n c, cs = [.slice A n c] ∧ SliceIs E w B A n c l
  mono hB hk := fun ⟨A, n, c, e, h⟩ => ⟨A, n, c, e, h.mono' hB hk⟩
  len := fun ⟨_, _, _, e, _⟩ => by rw [e]; rfl
def fits (n : Int) : Prop := (Lit.int .i64 n).wf = true
def Enc.int : Enc Int where
  sz := 1
  ok _ _ cs n := cs = [.int .i64 n] ∧ fits n
  mono _ _ h := h
  len h := by rw [h.1]; rfl
def Enc.str : Enc ByteArray where
  sz := 1
  ok _ _ cs s := cs = [.string s] ∧ s.size ≤ reachN
  mono _ _ h := h
  len h := by rw [h.1]; rfl
/-- a value of the program (api.Value) -/
structure GV where
  k : Int
  n : Int
  s : ByteArray
def GV.beq (x y : GV) : Bool := x.k == y.k && (x.n == y.n && x.s.toList == y.s.toList)
abbrev GV.v (x : GV) : Value := .agg #[.int .i64 x.k, .int .i64 x.n, .string x.s]
def GV.ok (x : GV) : Prop := fits x.k ∧ fits x.n ∧ x.s.size ≤ reachN
def Enc.val : Enc GV where
  sz := 3
  ok _ _ cs x := cs = [.int .i64 x.k, .int .i64 x.n, .string x.s] ∧ x.ok
  mono _ _ h := h
  len h := by rw [h.1]; rfl
/-- a variable and its value (corollaryref13.Told) -/
structure GTold where
  x : ByteArray
  v : GV
def Enc.told : Enc GTold where
  sz := 4
  ok _ _ cs t := cs = [.string t.x, .int .i64 t.v.k, .int .i64 t.v.n, .string t.v.s] ∧ t.x.size ≤ reachN ∧ t.v.ok
  mono _ _ h := h
  len h := by rw [h.1]; rfl
theorem SliceIs.at_ {α : Type} {E : Enc α} {w : World} {B : Nat} {A : Option Addr} {n c : Nat} {l : List α} (h : SliceIs E w B A n c l) {i : Nat} (hi : i < n) :
    ∃ b o x cs, A = some ⟨b, o, none⟩ ∧ b < B ∧ Hid (l[i]? = some x) ∧ E.ok w B cs x ∧ ∀ j v, cs[j]? = some v → w.cell? ⟨b, o + i * E.sz + j, none⟩ = some v := by
  obtain ⟨h1, h2, h3, hr, h4⟩ := h
  rcases h4 with h4 | ⟨b, o, hA, hb, hc⟩
  · subst h4; simp at h1; omega
  · have hx := List.getElem?_eq_getElem (l := l) (i := i) (by omega)
    obtain ⟨cs, hok, hcs⟩ := hc i _ hx
    exact ⟨b, o, _, cs, hA, hb, hx, hok, hcs⟩
section
variable {w : World} {B : Nat} {A : Option Addr} {n c : Nat}
theorem SliceIs.int_at {l : List Int} (h : SliceIs Enc.int w B A n c l) {i : Nat} (hi : i < n) :
    ∃ b o x, A = some ⟨b, o, none⟩ ∧ b < B ∧ Hid (l[i]? = some x) ∧ w.cell? ⟨b, o + i, none⟩ = some (.int .i64 x) ∧ fits x := by
  obtain ⟨b, o, x, cs, hA, hb, hx, ⟨rfl, hf⟩, hc⟩ := h.at_ hi
  exact ⟨b, o, x, hA, hb, hx, by simpa [Enc.int] using hc 0 _ rfl, hf⟩
theorem SliceIs.str_at {l : List ByteArray} (h : SliceIs Enc.str w B A n c l) {i : Nat} (hi : i < n) :
    ∃ b o x, A = some ⟨b, o, none⟩ ∧ b < B ∧ Hid (l[i]? = some x) ∧ w.cell? ⟨b, o + i, none⟩ = some (.string x) ∧ x.size ≤ 140737488351232 := by
  obtain ⟨b, o, x, cs, hA, hb, hx, ⟨rfl, hf⟩, hc⟩ := h.at_ hi
  exact ⟨b, o, x, hA, hb, hx, by simpa [Enc.str] using hc 0 _ rfl, hf⟩
theorem SliceIs.slice_at {α : Type} {E : Enc α} {l : List (List α)} (h : SliceIs (Enc.slice E) w B A n c l) {i : Nat} (hi : i < n) :
    ∃ b o x A' n' c', A = some ⟨b, o, none⟩ ∧ b < B ∧ Hid (l[i]? = some x) ∧ w.cell? ⟨b, o + i, none⟩ = some (.slice A' n' c') ∧ SliceIs E w B A' n' c' x := by
  obtain ⟨b, o, x, cs, hA, hb, hx, ⟨A', n', c', rfl, hf⟩, hc⟩ := h.at_ hi
  exact ⟨b, o, x, A', n', c', hA, hb, hx, by simpa [Enc.slice] using hc 0 _ rfl, hf⟩
theorem SliceIs.told_at {l : List GTold} (h : SliceIs Enc.told w B A n c l) {i : Nat} (hi : i < n) :
    ∃ b o x, A = some ⟨b, o, none⟩ ∧ b < B ∧ Hid (l[i]? = some x) ∧ w.cell? ⟨b, o + i * 4, none⟩ = some (.string x.x) ∧ w.cell? ⟨b, o + i * 4 + 1, none⟩ = some (.int .i64 x.v.k) ∧
      w.cell? ⟨b, o + i * 4 + 2, none⟩ = some (.int .i64 x.v.n) ∧ w.cell? ⟨b, o + i * 4 + 3, none⟩ = some (.string x.v.s) ∧ x.x.size ≤ 140737488351232 ∧ x.v.ok := by
  obtain ⟨b, o, x, cs, hA, hb, hx, ⟨rfl, hf⟩, hc⟩ := h.at_ hi
  exact ⟨b, o, x, hA, hb, hx, by simpa [Enc.told] using hc 0 _ rfl, by simpa [Enc.told] using hc 1 _ rfl, by simpa [Enc.told] using hc 2 _ rfl, by simpa [Enc.told] using hc 3 _ rfl, hf⟩
end
theorem SliceIs.nil {α : Type} {E : Enc α} {w : World} {B : Nat} : SliceIs E w B none 0 0 [] := ⟨rfl, Nat.le_refl _, by simp [maxLen], by simp [reachN], .inl rfl⟩
/-- a row of the call's own, read as a list -/
theorem SliceIs.of_own {α : Type} {E : Enc α} {w : World} {base e : Nat} {A : Option Addr} {n c : Nat} {l : List α} {xs : List Value}
    (h : w.ownsRow base e E.sz (.slice A n c) n xs) (hl : l.length = n) (hr : n ≤ reachN) (hx : ∀ i x, l[i]? = some x → E.ok w w.heap.size ((xs.drop (i * E.sz)).take E.sz) x) : SliceIs E w w.heap.size A n c l := by
  obtain ⟨h1, h2⟩ := h
  rcases h2 with ⟨hv, hn⟩ | ⟨g, cap, cur, hv, hg, hh, hnc, hcm, hsz, htk⟩
  · simp only [Value.slice.injEq] at hv
    obtain ⟨rfl, _, rfl⟩ := hv
    subst hn
    exact ⟨hl, Nat.le_refl _, by simp [maxLen], hr, .inl (List.eq_nil_of_length_eq_zero hl)⟩
  · simp only [Value.slice.injEq] at hv
    obtain ⟨rfl, _, rfl⟩ := hv
    refine ⟨hl, hnc, hcm, hr, .inr ⟨g, 0, rfl, (Array.getElem?_eq_some_iff.1 hh).1, fun i x hix => ⟨_, hx i x hix, fun j v hv => ?_⟩⟩⟩
    rw [cell_of_row w g _ cur e (0, 0) hh]
    rw [List.getElem?_take] at hv
    split at hv
    · rw [List.getElem?_drop, ← htk, List.getElem?_take] at hv
      split at hv
      · simpa [Array.getElem?_toList] using hv
      · cases hv
    · cases hv
theorem flat_piece {α : Type} (f : α → List Value) {sz : Nat} (hf : ∀ x, (f x).length = sz) : ∀ (l : List α) (i : Nat) (x : α), l[i]? = some x → ((l.flatMap f).drop (i * sz)).take sz = f x
  | [], _, _, h => by simp at h
  | y :: l, 0, x, h => by
    simp at h
    subst h
    simp [List.flatMap_cons, ← hf y]
  | y :: l, i + 1, x, h => by
    have ih := flat_piece f hf l i x (by simpa using h)
    rw [List.flatMap_cons, List.drop_append, hf y]
    have h1 : (f y).drop ((i + 1) * sz) = [] := List.drop_of_length_le (by rw [hf y, Nat.add_mul]; omega)
    rw [h1, List.nil_append]
    have h2 : (i + 1) * sz - sz = i * sz := by rw [Nat.add_mul]; omega
    rw [h2]; exact ih
theorem flat_len {α : Type} (f : α → List Value) {sz : Nat} (hf : ∀ x, (f x).length = sz) (l : List α) : (l.flatMap f).length = l.length * sz := by
  induction l with
  | nil => simp
  | cons x l ih => rw [List.flatMap_cons, List.length_append, hf, ih, List.length_cons, Nat.add_mul]; omega
theorem SliceIs.of_flat {α : Type} {E : Enc α} {w : World} {base e : Nat} {A : Option Addr} {n c : Nat} {l : List α} (f : α → List Value) (hf : ∀ x, (f x).length = E.sz)
    (h : w.ownsRow base e E.sz (.slice A n c) n (l.flatMap f)) (hl : l.length = n) (hr : n ≤ reachN) (hok : ∀ x ∈ l, E.ok w w.heap.size (f x) x) : SliceIs E w w.heap.size A n c l :=
  SliceIs.of_own h hl hr fun i x hx => by rw [flat_piece f hf l i x hx]; exact hok x (List.mem_of_getElem? hx)
theorem own_below {w w' : World} {base e sz : Nat} {v : Value} {n : Nat} {xs : List Value} (h : w.ownsRow base e sz v n xs) (hb : Below w.heap.size w w') : w'.ownsRow base e sz v n xs := by
  refine ⟨h.1, ?_⟩
  rcases h.2 with hn | ⟨g, cap, cur, rfl, hg, hh, r⟩
  · exact .inl hn
  · exact .inr ⟨g, cap, cur, rfl, hg, (hb.block g (Array.getElem?_eq_some_iff.1 hh).1).trans hh, r⟩
/-- an own row is a slice value -/
theorem own_form {w : World} {base e sz : Nat} {v : Value} {n : Nat} {xs : List Value} (h : w.ownsRow base e sz v n xs) : ∃ A c, v = .slice A n c := by
  rcases h.2 with ⟨rfl, rfl⟩ | ⟨g, cap, cur, rfl, _⟩
  · exact ⟨_, _, rfl⟩
  · exact ⟨_, _, rfl⟩
theorem own_block {w : World} {base e sz : Nat} {v : Value} {n : Nat} {xs : List Value} (h : w.ownsRow base e sz v n xs) : ∀ k, v.ownBlock = some k → base ≤ k := by
  rcases h.2 with ⟨rfl, rfl⟩ | ⟨g, cap, cur, rfl, hg, _⟩
  · intro k hk; cases hk
  · intro k hk; simp [Value.ownBlock] at hk; omega
theorem wpList_append_run {P : Program} {w w' : World} {ops : Array Oper} {rest : List Oper} {o : Oper} {a : Act} {Q : Exit → Act → World → Prop} {v' : Value} (hg : o.guard = none) (s x : Operand) (t : TypeId)
    (ho : o.op = .call { callee := .builtin .append, args := #[s, x], argTypes := #[t, t] }) (v xv : Value) (hs : a.eval s = v) (hx : a.eval x = xv)
    (hrun : (Builtin.append_ #[t, t] o.type #[v, xv]).run P w = .ok v' w') (h : wpList P ops Q rest (a.put o.dst v') w') : wpList P ops Q (o :: rest) a w :=
  wpList_plain hg fun K hK => by
    unfold Oper.wp execOp
    simp only [ho, resolve, invoke, builtin, Sem.run_bind, Sem.run_pure, Result.andThen_ok, List.map_toArray, List.map_cons, List.map_nil, hs, hx, hrun]
    exact hK _ _ h
theorem GV.ok_zero : GV.ok ⟨0, 0, ⟨#[]⟩⟩ := ⟨by unfold fits; decide, by unfold fits; decide, Nat.zero_le _⟩
def GV.cells (x : GV) : List Value := [.int .i64 x.k, .int .i64 x.n, .string x.s]
def GTold.cells (t : GTold) : List Value := [.string t.x, .int .i64 t.v.k, .int .i64 t.v.n, .string t.v.s]
/-- append of a slice that is only read (nil, empty or not) onto a row of the call's own -/
theorem run_append_slice {P : Program} {α : Type} {E : Enc α} (f : α → List Value) (hf : ∀ x, (f x).length = E.sz) (hE : ∀ {w B cs x}, E.ok w B cs x → cs = f x) (h1 : ∀ x, ∀ u ∈ f x, u.oneCell' = true)
    (w : World) {base t ty e bytes : Nat} {z : Value} (ht : P.underlying t = some (.slice e)) (hi : (P.info? e).map (fun i => (i.zero, i.size, i.bytes)) = some (some z, E.sz, bytes))
    (hzs : z.cells.size = E.sz) (hsz : 0 < E.sz) {v : Value} {n : Nat} {xs : List Value} (hown : w.ownsRow base e E.sz v n xs)
    {B : Nat} {A : Option Addr} {m c : Nat} {l : List α} (hl : SliceIs E w B A m c l)
    (h63 : n + m ≤ maxLen) (hbytes : (n + m) * bytes ≤ 140737488355328) (hbase : base ≤ w.heap.size) :
    ∃ v' w', (Builtin.append_ #[t, t] ty #[v, .slice A m c]).run P w = .ok v' w' ∧ w'.ownsRow base e E.sz v' (n + m) (xs ++ l.flatMap f) ∧ w.grownBy w' v.ownBlock ∧ Below base w w' := by
  obtain ⟨i, hi', hz, hs, hb⟩ := info_parts hi
  have hnil : m = 0 → l = [] := fun h => List.eq_nil_of_length_eq_zero (by rw [hl.1, h])
  rcases hl.2.2.2.2 with hl0 | ⟨b, o, hA, _, hc⟩
  · have hm : m = 0 := by rw [← hl.1, hl0]; rfl
    subst hm
    subst hl0
    rcases A with _ | ad
    · refine ⟨v, w, ?_, by simpa using hown, World.grownBy.refl w _, Below.refl _ _⟩
      rcases hown.2 with ⟨rfl, rfl⟩ | ⟨g, cap, cur, rfl, _, _, hnc, _⟩
      · simp [Builtin.append_, run_underlying ht, sizeOf, typeInfo, hi', Builtin.lenOf, Builtin.firstCells]
      · simp [Builtin.append_, run_underlying ht, sizeOf, typeInfo, hi', Builtin.lenOf, Builtin.firstCells, hnc, storeCells]
    · obtain ⟨v', w', hrun, ho, hg, _⟩ := run_append_own (P := P) w base t ty e i z E.sz bytes ht hi' hz hs hb hzs hsz v n xs hown ad 0 c [] (by simp) (by simp) (by simp) h63 hbytes hbase
      exact ⟨v', w', hrun, by simpa using ho, hg, (Below.refl base w).grown hg hbase (own_block hown)⟩
  · subst hA
    obtain ⟨v', w', hrun, ho, hg, _⟩ := run_append_own (P := P) w base t ty e i z E.sz bytes ht hi' hz hs hb hzs hsz v n xs hown ⟨b, o, none⟩ m c (l.flatMap f) (by rw [flat_len f hf, hl.1])
      (by
        intro j u hu
        have hadd : (⟨b, o, none⟩ : Addr).add j = ⟨b, o + j, none⟩ := by unfold Addr.add; split <;> simp_all
        rw [hadd]
        have hjl : j < (l.flatMap f).length := by
          rcases Nat.lt_or_ge j (l.flatMap f).length with h | h
          · exact h
          · rw [List.getElem?_eq_none h] at hu; cases hu
        rw [flat_len f hf] at hjl
        have hq : j / E.sz < l.length := Nat.div_lt_of_lt_mul (by rw [Nat.mul_comm]; exact hjl)
        obtain ⟨cs, hok, hcs⟩ := hc (j / E.sz) _ (List.getElem?_eq_getElem hq)
        have he := hE hok
        subst he
        have hp := flat_piece f hf l (j / E.sz) _ (List.getElem?_eq_getElem hq)
        have h3 : (f l[j / E.sz])[j % E.sz]? = some u := by
          rw [← hp, List.getElem?_take, if_pos (Nat.mod_lt _ hsz), List.getElem?_drop]
          rw [show j / E.sz * E.sz + j % E.sz = j from by rw [Nat.mul_comm]; exact Nat.div_add_mod _ _]
          exact hu
        have h4 := hcs _ _ h3
        rw [show o + j / E.sz * E.sz + j % E.sz = o + j from by rw [Nat.add_assoc, Nat.mul_comm, Nat.div_add_mod]] at h4
        exact h4)
      (by intro u hu; obtain ⟨x, _, hx⟩ := List.mem_flatMap.1 hu; exact h1 x u hx) h63 hbytes hbase
    exact ⟨v', w', hrun, ho, hg, (Below.refl base w).grown hg hbase (own_block hown)⟩
theorem heapNew {w : World} {o : Obj} {g : Nat} (h : w.heap.size = g) : (w.alloc o).heap[g]? = some o := by subst h; exact heap_alloc_new w o
theorem heapOld {w : World} {o x : Obj} {g : Nat} (h : w.heap[g]? = some x) : (w.alloc o).heap[g]? = some x := (Below.heap_alloc w o g (Array.getElem?_eq_some_iff.1 h).1).trans h
/-- a block that is known whole, read as a list -/
theorem SliceIs.of_block {α : Type} {E : Enc α} {w : World} {g e : Nat} {cs : List Value} {l : List α} (f : α → List Value) (hf : ∀ x, (f x).length = E.sz) (h : w.heap[g]? = some (.cells cs.toArray e (0, 0))) (hc : cs = l.flatMap f) (hr : l.length ≤ reachN)
    (hok : ∀ x ∈ l, E.ok w w.heap.size (f x) x) : SliceIs E w w.heap.size (some ⟨g, 0, none⟩) l.length l.length l := by
  subst hc
  have hz := flat_len f hf l
  refine SliceIs.of_flat f hf (base := 0) (e := e) ⟨hz, .inr ⟨g, l.length, (l.flatMap f).toArray, rfl, Nat.zero_le _, h, Nat.le_refl _, by simp only [reachN] at hr; simp only [maxLen]; omega, by rw [List.size_toArray, hz], ?_⟩⟩ rfl hr hok
  rw [← hz]; exact List.take_length
theorem own_empty {w : World} {base e sz g : Nat} (hb : base ≤ g) (h : w.heap[g]? = some (.cells #[] e (0, 0))) : w.ownsRow base e sz (.slice (some ⟨g, 0, none⟩) 0 0) 0 [] :=
  ⟨by simp, .inr ⟨g, 0, #[], rfl, hb, h, Nat.le_refl _, Nat.zero_le _, by simp, by simp⟩⟩
/-- append of one element that lies in block g onto a row of the call's own -/
theorem run_push_at {P : Program} (w : World) {base t ty e size bytes : Nat} {z : Value} (ht : P.underlying t = some (.slice e)) (hi : (P.info? e).map (fun i => (i.zero, i.size, i.bytes)) = some (some z, size, bytes))
    (hzs : z.cells.size = size) (hsz : 0 < size) {v : Value} {n : Nat} {xs : List Value} (hown : w.ownsRow base e size v n xs) (g : Nat) (cs : List Value) (hl : cs.length = size) (hg : w.heap[g]? = some (.cells cs.toArray e (0, 0))) (h1 : ∀ u ∈ cs, u.oneCell' = true)
    (h63 : n + 1 ≤ maxLen) (hbytes : (n + 1) * bytes ≤ 140737488355328) (hbase : base ≤ w.heap.size) :
    ∃ v' w', (Builtin.append_ #[t, t] ty #[v, .slice (some ⟨g, 0, none⟩) 1 1]).run P w = .ok v' w' ∧ w'.ownsRow base e size v' (n + 1) (xs ++ cs) ∧ w.grownBy w' v.ownBlock ∧ Below base w w' := by
  obtain ⟨i, hi', hz, hs, hb⟩ := info_parts hi
  have hnews : ∀ j u, cs[j]? = some u → w.cell? ((⟨g, 0, none⟩ : Addr).add j) = some u := by
    intro j u hu
    have hadd : (⟨g, 0, none⟩ : Addr).add j = ⟨g, j, none⟩ := by unfold Addr.add; split <;> simp_all
    rw [hadd, cell_of_row _ g j cs.toArray e (0, 0) hg]
    simpa using hu
  obtain ⟨v', w', hrun, ho, hgr, _⟩ := run_append_own (P := P) w base t ty e i z size bytes ht hi' hz hs hb hzs hsz v n xs hown ⟨g, 0, none⟩ 1 1 cs (by rw [hl]; omega) hnews h1 h63 hbytes hbase
  exact ⟨v', w', hrun, ho, hgr, (Below.refl base w).grown hgr hbase (own_block hown)⟩
theorem step_append_ex {P : Program} {w : World} {ops : Array Oper} {o : Oper} {a : Act} {K : Act → World → Prop} {Q : Exit → Act → World → Prop} {E : Prop} (hgd : o.guard = none) (s x : Operand) (t : TypeId)
    (ho : o.op = .call { callee := .builtin .append, args := #[s, x], argTypes := #[t, t] }) (v xv : Value) (hs : a.eval s = v) (hx : a.eval x = xv) (R : Value → World → Prop)
    (hrun : ∃ v' w', (Builtin.append_ #[t, t] o.type #[v, xv]).run P w = .ok v' w' ∧ R v' w') (h : ∀ v' w', R v' w' → K (a.put o.dst v') w') :
    if Region.wanted o (yielded ops a.tmps) = true then Oper.wp P o a w K Q else E := by
  rw [if_pos (by simp [Region.wanted, hgd])]
  obtain ⟨v', w', hr, hR⟩ := hrun
  unfold Oper.wp execOp
  simp only [ho, resolve, invoke, builtin, Sem.run_bind, Sem.run_pure, Result.andThen_ok, List.map_toArray, List.map_cons, List.map_nil, hs, hx, hr]
  exact h _ _ hR
theorem nodup_len {α : Type} : ∀ (l m : List α), l.Nodup → (∀ x ∈ l, x ∈ m) → l.length ≤ m.length
  | [], _, _, _ => Nat.zero_le _
  | x :: l, m, hn, hs => by
    obtain ⟨s, t, rfl⟩ := List.append_of_mem (hs x (by simp))
    rw [List.nodup_cons] at hn
    have := nodup_len l (s ++ t) hn.2 (fun y hy => by
      have := hs y (by simp [hy])
      simp only [List.mem_append, List.mem_cons] at this ⊢
      rcases this with h | h | h
      · exact .inl h
      · subst h; exact absurd hy hn.1
      · exact .inr h)
    simp only [List.length_append, List.length_cons] at this ⊢
    omega
/-- a walk over the map in block g by the iterator in block it; done: what has been met -/
structure IterIs (w : World) (it g : Nat) (kvs done : List (ByteArray × Value)) : Prop where
  ex : ∃ (es : Array MapEntry) (clock : Nat) (seen : Array Nat) (last : Nat) (ds : List MapEntry), w.heap[g]? = some (.map es clock) ∧ es.toList.map (fun e => (e.key, e.val)) = kvs.map (fun p => (Value.string p.1, p.2)) ∧
    (es.toList.map (·.born)).Nodup ∧ (∀ e ∈ es.toList, e.born < clock) ∧ w.heap[it]? = some (.mapIter (some g) clock seen last) ∧ (done ≠ [] → last = clock) ∧
    (∀ e ∈ ds, e ∈ es.toList) ∧ seen.toList = ds.map (·.born) ∧ ds.map (fun e => (e.key, e.val)) = done.map (fun p => (Value.string p.1, p.2))
  keys : (kvs.map Prod.fst).Nodup
  sub : ∀ p ∈ done, p ∈ kvs
  once : done.Nodup
section
variable {P : Program} {w : World} {it g : Nat} {kvs done : List (ByteArray × Value)}
theorem entry_of_mem {es : List MapEntry} {kvs : List (ByteArray × Value)} (h : es.map (fun e => (e.key, e.val)) = kvs.map (fun p => (Value.string p.1, p.2))) {e : MapEntry} (he : e ∈ es) :
    ∃ p ∈ kvs, e.key = .string p.1 ∧ e.val = p.2 := by
  have h1 : (e.key, e.val) ∈ es.map (fun e => (e.key, e.val)) := List.mem_map.2 ⟨e, he, rfl⟩
  rw [h] at h1
  obtain ⟨p, hp, hpe⟩ := List.mem_map.1 h1
  simp only [Prod.mk.injEq] at hpe
  exact ⟨p, hp, hpe.1.symm, hpe.2.symm⟩
theorem mem_of_entry {es : List MapEntry} {kvs : List (ByteArray × Value)} (h : es.map (fun e => (e.key, e.val)) = kvs.map (fun p => (Value.string p.1, p.2))) {p : ByteArray × Value} (hp : p ∈ kvs) :
    ∃ e ∈ es, e.key = .string p.1 ∧ e.val = p.2 := by
  have h1 : (Value.string p.1, p.2) ∈ kvs.map (fun p => (Value.string p.1, p.2)) := List.mem_map.2 ⟨p, hp, rfl⟩
  rw [← h] at h1
  obtain ⟨e, he, hpe⟩ := List.mem_map.1 h1
  simp only [Prod.mk.injEq] at hpe
  exact ⟨e, he, hpe.1, hpe.2⟩
theorem born_inj {es : List MapEntry} (hn : (es.map (·.born)).Nodup) {e e' : MapEntry} (he : e ∈ es) (he' : e' ∈ es) (hb : e.born = e'.born) : e = e' := by
  induction es with
  | nil => cases he
  | cons x es ih =>
    simp only [List.map_cons, List.nodup_cons] at hn
    rcases List.mem_cons.1 he with h1 | h1 <;> rcases List.mem_cons.1 he' with h2 | h2
    · rw [h1, h2]
    · exact absurd (List.mem_map.2 ⟨e', h2, by rw [← hb, h1]⟩) hn.1
    · exact absurd (List.mem_map.2 ⟨e, h1, by rw [hb, h2]⟩) hn.1
    · exact ih hn.2 h1 h2
theorem MapIs.range (h : MapIs w g kvs) {t k e : TypeId} (ht : P.underlying t = some (.map k e)) :
    ∃ clock, (Instr.range t (.map (some g))).run P w = .ok (.pointer (some ⟨w.heap.size, 0, none⟩)) (w.alloc (.mapIter (some g) clock #[] clock)) ∧ IterIs (w.alloc (.mapIter (some g) clock #[] clock)) w.heap.size g kvs [] := by
  obtain ⟨es, clock, hb, hes, hn, hc⟩ := h.ex
  refine ⟨clock, ?_, ⟨⟨es, clock, #[], clock, [], heapOld hb, hes, hn, hc, heapNew rfl, fun _ => rfl, by simp, by simp, by simp⟩, h.keys, by simp, by simp⟩⟩
  simp only [Instr.range, Sem.run_bind, run_underlying ht, Result.andThen_ok, MapKept.run_getObj_map hb, Sem.run_pure]
  rfl
theorem IterIs.next (h : IterIs w it g kvs done) (hne : it ≠ g) (ty : TypeId) :
    ((∀ p ∈ kvs, p ∈ done) ∧ (Instr.next (.pointer (some ⟨it, 0, none⟩)) false ty).run P w = .ok (.tuple #[.bool false]) w) ∨
    ∃ p w', p ∈ kvs ∧ p ∉ done ∧ (Instr.next (.pointer (some ⟨it, 0, none⟩)) false ty).run P w = .ok (.tuple #[.bool true, .string p.1, p.2]) w' ∧ IterIs w' it g kvs (done ++ [p]) ∧ w.grownBy w' (some it) ∧ w'.heap.size = w.heap.size := by
  obtain ⟨es, clock, seen, last, ds, hb, hes, hn, hc, hit, hlast, hds, hseen, hdone⟩ := h.ex
  have hgo : (getObj it).run P w = .ok (.mapIter (some g) clock seen last) w := by simp [getObj, Sem.run, hit]
  have hguard : (!seen.isEmpty && !es.isEmpty && es.all (·.born ≥ last)) = false := by
    by_cases hd : done = []
    · have : ds = [] := by subst hd; simpa using hdone
      subst this
      have : seen = #[] := by apply Array.toList_inj.1; simpa using hseen
      subst this
      simp
    · have hl := hlast hd
      subst hl
      by_cases he : es.isEmpty
      · simp [he]
      · have hne : es.size ≠ 0 := by simpa using he
        have h0 := hc es[0] (by simp)
        have : es.all (·.born ≥ last) = false := by
          rw [Array.all_eq_false]
          exact ⟨0, by omega, by simpa using h0⟩
        simp [this]
  have hold : ∀ l : Array MapEntry, (∀ e ∈ l.toList, e.born < clock) → l.filter (·.born < clock) = l := by
    intro l hl
    rw [Array.filter_eq_self]
    intro a ha
    simpa using hl a (by simpa using ha)
  have hnew : ∀ l : Array MapEntry, (∀ e ∈ l.toList, e.born < clock) → l.filter (·.born ≥ clock) = #[] := by
    intro l hl
    rw [Array.filter_eq_empty_iff]
    intro a ha
    have := hl a (by simpa using ha)
    simp; omega
  have hleft : ∀ e ∈ (es.filter fun e => !seen.contains e.born).toList, e.born < clock := by
    intro e he
    simp at he
    exact hc e (by simpa using he.1)
  have hstart : (Instr.next (.pointer (some ⟨it, 0, none⟩)) false ty).run P w = ((choose (Question.mapNext ((if (es.filter fun e : MapEntry => !seen.contains e.born).isEmpty = true then #[none] else #[]) ++ (es.filter fun e : MapEntry => !seen.contains e.born).map some).size)).run P w).andThen fun j w1 =>
      (match ((if (es.filter fun e : MapEntry => !seen.contains e.born).isEmpty = true then #[none] else #[]) ++ (es.filter fun e : MapEntry => !seen.contains e.born).map some)[j]? with
        | some (some e) => (do
          setObj it (Obj.mapIter (some g) clock (seen.push e.born) clock)
          pure (Value.tuple #[Value.bool true, e.key, e.val]) : Sem Value)
        | some none => pure (Value.tuple #[Value.bool false])
        | none => stuck "Next: no such candidate").run P w1 := by
    simp only [Instr.next, Sem.run_bind, hgo, Result.andThen_ok, MapKept.run_getObj_map hb, hguard, hold _ hleft, hnew _ hleft]
    simp only [Array.append_empty, Bool.false_eq_true, if_false, Sem.run_bind]
    rfl
  rw [hstart]
  have hmem : ∀ e, e ∈ (es.filter fun e => !seen.contains e.born).toList ↔ e ∈ es.toList ∧ e ∉ ds := by
    intro e
    simp only [Array.toList_filter, List.mem_filter, Bool.not_eq_true', and_congr_right_iff]
    intro he
    rw [← Bool.not_eq_true, ← Array.contains_toList, List.contains_iff_mem, hseen]
    constructor
    · intro h1 h2
      exact h1 (List.mem_map.2 ⟨e, h2, rfl⟩)
    · intro h1 h2
      obtain ⟨e', he', hb'⟩ := List.mem_map.1 h2
      have := born_inj hn (hds e' he') he hb'
      subst this
      exact h1 he'
  generalize (es.filter fun e : MapEntry => !seen.contains e.born) = L at hmem
  by_cases hL : L.isEmpty
  · left
    have hL0 : L = #[] := by simpa using hL
    subst hL0
    refine ⟨fun p hp => ?_, ?_⟩
    · obtain ⟨e, he, hk, hv⟩ := mem_of_entry hes hp
      have hd : e ∈ ds := by
        rcases Classical.em (e ∈ ds) with h1 | h1
        · exact h1
        · have := (hmem e).2 ⟨he, h1⟩; simp at this
      obtain ⟨q, hq, hk2, hv2⟩ := entry_of_mem hdone hd
      have hpq : p = q := by
        rw [hk] at hk2
        rw [hv] at hv2
        injection hk2 with hk2
        exact Prod.ext hk2 hv2
      rw [hpq]; exact hq
    · simp only [Array.isEmpty_empty, if_true, Array.map_empty, Array.append_empty]
      rfl
  · right
    have hn1 : 0 < L.size := by
      rcases Nat.eq_zero_or_pos L.size with h0 | h0
      · exact absurd (by simpa using h0) hL
      · exact h0
    obtain ⟨j, w1, hch, hj, hw1⟩ : ∃ j w1, (choose (Question.mapNext L.size)).run P w = .ok j w1 ∧ j < L.size ∧ (w1 = w ∨ w1 = w.drew) := by
      by_cases h1 : L.size ≤ 1
      · exact ⟨0, w, by simp [choose, Sem.run, Question.forced, h1], hn1, .inl rfl⟩
      · exact ⟨(Question.mapNext L.size).cut (w.tape w.drawn (.mapNext L.size)), w.drew, by simp [choose, Sem.run, Question.forced, h1], by simp only [Question.cut]; exact Nat.mod_lt _ hn1, .inr rfl⟩
    have hLj : (L.map some)[j]? = some (some L[j]) := by simp [hj]
    simp only [if_neg hL, Array.empty_append, Array.size_map, hch, Result.andThen_ok, hLj]
    have he : L[j] ∈ es.toList ∧ L[j] ∉ ds := (hmem L[j]).1 (by simp)
    obtain ⟨p, hp, hk, hv⟩ := entry_of_mem hes he.1
    have hpd : p ∉ done := by
      intro hpd
      obtain ⟨e', he', hk', hv'⟩ := mem_of_entry hdone hpd
      obtain ⟨i1, h1⟩ := List.mem_iff_getElem?.1 (hds e' he')
      obtain ⟨i2, h2⟩ := List.mem_iff_getElem?.1 he.1
      have g1 := congrArg (fun l => l[i1]?) hes
      have g2 := congrArg (fun l => l[i2]?) hes
      simp only [List.getElem?_map, h1, h2, Option.map_some] at g1 g2
      have gg : ∀ (i : Nat) (e : Value), (kvs.map (fun p => (Value.string p.1, p.2)))[i]? = some (e, p.2) → e = Value.string p.1 → (kvs.map Prod.fst)[i]? = some p.1 := by
        intro i e hh he
        simp only [List.getElem?_map] at hh ⊢
        cases hx : kvs[i]? with
        | none => rw [hx] at hh; cases hh
        | some q => rw [hx] at hh; subst he; simp at hh; simp [hh.1]
      rw [← List.getElem?_map] at g1 g2
      have e1 := gg i1 _ (by rw [← g1, hv']) hk'
      have e2 := gg i2 _ (by rw [← g2, hv]) hk
      have hi : i1 = i2 := by
        have hl : i1 < (kvs.map Prod.fst).length := by
          rcases Nat.lt_or_ge i1 (kvs.map Prod.fst).length with h | h
          · exact h
          · rw [List.getElem?_eq_none h] at e1; cases e1
        exact List.getElem?_inj hl h.keys |>.1 (by rw [e1, e2])
      subst hi
      rw [h1] at h2
      injection h2 with h2
      exact he.2 (h2 ▸ he')
    have hlt : it < w.heap.size := (Array.getElem?_eq_some_iff.1 hit).1
    have hit1 : w1.heap[it]? = some (.mapIter (some g) clock seen last) := by rcases hw1 with rfl | rfl <;> exact hit
    have hb1 : w1.heap[g]? = some (.map es clock) := by rcases hw1 with rfl | rfl <;> exact hb
    have hset : (setObj it (Obj.mapIter (some g) clock (seen.push L[j].born) clock)).run P w1 = .ok () { w1 with heap := w1.heap.setIfInBounds it (Obj.mapIter (some g) clock (seen.push L[j].born) clock) } := by
      simp [setObj, Sem.run, hit1]
    refine ⟨p, { w1 with heap := w1.heap.setIfInBounds it (Obj.mapIter (some g) clock (seen.push L[j].born) clock) }, hp, hpd, ?_, ?_, ?_, ?_⟩
    · simp only [Sem.run_bind, hset, Result.andThen_ok, Sem.run_pure, hk, hv]
    · have hlt1 : it < w1.heap.size := (Array.getElem?_eq_some_iff.1 hit1).1
      refine ⟨⟨es, clock, seen.push L[j].born, clock, ds ++ [L[j]], ?_, hes, hn, hc, ?_, fun _ => rfl, ?_, ?_, ?_⟩, h.keys, ?_, ?_⟩
      · show (w1.heap.setIfInBounds it _)[g]? = _
        rw [Array.getElem?_setIfInBounds_ne hne]; exact hb1
      · show (w1.heap.setIfInBounds it _)[it]? = _
        simp [hlt1]
      · intro e hh
        rcases List.mem_append.1 hh with hh | hh
        · exact hds e hh
        · simp at hh; subst hh; exact he.1
      · simp [hseen]
      · simp [hdone, hk, hv]
      · intro q hq
        rcases List.mem_append.1 hq with hq | hq
        · exact h.sub q hq
        · simp at hq; subst hq; exact hp
      · rw [List.nodup_append]
        refine ⟨h.once, by simp, ?_⟩
        intro a ha b hb
        simp at hb
        subst hb
        rintro rfl
        exact hpd ha
    · have hg := heap_set_grown (w := w1) (b := it) (o := Obj.mapIter (some g) clock (seen.push L[j].born) clock)
      rcases hw1 with rfl | rfl
      · exact hg
      · exact ⟨hg.os, hg.tape, hg.output, hg.size, hg.block⟩
    · rcases hw1 with rfl | rfl <;> (show (Array.setIfInBounds _ _ _).size = _; rw [Array.size_setIfInBounds]; try rfl)
theorem IterIs.below {w' : World} {B : Nat} (h : IterIs w it g kvs done) (hb : Below B w w') (h1 : it < B) (h2 : g < B) : IterIs w' it g kvs done := by
  obtain ⟨⟨es, clock, seen, last, ds, a1, a2, a3, a4, a5, a6⟩, k, s, o⟩ := h
  exact ⟨⟨es, clock, seen, last, ds, (hb.block g h2).trans a1, a2, a3, a4, (hb.block it h1).trans a5, a6⟩, k, s, o⟩
theorem IterIs.same {w' : World} (h : IterIs w it g kvs done) (h1 : w'.heap[it]? = w.heap[it]?) (h2 : w'.heap[g]? = w.heap[g]?) : IterIs w' it g kvs done := by
  obtain ⟨⟨es, clock, seen, last, ds, a1, a2, a3, a4, a5, a6⟩, k, s, o⟩ := h
  exact ⟨⟨es, clock, seen, last, ds, h2.trans a1, a2, a3, a4, h1.trans a5, a6⟩, k, s, o⟩
theorem IterIs.lt (h : IterIs w it g kvs done) : it < w.heap.size := by
  obtain ⟨⟨es, clock, seen, last, ds, a1, a2, a3, a4, a5, a6⟩, k, s, o⟩ := h
  exact (Array.getElem?_eq_some_iff.1 a5).1
theorem IterIs.map (h : IterIs w it g kvs done) : MapIs w g kvs := by
  obtain ⟨⟨es, clock, seen, last, ds, a1, a2, a3, a4, a5, a6⟩, k, s, o⟩ := h
  exact ⟨⟨es, clock, a1, a2, a3, a4⟩, k⟩
theorem IterIs.len (h : IterIs w it g kvs done) : done.length ≤ kvs.length :=
  nodup_len _ _ h.once h.sub
end
end Go.Proofs.YtfklheagafffmaaGreatDoor
