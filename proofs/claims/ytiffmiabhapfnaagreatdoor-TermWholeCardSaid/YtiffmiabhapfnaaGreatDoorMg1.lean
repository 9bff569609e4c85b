/- Merged by my own program of: Base, Drawn, Sans, Range, Range2, Gen, PushR. -/
import Derived.WalkKit
import Derived.WalkSpells
import Derived.WalkLawsBesides
import Derived.MapKept
import Derived.BigQuiet
import Derived.Lib.Hide
import Derived.Deep.Draws
import Derived.Deep.QuietTactic
import Derived.Deep.MidRow
import Derived.Great.Walk
import Derived.Great.BuildSlice
import Derived.RangeFuncBox
import Derived.RangeFuncNested
import Derived.RangeFuncLeaves
/- My own base: string-keyed maps as association lists; slices as lists; plain lemmas. Nothing of any program. -/
namespace Go.Proofs.YtiffmiabhapfnaaGreatDoor
open Go.RowKit

theorem toList_inj (a b : ByteArray) : a.toList = b.toList ↔ a = b := by
  rw [ByteArray.toList_eq, ByteArray.toList_eq]
  obtain ⟨⟨x⟩⟩ := a
  obtain ⟨⟨y⟩⟩ := b
  simp
instance : LawfulBEq ByteArray where
  eq_of_beq {a b} h := by rw [beq_toListBytes] at h; exact (toList_inj a b).1 (by simpa using h)
  rfl {a} := by rw [beq_toListBytes]; simp

/-! ### string-keyed maps as association lists -/
def kvGet {α : Type} (l : List (ByteArray × α)) (s : ByteArray) : Option α := (l.find? (fun p => p.1 == s)).map (·.2)
def kvSet {α : Type} : List (ByteArray × α) → ByteArray → α → List (ByteArray × α)
  | [], s, v => [(s, v)]
  | p :: l, s, v => if p.1 = s then (s, v) :: l else p :: kvSet l s v

structure MapIs (w : World) (b : Nat) (kvs : List (ByteArray × Value)) : Prop where
  ex : ∃ es clock, w.heap[b]? = some (.map es clock) ∧ es.toList.map (fun e => (e.key, e.val)) = kvs.map (fun p => (Value.string p.1, p.2)) ∧
    (es.toList.map (·.born)).Nodup ∧ ∀ e ∈ es.toList, e.born < clock
  keys : (kvs.map Prod.fst).Nodup

theorem findNow_str (s : ByteArray) : ∀ (l : List MapEntry) (kvs : List (ByteArray × Value)) (i : Nat),
    l.map (fun e => (e.key, e.val)) = kvs.map (fun p => (Value.string p.1, p.2)) →
    Instr.findNow .string (.string s) l i = some ((kvs.findIdx? (fun p => p.1 == s)).map fun j => (i + j, ((kvs[j]?).map (·.2)).getD undef))
  | [], kvs, i, h => by
    cases kvs with
    | nil => simp [Instr.findNow]
    | cons p kvs => simp at h
  | e :: l, kvs, i, h => by
    cases kvs with
    | nil => simp at h
    | cons p kvs =>
      simp only [List.map_cons, List.cons.injEq, Prod.mk.injEq] at h
      obtain ⟨⟨hk, hv⟩, ht⟩ := h
      have ih := findNow_str s l kvs (i + 1) ht
      simp only [Instr.findNow, hk, Instr.sameNow]
      by_cases hs : p.1 = s
      · subst hs
        simp [List.findIdx?_cons, hv]
      · have h1 : (s == p.1) = false := by simp; exact fun e => hs e.symm
        have h2 : (p.1 == s) = false := by simp [hs]
        rw [h1]
        simp only [ih, List.findIdx?_cons, h2]
        congr 1
        simp [Option.map_map, Function.comp_def]
        cases List.findIdx? (fun p => p.1 == s) kvs <;> simp [Nat.add_assoc, Nat.add_comm 1]

theorem findIdx_get {α : Type} (kvs : List (ByteArray × α)) (s : ByteArray) (d : α) :
    ((kvs.findIdx? (fun p => p.1 == s)).map fun j => ((kvs[j]?).map (·.2)).getD d) = kvGet kvs s := by
  induction kvs with
  | nil => simp [kvGet]
  | cons p kvs ih =>
    by_cases hs : p.1 = s
    · simp [kvGet, List.findIdx?_cons, hs]
    · have h2 : (p.1 == s) = false := by simp [hs]
      simp only [kvGet, List.findIdx?_cons, h2, List.find?_cons] at ih ⊢
      rw [← ih]
      simp [Option.map_map, Function.comp_def]

section
variable {P : Program} {w : World} {b : Nat} {kvs : List (ByteArray × Value)}

theorem run_checkKey_str {k : TypeId} (hk : P.underlying k = some .string) (e : Bool) (s : ByteArray) : (Instr.checkKey e 10000 k (.string s)).run P w = .ok () w := by
  exact MapKept.run_checkKey hk (by simp [MapKept.IsKey]) e 9999

theorem MapIs.lookup_ok (h : MapIs w b kvs) {t k e : TypeId} (ht : P.underlying t = some (.map k e)) (hk : P.underlying k = some .string) {z : Value} (hz : (zeroValue e).run P w = .ok z w) (s : ByteArray) :
    (Instr.lookup t (.map (some b)) (.string s) true).run P w = .ok (.tuple #[(kvGet kvs s).getD z, .bool (kvGet kvs s).isSome]) w := by
  obtain ⟨es, clock, hb, hes, _, _⟩ := h.ex
  have h1 := findNow_str s es.toList kvs 0 hes
  have h2 := findIdx_get kvs s undef
  simp only [Instr.lookup, Sem.run_bind, run_underlying ht, Result.andThen_ok, MapKept.run_getObj_map hb, run_checkKey_str hk, MapKept.run_findKey hk h1, Sem.run_pure]
  rw [← h2]
  cases List.findIdx? (fun p => p.1 == s) kvs with
  | none => simp [hz]
  | some j => simp

theorem MapIs.lookup (h : MapIs w b kvs) {t k e : TypeId} (ht : P.underlying t = some (.map k e)) (hk : P.underlying k = some .string) {z : Value} (hz : (zeroValue e).run P w = .ok z w) (s : ByteArray) :
    (Instr.lookup t (.map (some b)) (.string s) false).run P w = .ok ((kvGet kvs s).getD z) w := by
  obtain ⟨es, clock, hb, hes, _, _⟩ := h.ex
  have h1 := findNow_str s es.toList kvs 0 hes
  have h2 := findIdx_get kvs s undef
  simp only [Instr.lookup, Sem.run_bind, run_underlying ht, Result.andThen_ok, MapKept.run_getObj_map hb, run_checkKey_str hk, MapKept.run_findKey hk h1, Sem.run_pure]
  rw [← h2]
  cases List.findIdx? (fun p => p.1 == s) kvs with
  | none => simp [hz]
  | some j => simp

theorem lookup_nil_ok {t k e : TypeId} (ht : P.underlying t = some (.map k e)) (hk : P.underlying k = some .string) {z : Value} (hz : (zeroValue e).run P w = .ok z w) (s : ByteArray) :
    (Instr.lookup t (.map none) (.string s) true).run P w = .ok (.tuple #[z, .bool false]) w := by
  simp [Instr.lookup, run_underlying ht, run_checkKey_str hk, MapKept.run_findKey (l := []) (a := none) hk rfl, hz]

theorem MapIs.len (h : MapIs w b kvs) {t k e : TypeId} (ht : P.underlying t = some (.map k e)) (ty : TypeId) :
    (Builtin.len_ #[t] ty #[.map (some b)]).run P w = .ok (.int .i64 kvs.length) w := by
  obtain ⟨es, clock, hb, hes, _, _⟩ := h.ex
  have hl : es.size = kvs.length := by have := congrArg List.length hes; simpa using this
  simp [Builtin.len_, run_underlying ht, MapKept.run_getObj_map hb, hl, goInt]

theorem kvSet_mem {α : Type} {l : List (ByteArray × α)} {s : ByteArray} {v : α} {x : ByteArray} : x ∈ (kvSet l s v).map Prod.fst ↔ x ∈ l.map Prod.fst ∨ x = s := by
  induction l with
  | nil => simp [kvSet]
  | cons p l ih =>
    unfold kvSet
    split
    · rename_i h
      simp only [List.map_cons, List.mem_cons, h]
      constructor
      · rintro (h | h)
        · exact .inr h
        · exact .inl (.inr h)
      · rintro ((h | h) | h)
        · exact .inl h
        · exact .inr h
        · exact .inl h
    · simp only [List.map_cons, List.mem_cons, ih, or_assoc]

theorem kvSet_keys {α : Type} {l : List (ByteArray × α)} {s : ByteArray} {v : α} (h : (l.map Prod.fst).Nodup) : ((kvSet l s v).map Prod.fst).Nodup := by
  induction l with
  | nil => simp [kvSet]
  | cons p l ih =>
    simp only [List.map_cons, List.nodup_cons] at h
    unfold kvSet
    split
    · rename_i e
      simp only [List.map_cons, List.nodup_cons]
      rw [← e]; exact h
    · rename_i e
      simp only [List.map_cons, List.nodup_cons, kvSet_mem]
      refine ⟨?_, ih h.2⟩
      rintro (hm | hm)
      · exact h.1 hm
      · exact e hm

theorem kvGet_cons {α : Type} (p : ByteArray × α) (l : List (ByteArray × α)) (t : ByteArray) : kvGet (p :: l) t = if p.1 = t then some p.2 else kvGet l t := by
  by_cases h : p.1 = t
  · simp [kvGet, h]
  · simp only [kvGet, List.find?_cons, beq_eq_false_iff_ne.2 h, if_neg h]

theorem kvGet_set {α : Type} (l : List (ByteArray × α)) (s t : ByteArray) (v : α) : kvGet (kvSet l s v) t = if s = t then some v else kvGet l t := by
  induction l with
  | nil => simp [kvSet, kvGet_cons]
  | cons p l ih =>
    unfold kvSet
    split
    · rename_i e
      rw [kvGet_cons, kvGet_cons]
      by_cases h : s = t
      · simp [h]
      · simp [h, e]
    · rename_i e
      rw [kvGet_cons, kvGet_cons, ih]
      by_cases h : s = t
      · subst h
        simp [e]
      · simp [h]

theorem kvSet_none {α : Type} {l : List (ByteArray × α)} {s : ByteArray} (v : α) (h : l.findIdx? (fun p => p.1 == s) = none) : kvSet l s v = l ++ [(s, v)] := by
  induction l with
  | nil => rfl
  | cons p l ih =>
    rw [List.findIdx?_cons] at h
    by_cases e : p.1 = s
    · simp [e] at h
    · simp only [beq_eq_false_iff_ne.2 e, Bool.false_eq_true, if_false, Option.map_eq_none_iff] at h
      unfold kvSet
      rw [if_neg e, ih h]; rfl

theorem kvSet_some {α : Type} {l : List (ByteArray × α)} {s : ByteArray} (v : α) {j : Nat} (h : l.findIdx? (fun p => p.1 == s) = some j) : kvSet l s v = l.set j (s, v) := by
  induction l generalizing j with
  | nil => simp at h
  | cons p l ih =>
    rw [List.findIdx?_cons] at h
    by_cases e : p.1 = s
    · simp [e] at h
      subst h
      unfold kvSet
      rw [if_pos e]; rfl
    · simp only [beq_eq_false_iff_ne.2 e, Bool.false_eq_true, if_false, Option.map_eq_some_iff] at h
      obtain ⟨i, hi, rfl⟩ := h
      unfold kvSet
      rw [if_neg e, ih hi]; rfl

theorem stamps_modify {es : Array MapEntry} (j : Nat) (f : MapEntry → MapEntry) (hf : ∀ e, (f e).born = e.born) : (es.modify j f).toList.map (·.born) = es.toList.map (·.born) := by
  apply List.ext_getElem?
  intro i
  simp only [List.getElem?_map, Array.getElem?_toList, Array.getElem?_modify]
  split
  · cases es[i]? <;> simp [hf]
  · rfl

theorem heap_set_grown {o : Obj} : w.grownBy { w with heap := w.heap.setIfInBounds b o } (some b) :=
  ⟨rfl, rfl, rfl, by simp, fun k _ hne => by
    show (w.heap.setIfInBounds b o)[k]? = _
    rw [Array.getElem?_setIfInBounds_ne (by intro e; exact hne (by rw [e]))]⟩

theorem findIdx_some {α : Type} {kvs : List (ByteArray × α)} {s : ByteArray} {j : Nat} (h : kvs.findIdx? (fun p => p.1 == s) = some j) : ∃ v, kvs[j]? = some (s, v) := by
  rw [List.findIdx?_eq_some_iff_getElem] at h
  obtain ⟨hlt, h1, _⟩ := h
  refine ⟨kvs[j].2, ?_⟩
  rw [List.getElem?_eq_getElem hlt]
  simp at h1
  rw [← h1]

theorem nodup_idx {α : Type} {kvs : List (ByteArray × α)} {s : ByteArray} {i j : Nat} {v v' : α} (hn : (kvs.map Prod.fst).Nodup) (hi : kvs[i]? = some (s, v)) (hj : kvs[j]? = some (s, v')) : i = j := by
  have h1 : (kvs.map Prod.fst)[i]? = some s := by simp [hi]
  have h2 : (kvs.map Prod.fst)[j]? = some s := by simp [hj]
  have hl : i < (kvs.map Prod.fst).length := by
    rcases Nat.lt_or_ge i (kvs.map Prod.fst).length with h | h
    · exact h
    · rw [List.getElem?_eq_none h] at h1; cases h1
  exact List.getElem?_inj hl hn |>.1 (by rw [h1, h2])

theorem MapIs.update (h : MapIs w b kvs) {t k e : TypeId} (ht : P.underlying t = some (.map k e)) (hk : P.underlying k = some .string) (s : ByteArray) (v : Value) :
    ∃ w', (Instr.mapUpdate t (.map (some b)) (.string s) v).run P w = .ok () w' ∧ MapIs w' b (kvSet kvs s v) ∧ w.grownBy w' (some b) ∧ w'.heap.size = w.heap.size := by
  obtain ⟨es, clock, hb, hes, hn, hc⟩ := h.ex
  have hlt : b < w.heap.size := (Array.getElem?_eq_some_iff.1 hb).1
  have h1 := findNow_str s es.toList kvs 0 hes
  have hky : MapKept.IsKey .string (.string s) := by simp [MapKept.IsKey]
  cases hf : kvs.findIdx? (fun p => p.1 == s) with
  | none =>
    rw [hf] at h1
    refine ⟨_, by simp [Instr.mapUpdate, run_underlying ht, MapKept.run_getObj_map hb, run_checkKey_str hk, MapKept.run_findKey hk h1, MapKept.run_setObj_map _ hb, Result.andThen]; rfl, ?_, heap_set_grown, by simp⟩
    refine ⟨⟨es.push ⟨.string s, v, clock⟩, clock + 1, by simp [hlt], ?_, ?_, ?_⟩, kvSet_keys h.keys⟩
    · rw [kvSet_none v hf]
      simp only [Array.toList_push, List.map_append, hes]
      simp
    · simp only [Array.toList_push, List.map_append, List.nodup_append]
      refine ⟨hn, by simp, ?_⟩
      intro a ha b hb'
      simp at hb'
      subst hb'
      simp at ha
      obtain ⟨x, hx, rfl⟩ := ha
      have := hc x (by simpa using hx)
      simp; omega
    · intro x hx
      simp at hx
      rcases hx with hx | rfl
      · have := hc x (by simpa using hx); omega
      · simp
  | some j =>
    rw [hf] at h1
    obtain ⟨v0, hj⟩ := findIdx_some hf
    have hej : ∃ ej, es[j]? = some ej ∧ ej.key = .string s := by
      have := congrArg (fun l => l[j]?) hes
      simp only [List.getElem?_map, hj, Option.map_some, Array.getElem?_toList] at this
      cases hh : es[j]? with
      | none => rw [hh] at this; simp at this
      | some ej => rw [hh] at this; simp at this; exact ⟨ej, rfl, this.1⟩
    obtain ⟨ej, hej, hkey⟩ := hej
    refine ⟨_, by simp [Instr.mapUpdate, run_underlying ht, MapKept.run_getObj_map hb, run_checkKey_str hk, MapKept.run_findKey hk h1, hej, hkey, MapKept.run_keyThatStays hky, MapKept.run_setObj_map _ hb, Result.andThen]; rfl, ?_, heap_set_grown, by simp⟩
    refine ⟨⟨_, clock, by simp [hlt]; rfl, ?_, ?_, ?_⟩, kvSet_keys h.keys⟩
    · rw [kvSet_some v hf]
      apply List.ext_getElem?
      intro i
      have hlt' : j < kvs.length := (List.getElem?_eq_some_iff.1 hj).1
      simp only [List.getElem?_map, Array.getElem?_toList, Array.getElem?_modify, List.getElem?_set, hlt', if_true]
      have hi := congrArg (fun l => l[i]?) hes
      simp only [List.getElem?_map, Array.getElem?_toList] at hi
      by_cases hij : j = i
      · subst hij
        simp [hej]
      · rw [if_neg hij, if_neg hij]
        exact hi
    · have := stamps_modify (es := es) j (fun e => { key := Value.string s, val := v, born := e.born }) (fun _ => rfl)
      rw [this]; exact hn
    · intro x hx
      have h2 : x.born ∈ (es.modify j fun e => { key := Value.string s, val := v, born := e.born }).toList.map (·.born) := List.mem_map.2 ⟨x, hx, rfl⟩
      rw [stamps_modify (es := es) j (fun e => { key := Value.string s, val := v, born := e.born }) (fun _ => rfl)] at h2
      obtain ⟨y, hy, e⟩ := List.mem_map.1 h2
      have := hc y hy
      omega

theorem MapIs.made : MapIs (w.alloc (.map #[] 0)) w.heap.size [] :=
  ⟨⟨#[], 0, heap_alloc_new w _, rfl, by simp, by simp⟩, by simp⟩
theorem MapIs.lt (h : MapIs w b kvs) : b < w.heap.size := by
  obtain ⟨es, clock, hb, _⟩ := h.ex
  exact (Array.getElem?_eq_some_iff.1 hb).1
theorem MapIs.same {w' : World} (h : MapIs w b kvs) (hs : w'.heap[b]? = w.heap[b]?) : MapIs w' b kvs := by
  obtain ⟨⟨es, clock, hb, r⟩, k⟩ := h
  exact ⟨⟨es, clock, by rw [hs]; exact hb, r⟩, k⟩
theorem MapIs.below {w' : World} {B : Nat} (h : MapIs w b kvs) (hb : Below B w w') (hB : b < B) : MapIs w' b kvs := h.same (hb.block b hB)
theorem MapIs.alloc (h : MapIs w b kvs) (o : Obj) : MapIs (w.alloc o) b kvs := h.same (Below.heap_alloc w o b h.lt)
theorem MapIs.drewN (h : MapIs w b kvs) (n : Nat) : MapIs (w.drewN n) b kvs := h.same rfl
theorem MapIs.drew (h : MapIs w b kvs) : MapIs w.drew b kvs := h.same rfl
theorem MapIs.grown {w' : World} {row : Option Nat} (h : MapIs w b kvs) (hg : w.grownBy w' row) (hne : some b ≠ row) : MapIs w' b kvs := h.same (hg.block b h.lt hne)
end
theorem below_cell {w w' : World} {a : Addr} {v : Value} (hb : Below w.heap.size w w') (h : w.cell? a = some v) : w'.cell? a = some v :=
  (hb.cell (World.block_lt_of_cell? w a h)).trans h
theorem belowA {w W : World} (h : Below w.heap.size w W) (o : Obj) : Below w.heap.size w (W.alloc o) := h.alloc h.size o
theorem belowS {w W : World} (h : Below w.heap.size w W) (n i : Nat) (hn : w.heap.size ≤ n) (u : Value) : Below w.heap.size w (W.setCell ⟨n, i, none⟩ u) := h.setCell hn u
theorem bcell {W w1 : World} (hb : Below W.heap.size W w1) : (∀ b o, b < W.heap.size → w1.cell? ⟨b, o, none⟩ = W.cell? ⟨b, o, none⟩) ∧ (∀ b o, b < W.heap.size → w1.frozen? ⟨b, o, none⟩ = W.frozen? ⟨b, o, none⟩) :=
  ⟨fun b o h => hb.cell (p := ⟨b, o, none⟩) h, fun b o h => hb.frozen (p := ⟨b, o, none⟩) h⟩
theorem cellA {w : World} {o : Obj} {a : Addr} {v : Value} (h : w.cell? a = some v) : (w.alloc o).cell? a = some v := below_cell (belowA (Below.refl _ _) o) h
theorem below_drewN (w : World) (n : Nat) (B : Nat) : Below B w (w.drewN n) := ⟨rfl, rfl, rfl, Nat.le_refl _, fun _ _ => rfl⟩

/-- what a string, slice or map that came in takes at most (the form's own reach) -/
def reachN : Nat := 140737488351232
theorem reachN_le {n : Nat} (h : n ≤ reachN) : n ≤ 140737488351232 := h

/-! ### how a Go value lies in cells -/
/-- rows that hold cells stay as they are, below B -/
def Kept (w w' : World) (B : Nat) : Prop := ∀ b, b < B → ∀ cs t fr, w.heap[b]? = some (.cells cs t fr) → cs ≠ #[] → w'.heap[b]? = some (.cells cs t fr)
theorem Kept.of {w w' : World} {B : Nat} (hk : ∀ b, b < B → w'.heap[b]? = w.heap[b]?) : Kept w w' B := fun b hb _ _ _ h _ => (hk b hb).trans h
theorem Kept.cell {w w' : World} {B b i : Nat} {v : Value} (hk : Kept w w' B) (hb : b < B) (h : w.cell? ⟨b, i, none⟩ = some v) : w'.cell? ⟨b, i, none⟩ = some v := by
  cases ho : w.heap[b]? with
  | none => simp [World.cell?, ho] at h
  | some o =>
    cases o with
    | cells cs t fr =>
      have h1 : cs[i]? = some v := by simpa [World.cell?, ho] using h
      have h2 := hk b hb cs t fr ho (by rintro rfl; simp at h1)
      simpa [World.cell?, h2] using h1
    | _ => simp [World.cell?, ho] at h
structure Enc (α : Type) where
  sz : Nat
  ok : World → Nat → List Value → α → Prop
  mono : ∀ {w w' : World} {B B' : Nat} {cs : List Value} {x : α}, B ≤ B' → Kept w w' B → ok w B cs x → ok w' B' cs x
  len : ∀ {w : World} {B : Nat} {cs : List Value} {x : α}, ok w B cs x → cs.length = sz

/-- the slice value '.slice A n c' holds the list l; all its blocks lie below B -/
def SliceIs {α : Type} (E : Enc α) (w : World) (B : Nat) (A : Option Addr) (n c : Nat) (l : List α) : Prop :=
  l.length = n ∧ n ≤ c ∧ c ≤ maxLen ∧ n ≤ reachN ∧ (l = [] ∨ ∃ b o, A = some ⟨b, o, none⟩ ∧ b < B ∧
    ∀ i x, l[i]? = some x → ∃ cs, E.ok w B cs x ∧ ∀ j v, cs[j]? = some v → w.cell? ⟨b, o + i * E.sz + j, none⟩ = some v)

theorem SliceIs.mono' {α : Type} {E : Enc α} {w w' : World} {B B' : Nat} {A : Option Addr} {n c : Nat} {l : List α} (h : SliceIs E w B A n c l) (hB : B ≤ B') (hk : Kept w w' B) :
    SliceIs E w' B' A n c l := by
  obtain ⟨h1, h2, h3, hr, h4⟩ := h
  refine ⟨h1, h2, h3, hr, ?_⟩
  rcases h4 with h4 | ⟨b, o, hA, hb, hc⟩
  · exact .inl h4
  · refine .inr ⟨b, o, hA, by omega, fun i x hx => ?_⟩
    obtain ⟨cs, hok, hcs⟩ := hc i x hx
    exact ⟨cs, E.mono hB hk hok, fun j v hv => hk.cell hb (hcs j v hv)⟩
theorem SliceIs.mono {α : Type} {E : Enc α} {w w' : World} {B B' : Nat} {A : Option Addr} {n c : Nat} {l : List α} (h : SliceIs E w B A n c l) (hB : B ≤ B') (hk : ∀ b, b < B → w'.heap[b]? = w.heap[b]?) :
    SliceIs E w' B' A n c l := h.mono' hB (Kept.of hk)
theorem SliceIs.below {α : Type} {E : Enc α} {w w' : World} {B : Nat} {A : Option Addr} {n c : Nat} {l : List α} (h : SliceIs E w B A n c l) (hb : Below B w w') : SliceIs E w' B A n c l :=
  h.mono (Nat.le_refl _) hb.block
theorem SliceIs.via {α : Type} {E : Enc α} {w wo w' : World} {B : Nat} {A : Option Addr} {n c : Nat} {l : List α} (h : SliceIs E wo B A n c l) (h1 : Below B w wo) (h2 : Below B w w') : SliceIs E w' B A n c l :=
  h.mono (Nat.le_refl _) fun b hb => (h2.block b hb).trans (h1.block b hb).symm
theorem SliceIs.bound {α : Type} {E : Enc α} {w : World} {B : Nat} {A : Option Addr} {n c : Nat} {l : List α} (h : SliceIs E w B A n c l) : n ≤ 140737488351232 := h.2.2.2.1
theorem SliceIs.len_eq {α : Type} {E : Enc α} {w : World} {B : Nat} {A : Option Addr} {n c : Nat} {l : List α} (h : SliceIs E w B A n c l) : l.length = n := h.1

def Enc.slice {α : Type} (E : Enc α) : Enc (List α) where
  sz := 1
  ok w B cs l := ∃ A n c, cs = [.slice A n c] ∧ SliceIs E w B A n c l
  mono hB hk := fun ⟨A, n, c, e, h⟩ => ⟨A, n, c, e, h.mono' hB hk⟩
  len := fun ⟨_, _, _, e, _⟩ => by rw [e]; rfl

def fits (n : Int) : Prop := (Lit.int .i64 n).wf = true

def Enc.int : Enc Int where
  sz := 1
  ok _ _ cs n := cs = [.int .i64 n] ∧ fits n
  mono _ _ h := h
  len h := by rw [h.1]; rfl
def Enc.str : Enc ByteArray where
  sz := 1
  ok _ _ cs s := cs = [.string s] ∧ s.size ≤ reachN
  mono _ _ h := h
  len h := by rw [h.1]; rfl

/-- a value of the program (api.Value) -/
structure GV where
  k : Int
  n : Int
  s : ByteArray
def GV.beq (x y : GV) : Bool := x.k == y.k && (x.n == y.n && x.s.toList == y.s.toList)
abbrev GV.v (x : GV) : Value := .agg #[.int .i64 x.k, .int .i64 x.n, .string x.s]
def GV.ok (x : GV) : Prop := fits x.k ∧ fits x.n ∧ x.s.size ≤ reachN

def Enc.val : Enc GV where
  sz := 3
  ok _ _ cs x := cs = [.int .i64 x.k, .int .i64 x.n, .string x.s] ∧ x.ok
  mono _ _ h := h
  len h := by rw [h.1]; rfl

/-- a variable and its value (corollaryref13.Told) -/
structure GTold where
  x : ByteArray
  v : GV
def Enc.told : Enc GTold where
  sz := 4
  ok _ _ cs t := cs = [.string t.x, .int .i64 t.v.k, .int .i64 t.v.n, .string t.v.s] ∧ t.x.size ≤ reachN ∧ t.v.ok
  mono _ _ h := h
  len h := by rw [h.1]; rfl

theorem SliceIs.at_ {α : Type} {E : Enc α} {w : World} {B : Nat} {A : Option Addr} {n c : Nat} {l : List α} (h : SliceIs E w B A n c l) {i : Nat} (hi : i < n) :
    ∃ b o x cs, A = some ⟨b, o, none⟩ ∧ b < B ∧ Hid (l[i]? = some x) ∧ E.ok w B cs x ∧ ∀ j v, cs[j]? = some v → w.cell? ⟨b, o + i * E.sz + j, none⟩ = some v := by
  obtain ⟨h1, h2, h3, hr, h4⟩ := h
  rcases h4 with h4 | ⟨b, o, hA, hb, hc⟩
  · subst h4; simp at h1; omega
  · have hx := List.getElem?_eq_getElem (l := l) (i := i) (by omega)
    obtain ⟨cs, hok, hcs⟩ := hc i _ hx
    exact ⟨b, o, _, cs, hA, hb, hx, hok, hcs⟩

section
variable {w : World} {B : Nat} {A : Option Addr} {n c : Nat}
theorem SliceIs.int_at {l : List Int} (h : SliceIs Enc.int w B A n c l) {i : Nat} (hi : i < n) :
    ∃ b o x, A = some ⟨b, o, none⟩ ∧ b < B ∧ Hid (l[i]? = some x) ∧ w.cell? ⟨b, o + i, none⟩ = some (.int .i64 x) ∧ fits x := by
  obtain ⟨b, o, x, cs, hA, hb, hx, ⟨rfl, hf⟩, hc⟩ := h.at_ hi
  exact ⟨b, o, x, hA, hb, hx, by simpa [Enc.int] using hc 0 _ rfl, hf⟩
theorem SliceIs.str_at {l : List ByteArray} (h : SliceIs Enc.str w B A n c l) {i : Nat} (hi : i < n) :
    ∃ b o x, A = some ⟨b, o, none⟩ ∧ b < B ∧ Hid (l[i]? = some x) ∧ w.cell? ⟨b, o + i, none⟩ = some (.string x) ∧ x.size ≤ 140737488351232 := by
  obtain ⟨b, o, x, cs, hA, hb, hx, ⟨rfl, hf⟩, hc⟩ := h.at_ hi
  exact ⟨b, o, x, hA, hb, hx, by simpa [Enc.str] using hc 0 _ rfl, hf⟩
theorem SliceIs.val_at {l : List GV} (h : SliceIs Enc.val w B A n c l) {i : Nat} (hi : i < n) :
    ∃ b o x, A = some ⟨b, o, none⟩ ∧ b < B ∧ Hid (l[i]? = some x) ∧ w.cell? ⟨b, o + i * 3, none⟩ = some (.int .i64 x.k) ∧ w.cell? ⟨b, o + i * 3 + 1, none⟩ = some (.int .i64 x.n) ∧
      w.cell? ⟨b, o + i * 3 + 2, none⟩ = some (.string x.s) ∧ x.ok := by
  obtain ⟨b, o, x, cs, hA, hb, hx, ⟨rfl, hf⟩, hc⟩ := h.at_ hi
  exact ⟨b, o, x, hA, hb, hx, by simpa [Enc.val] using hc 0 _ rfl, by simpa [Enc.val] using hc 1 _ rfl, by simpa [Enc.val] using hc 2 _ rfl, hf⟩
theorem SliceIs.slice_at {α : Type} {E : Enc α} {l : List (List α)} (h : SliceIs (Enc.slice E) w B A n c l) {i : Nat} (hi : i < n) :
    ∃ b o x A' n' c', A = some ⟨b, o, none⟩ ∧ b < B ∧ Hid (l[i]? = some x) ∧ w.cell? ⟨b, o + i, none⟩ = some (.slice A' n' c') ∧ SliceIs E w B A' n' c' x := by
  obtain ⟨b, o, x, cs, hA, hb, hx, ⟨A', n', c', rfl, hf⟩, hc⟩ := h.at_ hi
  exact ⟨b, o, x, A', n', c', hA, hb, hx, by simpa [Enc.slice] using hc 0 _ rfl, hf⟩
theorem SliceIs.told_at {l : List GTold} (h : SliceIs Enc.told w B A n c l) {i : Nat} (hi : i < n) :
    ∃ b o x, A = some ⟨b, o, none⟩ ∧ b < B ∧ Hid (l[i]? = some x) ∧ w.cell? ⟨b, o + i * 4, none⟩ = some (.string x.x) ∧ w.cell? ⟨b, o + i * 4 + 1, none⟩ = some (.int .i64 x.v.k) ∧
      w.cell? ⟨b, o + i * 4 + 2, none⟩ = some (.int .i64 x.v.n) ∧ w.cell? ⟨b, o + i * 4 + 3, none⟩ = some (.string x.v.s) ∧ x.x.size ≤ 140737488351232 ∧ x.v.ok := by
  obtain ⟨b, o, x, cs, hA, hb, hx, ⟨rfl, hf⟩, hc⟩ := h.at_ hi
  exact ⟨b, o, x, hA, hb, hx, by simpa [Enc.told] using hc 0 _ rfl, by simpa [Enc.told] using hc 1 _ rfl, by simpa [Enc.told] using hc 2 _ rfl, by simpa [Enc.told] using hc 3 _ rfl, hf⟩
end

theorem SliceIs.nil {α : Type} {E : Enc α} {w : World} {B : Nat} : SliceIs E w B none 0 0 [] := ⟨rfl, Nat.le_refl _, by simp [maxLen], by simp [reachN], .inl rfl⟩

/-- a row of the call's own, read as a list -/
theorem SliceIs.of_own {α : Type} {E : Enc α} {w : World} {base e : Nat} {A : Option Addr} {n c : Nat} {l : List α} {xs : List Value}
    (h : w.ownsRow base e E.sz (.slice A n c) n xs) (hl : l.length = n) (hr : n ≤ reachN) (hx : ∀ i x, l[i]? = some x → E.ok w w.heap.size ((xs.drop (i * E.sz)).take E.sz) x) : SliceIs E w w.heap.size A n c l := by
  obtain ⟨h1, h2⟩ := h
  rcases h2 with ⟨hv, hn⟩ | ⟨g, cap, cur, hv, hg, hh, hnc, hcm, hsz, htk⟩
  · simp only [Value.slice.injEq] at hv
    obtain ⟨rfl, _, rfl⟩ := hv
    subst hn
    exact ⟨hl, Nat.le_refl _, by simp [maxLen], hr, .inl (List.eq_nil_of_length_eq_zero hl)⟩
  · simp only [Value.slice.injEq] at hv
    obtain ⟨rfl, _, rfl⟩ := hv
    refine ⟨hl, hnc, hcm, hr, .inr ⟨g, 0, rfl, (Array.getElem?_eq_some_iff.1 hh).1, fun i x hix => ⟨_, hx i x hix, fun j v hv => ?_⟩⟩⟩
    rw [cell_of_row w g _ cur e (0, 0) hh]
    rw [List.getElem?_take] at hv
    split at hv
    · rw [List.getElem?_drop, ← htk, List.getElem?_take] at hv
      split at hv
      · simpa [Array.getElem?_toList] using hv
      · cases hv
    · cases hv

theorem flat_piece {α : Type} (f : α → List Value) {sz : Nat} (hf : ∀ x, (f x).length = sz) : ∀ (l : List α) (i : Nat) (x : α), l[i]? = some x → ((l.flatMap f).drop (i * sz)).take sz = f x
  | [], _, _, h => by simp at h
  | y :: l, 0, x, h => by
    simp at h
    subst h
    simp [List.flatMap_cons, ← hf y]
  | y :: l, i + 1, x, h => by
    have ih := flat_piece f hf l i x (by simpa using h)
    rw [List.flatMap_cons, List.drop_append, hf y]
    have h1 : (f y).drop ((i + 1) * sz) = [] := List.drop_of_length_le (by rw [hf y, Nat.add_mul]; omega)
    rw [h1, List.nil_append]
    have h2 : (i + 1) * sz - sz = i * sz := by rw [Nat.add_mul]; omega
    rw [h2]; exact ih

theorem flat_len {α : Type} (f : α → List Value) {sz : Nat} (hf : ∀ x, (f x).length = sz) (l : List α) : (l.flatMap f).length = l.length * sz := by
  induction l with
  | nil => simp
  | cons x l ih => rw [List.flatMap_cons, List.length_append, hf, ih, List.length_cons, Nat.add_mul]; omega

theorem SliceIs.of_flat {α : Type} {E : Enc α} {w : World} {base e : Nat} {A : Option Addr} {n c : Nat} {l : List α} (f : α → List Value) (hf : ∀ x, (f x).length = E.sz)
    (h : w.ownsRow base e E.sz (.slice A n c) n (l.flatMap f)) (hl : l.length = n) (hr : n ≤ reachN) (hok : ∀ x ∈ l, E.ok w w.heap.size (f x) x) : SliceIs E w w.heap.size A n c l :=
  SliceIs.of_own h hl hr fun i x hx => by rw [flat_piece f hf l i x hx]; exact hok x (List.mem_of_getElem? hx)

theorem own_below {w w' : World} {base e sz : Nat} {v : Value} {n : Nat} {xs : List Value} (h : w.ownsRow base e sz v n xs) (hb : Below w.heap.size w w') : w'.ownsRow base e sz v n xs := by
  refine ⟨h.1, ?_⟩
  rcases h.2 with hn | ⟨g, cap, cur, rfl, hg, hh, r⟩
  · exact .inl hn
  · exact .inr ⟨g, cap, cur, rfl, hg, (hb.block g (Array.getElem?_eq_some_iff.1 hh).1).trans hh, r⟩
/-- an own row is a slice value -/
theorem own_form {w : World} {base e sz : Nat} {v : Value} {n : Nat} {xs : List Value} (h : w.ownsRow base e sz v n xs) : ∃ A c, v = .slice A n c := by
  rcases h.2 with ⟨rfl, rfl⟩ | ⟨g, cap, cur, rfl, _⟩
  · exact ⟨_, _, rfl⟩
  · exact ⟨_, _, rfl⟩

theorem own_block {w : World} {base e sz : Nat} {v : Value} {n : Nat} {xs : List Value} (h : w.ownsRow base e sz v n xs) : ∀ k, v.ownBlock = some k → base ≤ k := by
  rcases h.2 with ⟨rfl, rfl⟩ | ⟨g, cap, cur, rfl, hg, _⟩
  · intro k hk; cases hk
  · intro k hk; simp [Value.ownBlock] at hk; omega

/-- append of one element, which the statement has just laid into a row of its own, onto a row of the call's own -/
theorem run_push {P : Program} (w0 : World) (g0 : Nat) (hg0 : w0.heap.size = g0) {base t ty e size bytes : Nat} {z : Value} (ht : P.underlying t = some (.slice e)) (hi : (P.info? e).map (fun i => (i.zero, i.size, i.bytes)) = some (some z, size, bytes))
    (hzs : z.cells.size = size) (hsz : 0 < size) {v : Value} {n : Nat} {xs : List Value} (hown : w0.ownsRow base e size v n xs) (cs : List Value) (hl : cs.length = size) (h1 : ∀ u ∈ cs, u.oneCell' = true)
    (h63 : n + 1 ≤ maxLen) (hbytes : (n + 1) * bytes ≤ 140737488355328) (hbase : base ≤ w0.heap.size) :
    ∃ v' w', (Builtin.append_ #[t, t] ty #[v, .slice (some ⟨g0, 0, none⟩) 1 1]).run P (w0.alloc (.cells cs.toArray e)) = .ok v' w' ∧ w'.ownsRow base e size v' (n + 1) (xs ++ cs) ∧ Below base w0 w' := by
  obtain ⟨i, hi', hz, hs, hb⟩ := info_parts hi
  subst hg0
  have hnews : ∀ j u, cs[j]? = some u → (w0.alloc (.cells cs.toArray e)).cell? ((⟨w0.heap.size, 0, none⟩ : Addr).add j) = some u := by
    intro j u hu
    have hadd : (⟨w0.heap.size, 0, none⟩ : Addr).add j = ⟨w0.heap.size, j, none⟩ := by unfold Addr.add; split <;> simp_all
    rw [hadd, cell_of_row _ w0.heap.size j cs.toArray e (0, 0) (heap_alloc_new w0 _)]
    simpa using hu
  obtain ⟨v', w', hrun, ho, hg, _⟩ := run_append_own (P := P) (w0.alloc (.cells cs.toArray e)) base t ty e i z size bytes ht hi' hz hs hb hzs hsz v n xs (hown.alloc _) ⟨w0.heap.size, 0, none⟩ 1 1 cs (by rw [hl]; omega) hnews h1 h63 hbytes (by simp; omega)
  exact ⟨v', w', hrun, ho, ((Below.refl base w0).alloc hbase _).grown hg (by simp; omega) (own_block hown)⟩

theorem wpList_append_run {P : Program} {w w' : World} {ops : Array Oper} {rest : List Oper} {o : Oper} {a : Act} {Q : Exit → Act → World → Prop} {v' : Value} (hg : o.guard = none) (s x : Operand) (t : TypeId)
    (ho : o.op = .call { callee := .builtin .append, args := #[s, x], argTypes := #[t, t] }) (v xv : Value) (hs : a.eval s = v) (hx : a.eval x = xv)
    (hrun : (Builtin.append_ #[t, t] o.type #[v, xv]).run P w = .ok v' w') (h : wpList P ops Q rest (a.put o.dst v') w') : wpList P ops Q (o :: rest) a w :=
  wpList_plain hg fun K hK => by
    unfold Oper.wp execOp
    simp only [ho, resolve, invoke, builtin, Sem.run_bind, Sem.run_pure, Result.andThen_ok, List.map_toArray, List.map_cons, List.map_nil, hs, hx, hrun]
    exact hK _ _ h

theorem run_mk {P : Program} (w0 : World) {base t e size bytes : Nat} {z : Value} (ht : P.underlying t = some (.slice e)) (hi : (P.info? e).map (fun i => (i.zero, i.size, i.bytes)) = some (some z, size, bytes)) (n : Nat)
    (hbytes : bytes * n ≤ 281474976710656) (h63 : n ≤ maxLen) (hbase : base ≤ w0.heap.size) :
    ∃ w', (Instr.makeSlice t (.int .i64 0) (.int .i64 (n : Int))).run P w0 = .ok (.slice (some ⟨w0.heap.size, 0, none⟩) 0 n) w' ∧ w'.ownsRow base e size (.slice (some ⟨w0.heap.size, 0, none⟩) 0 n) 0 [] ∧ Below base w0 w' := by
  obtain ⟨i, hi', hz, hs, hb⟩ := info_parts hi
  obtain ⟨w', hrun, ho, hg⟩ := run_make_own (P := P) w0 base t e i z size ht hi' hz hs .i64 .i64 n (by rw [hb]; exact hbytes) h63 hbase
  exact ⟨w', hrun, ho, (Below.refl base w0).grown hg hbase (by intro k hk; cases hk)⟩

/-- an error by its number: 0 is none -/
def errV (T : TypeId) (n : Int) : Value := if n = 0 then .nilIface else .iface T (.int .i64 n)

theorem GV.ok_zero : GV.ok ⟨0, 0, ⟨#[]⟩⟩ := ⟨by unfold fits; decide, by unfold fits; decide, Nat.zero_le _⟩
def GV.cells (x : GV) : List Value := [.int .i64 x.k, .int .i64 x.n, .string x.s]
def GTold.cells (t : GTold) : List Value := [.string t.x, .int .i64 t.v.k, .int .i64 t.v.n, .string t.v.s]
theorem beq_str (a b : ByteArray) : (a.toList == b.toList) = decide (a = b) := by
  rw [Bool.eq_iff_iff]; simp [toList_inj]

/-- append of a slice that is only read (nil, empty or not) onto a row of the call's own -/
theorem run_append_slice {P : Program} {α : Type} {E : Enc α} (f : α → List Value) (hf : ∀ x, (f x).length = E.sz) (hE : ∀ {w B cs x}, E.ok w B cs x → cs = f x) (h1 : ∀ x, ∀ u ∈ f x, u.oneCell' = true)
    (w : World) {base t ty e bytes : Nat} {z : Value} (ht : P.underlying t = some (.slice e)) (hi : (P.info? e).map (fun i => (i.zero, i.size, i.bytes)) = some (some z, E.sz, bytes))
    (hzs : z.cells.size = E.sz) (hsz : 0 < E.sz) {v : Value} {n : Nat} {xs : List Value} (hown : w.ownsRow base e E.sz v n xs)
    {B : Nat} {A : Option Addr} {m c : Nat} {l : List α} (hl : SliceIs E w B A m c l)
    (h63 : n + m ≤ maxLen) (hbytes : (n + m) * bytes ≤ 140737488355328) (hbase : base ≤ w.heap.size) :
    ∃ v' w', (Builtin.append_ #[t, t] ty #[v, .slice A m c]).run P w = .ok v' w' ∧ w'.ownsRow base e E.sz v' (n + m) (xs ++ l.flatMap f) ∧ w.grownBy w' v.ownBlock ∧ Below base w w' := by
  obtain ⟨i, hi', hz, hs, hb⟩ := info_parts hi
  have hnil : m = 0 → l = [] := fun h => List.eq_nil_of_length_eq_zero (by rw [hl.1, h])
  rcases hl.2.2.2.2 with hl0 | ⟨b, o, hA, _, hc⟩
  · have hm : m = 0 := by rw [← hl.1, hl0]; rfl
    subst hm
    subst hl0
    rcases A with _ | ad
    · refine ⟨v, w, ?_, by simpa using hown, World.grownBy.refl w _, Below.refl _ _⟩
      rcases hown.2 with ⟨rfl, rfl⟩ | ⟨g, cap, cur, rfl, _, _, hnc, _⟩
      · simp [Builtin.append_, run_underlying ht, sizeOf, typeInfo, hi', Builtin.lenOf, Builtin.firstCells]
      · simp [Builtin.append_, run_underlying ht, sizeOf, typeInfo, hi', Builtin.lenOf, Builtin.firstCells, hnc, storeCells]
    · obtain ⟨v', w', hrun, ho, hg, _⟩ := run_append_own (P := P) w base t ty e i z E.sz bytes ht hi' hz hs hb hzs hsz v n xs hown ad 0 c [] (by simp) (by simp) (by simp) h63 hbytes hbase
      exact ⟨v', w', hrun, by simpa using ho, hg, (Below.refl base w).grown hg hbase (own_block hown)⟩
  · subst hA
    obtain ⟨v', w', hrun, ho, hg, _⟩ := run_append_own (P := P) w base t ty e i z E.sz bytes ht hi' hz hs hb hzs hsz v n xs hown ⟨b, o, none⟩ m c (l.flatMap f) (by rw [flat_len f hf, hl.1])
      (by
        intro j u hu
        have hadd : (⟨b, o, none⟩ : Addr).add j = ⟨b, o + j, none⟩ := by unfold Addr.add; split <;> simp_all
        rw [hadd]
        have hjl : j < (l.flatMap f).length := by
          rcases Nat.lt_or_ge j (l.flatMap f).length with h | h
          · exact h
          · rw [List.getElem?_eq_none h] at hu; cases hu
        rw [flat_len f hf] at hjl
        have hq : j / E.sz < l.length := Nat.div_lt_of_lt_mul (by rw [Nat.mul_comm]; exact hjl)
        obtain ⟨cs, hok, hcs⟩ := hc (j / E.sz) _ (List.getElem?_eq_getElem hq)
        have he := hE hok
        subst he
        have hp := flat_piece f hf l (j / E.sz) _ (List.getElem?_eq_getElem hq)
        have h3 : (f l[j / E.sz])[j % E.sz]? = some u := by
          rw [← hp, List.getElem?_take, if_pos (Nat.mod_lt _ hsz), List.getElem?_drop]
          rw [show j / E.sz * E.sz + j % E.sz = j from by rw [Nat.mul_comm]; exact Nat.div_add_mod _ _]
          exact hu
        have h4 := hcs _ _ h3
        rw [show o + j / E.sz * E.sz + j % E.sz = o + j from by rw [Nat.add_assoc, Nat.mul_comm, Nat.div_add_mod]] at h4
        exact h4)
      (by intro u hu; obtain ⟨x, _, hx⟩ := List.mem_flatMap.1 hu; exact h1 x u hx) h63 hbytes hbase
    exact ⟨v', w', hrun, ho, hg, (Below.refl base w).grown hg hbase (own_block hown)⟩

theorem heapNew {w : World} {o : Obj} {g : Nat} (h : w.heap.size = g) : (w.alloc o).heap[g]? = some o := by subst h; exact heap_alloc_new w o
theorem heapOld {w : World} {o x : Obj} {g : Nat} (h : w.heap[g]? = some x) : (w.alloc o).heap[g]? = some x := (Below.heap_alloc w o g (Array.getElem?_eq_some_iff.1 h).1).trans h
/-- a block that is known whole, read as a list -/
theorem SliceIs.of_block {α : Type} {E : Enc α} {w : World} {g e : Nat} {cs : List Value} {l : List α} (f : α → List Value) (hf : ∀ x, (f x).length = E.sz) (h : w.heap[g]? = some (.cells cs.toArray e (0, 0))) (hc : cs = l.flatMap f) (hr : l.length ≤ reachN)
    (hok : ∀ x ∈ l, E.ok w w.heap.size (f x) x) : SliceIs E w w.heap.size (some ⟨g, 0, none⟩) l.length l.length l := by
  subst hc
  have hz := flat_len f hf l
  refine SliceIs.of_flat f hf (base := 0) (e := e) ⟨hz, .inr ⟨g, l.length, (l.flatMap f).toArray, rfl, Nat.zero_le _, h, Nat.le_refl _, by simp only [reachN] at hr; simp only [maxLen]; omega, by rw [List.size_toArray, hz], ?_⟩⟩ rfl hr hok
  rw [← hz]; exact List.take_length
theorem own_empty {w : World} {base e sz g : Nat} (hb : base ≤ g) (h : w.heap[g]? = some (.cells #[] e (0, 0))) : w.ownsRow base e sz (.slice (some ⟨g, 0, none⟩) 0 0) 0 [] :=
  ⟨by simp, .inr ⟨g, 0, #[], rfl, hb, h, Nat.le_refl _, Nat.zero_le _, by simp, by simp⟩⟩

/-- append of one element that lies in block g onto a row of the call's own -/
theorem run_push_at {P : Program} (w : World) {base t ty e size bytes : Nat} {z : Value} (ht : P.underlying t = some (.slice e)) (hi : (P.info? e).map (fun i => (i.zero, i.size, i.bytes)) = some (some z, size, bytes))
    (hzs : z.cells.size = size) (hsz : 0 < size) {v : Value} {n : Nat} {xs : List Value} (hown : w.ownsRow base e size v n xs) (g : Nat) (cs : List Value) (hl : cs.length = size) (hg : w.heap[g]? = some (.cells cs.toArray e (0, 0))) (h1 : ∀ u ∈ cs, u.oneCell' = true)
    (h63 : n + 1 ≤ maxLen) (hbytes : (n + 1) * bytes ≤ 140737488355328) (hbase : base ≤ w.heap.size) :
    ∃ v' w', (Builtin.append_ #[t, t] ty #[v, .slice (some ⟨g, 0, none⟩) 1 1]).run P w = .ok v' w' ∧ w'.ownsRow base e size v' (n + 1) (xs ++ cs) ∧ w.grownBy w' v.ownBlock ∧ Below base w w' := by
  obtain ⟨i, hi', hz, hs, hb⟩ := info_parts hi
  have hnews : ∀ j u, cs[j]? = some u → w.cell? ((⟨g, 0, none⟩ : Addr).add j) = some u := by
    intro j u hu
    have hadd : (⟨g, 0, none⟩ : Addr).add j = ⟨g, j, none⟩ := by unfold Addr.add; split <;> simp_all
    rw [hadd, cell_of_row _ g j cs.toArray e (0, 0) hg]
    simpa using hu
  obtain ⟨v', w', hrun, ho, hgr, _⟩ := run_append_own (P := P) w base t ty e i z size bytes ht hi' hz hs hb hzs hsz v n xs hown ⟨g, 0, none⟩ 1 1 cs (by rw [hl]; omega) hnews h1 h63 hbytes hbase
  exact ⟨v', w', hrun, ho, hgr, (Below.refl base w).grown hgr hbase (own_block hown)⟩

theorem step_append_ex {P : Program} {w : World} {ops : Array Oper} {o : Oper} {a : Act} {K : Act → World → Prop} {Q : Exit → Act → World → Prop} {E : Prop} (hgd : o.guard = none) (s x : Operand) (t : TypeId)
    (ho : o.op = .call { callee := .builtin .append, args := #[s, x], argTypes := #[t, t] }) (v xv : Value) (hs : a.eval s = v) (hx : a.eval x = xv) (R : Value → World → Prop)
    (hrun : ∃ v' w', (Builtin.append_ #[t, t] o.type #[v, xv]).run P w = .ok v' w' ∧ R v' w') (h : ∀ v' w', R v' w' → K (a.put o.dst v') w') :
    if Region.wanted o (yielded ops a.tmps) = true then Oper.wp P o a w K Q else E := by
  rw [if_pos (by simp [Region.wanted, hgd])]
  obtain ⟨v', w', hr, hR⟩ := hrun
  unfold Oper.wp execOp
  simp only [ho, resolve, invoke, builtin, Sem.run_bind, Sem.run_pure, Result.andThen_ok, List.map_toArray, List.map_cons, List.map_nil, hs, hx, hr]
  exact h _ _ hR


/-! ### ranging over a map -/
theorem nodup_len {α : Type} : ∀ (l m : List α), l.Nodup → (∀ x ∈ l, x ∈ m) → l.length ≤ m.length
  | [], _, _, _ => Nat.zero_le _
  | x :: l, m, hn, hs => by
    obtain ⟨s, t, rfl⟩ := List.append_of_mem (hs x (by simp))
    rw [List.nodup_cons] at hn
    have := nodup_len l (s ++ t) hn.2 (fun y hy => by
      have := hs y (by simp [hy])
      simp only [List.mem_append, List.mem_cons] at this ⊢
      rcases this with h | h | h
      · exact .inl h
      · subst h; exact absurd hy hn.1
      · exact .inr h)
    simp only [List.length_append, List.length_cons] at this ⊢
    omega

/-- a walk over the map in block g by the iterator in block it; done: what has been met -/
structure IterIs (w : World) (it g : Nat) (kvs done : List (ByteArray × Value)) : Prop where
  ex : ∃ (es : Array MapEntry) (clock : Nat) (seen : Array Nat) (last : Nat) (ds : List MapEntry), w.heap[g]? = some (.map es clock) ∧ es.toList.map (fun e => (e.key, e.val)) = kvs.map (fun p => (Value.string p.1, p.2)) ∧
    (es.toList.map (·.born)).Nodup ∧ (∀ e ∈ es.toList, e.born < clock) ∧ w.heap[it]? = some (.mapIter (some g) clock seen last) ∧ (done ≠ [] → last = clock) ∧
    (∀ e ∈ ds, e ∈ es.toList) ∧ seen.toList = ds.map (·.born) ∧ ds.map (fun e => (e.key, e.val)) = done.map (fun p => (Value.string p.1, p.2))
  keys : (kvs.map Prod.fst).Nodup
  sub : ∀ p ∈ done, p ∈ kvs
  once : done.Nodup

section
variable {P : Program} {w : World} {it g : Nat} {kvs done : List (ByteArray × Value)}

theorem entry_of_mem {es : List MapEntry} {kvs : List (ByteArray × Value)} (h : es.map (fun e => (e.key, e.val)) = kvs.map (fun p => (Value.string p.1, p.2))) {e : MapEntry} (he : e ∈ es) :
    ∃ p ∈ kvs, e.key = .string p.1 ∧ e.val = p.2 := by
  have h1 : (e.key, e.val) ∈ es.map (fun e => (e.key, e.val)) := List.mem_map.2 ⟨e, he, rfl⟩
  rw [h] at h1
  obtain ⟨p, hp, hpe⟩ := List.mem_map.1 h1
  simp only [Prod.mk.injEq] at hpe
  exact ⟨p, hp, hpe.1.symm, hpe.2.symm⟩
theorem mem_of_entry {es : List MapEntry} {kvs : List (ByteArray × Value)} (h : es.map (fun e => (e.key, e.val)) = kvs.map (fun p => (Value.string p.1, p.2))) {p : ByteArray × Value} (hp : p ∈ kvs) :
    ∃ e ∈ es, e.key = .string p.1 ∧ e.val = p.2 := by
  have h1 : (Value.string p.1, p.2) ∈ kvs.map (fun p => (Value.string p.1, p.2)) := List.mem_map.2 ⟨p, hp, rfl⟩
  rw [← h] at h1
  obtain ⟨e, he, hpe⟩ := List.mem_map.1 h1
  simp only [Prod.mk.injEq] at hpe
  exact ⟨e, he, hpe.1, hpe.2⟩
theorem born_inj {es : List MapEntry} (hn : (es.map (·.born)).Nodup) {e e' : MapEntry} (he : e ∈ es) (he' : e' ∈ es) (hb : e.born = e'.born) : e = e' := by
  induction es with
  | nil => cases he
  | cons x es ih =>
    simp only [List.map_cons, List.nodup_cons] at hn
    rcases List.mem_cons.1 he with h1 | h1 <;> rcases List.mem_cons.1 he' with h2 | h2
    · rw [h1, h2]
    · exact absurd (List.mem_map.2 ⟨e', h2, by rw [← hb, h1]⟩) hn.1
    · exact absurd (List.mem_map.2 ⟨e, h1, by rw [hb, h2]⟩) hn.1
    · exact ih hn.2 h1 h2
theorem key_inj {kvs : List (ByteArray × Value)} (hn : (kvs.map Prod.fst).Nodup) {p q : ByteArray × Value} (hp : p ∈ kvs) (hq : q ∈ kvs) (h : p.1 = q.1) : p = q := by
  induction kvs with
  | nil => cases hp
  | cons x l ih =>
    simp only [List.map_cons, List.nodup_cons] at hn
    rcases List.mem_cons.1 hp with h1 | h1 <;> rcases List.mem_cons.1 hq with h2 | h2
    · rw [h1, h2]
    · exact absurd (List.mem_map.2 ⟨q, h2, by rw [← h, h1]⟩) hn.1
    · exact absurd (List.mem_map.2 ⟨p, h1, by rw [h, h2]⟩) hn.1
    · exact ih hn.2 h1 h2

theorem MapIs.range (h : MapIs w g kvs) {t k e : TypeId} (ht : P.underlying t = some (.map k e)) :
    ∃ clock, (Instr.range t (.map (some g))).run P w = .ok (.pointer (some ⟨w.heap.size, 0, none⟩)) (w.alloc (.mapIter (some g) clock #[] clock)) ∧ IterIs (w.alloc (.mapIter (some g) clock #[] clock)) w.heap.size g kvs [] := by
  obtain ⟨es, clock, hb, hes, hn, hc⟩ := h.ex
  refine ⟨clock, ?_, ⟨⟨es, clock, #[], clock, [], heapOld hb, hes, hn, hc, heapNew rfl, fun _ => rfl, by simp, by simp, by simp⟩, h.keys, by simp, by simp⟩⟩
  simp only [Instr.range, Sem.run_bind, run_underlying ht, Result.andThen_ok, MapKept.run_getObj_map hb, Sem.run_pure]
  rfl

theorem IterIs.next (h : IterIs w it g kvs done) (hne : it ≠ g) (ty : TypeId) :
    ((∀ p ∈ kvs, p ∈ done) ∧ (Instr.next (.pointer (some ⟨it, 0, none⟩)) false ty).run P w = .ok (.tuple #[.bool false]) w) ∨
    ∃ p w', p ∈ kvs ∧ p ∉ done ∧ (Instr.next (.pointer (some ⟨it, 0, none⟩)) false ty).run P w = .ok (.tuple #[.bool true, .string p.1, p.2]) w' ∧ IterIs w' it g kvs (done ++ [p]) ∧ w.grownBy w' (some it) ∧ w'.heap.size = w.heap.size := by
  obtain ⟨es, clock, seen, last, ds, hb, hes, hn, hc, hit, hlast, hds, hseen, hdone⟩ := h.ex
  have hgo : (getObj it).run P w = .ok (.mapIter (some g) clock seen last) w := by simp [getObj, Sem.run, hit]
  have hguard : (!seen.isEmpty && !es.isEmpty && es.all (·.born ≥ last)) = false := by
    by_cases hd : done = []
    · have : ds = [] := by subst hd; simpa using hdone
      subst this
      have : seen = #[] := by apply Array.toList_inj.1; simpa using hseen
      subst this
      simp
    · have hl := hlast hd
      subst hl
      by_cases he : es.isEmpty
      · simp [he]
      · have hne : es.size ≠ 0 := by simpa using he
        have h0 := hc es[0] (by simp)
        have : es.all (·.born ≥ last) = false := by
          rw [Array.all_eq_false]
          exact ⟨0, by omega, by simpa using h0⟩
        simp [this]
  have hold : ∀ l : Array MapEntry, (∀ e ∈ l.toList, e.born < clock) → l.filter (·.born < clock) = l := by
    intro l hl
    rw [Array.filter_eq_self]
    intro a ha
    simpa using hl a (by simpa using ha)
  have hnew : ∀ l : Array MapEntry, (∀ e ∈ l.toList, e.born < clock) → l.filter (·.born ≥ clock) = #[] := by
    intro l hl
    rw [Array.filter_eq_empty_iff]
    intro a ha
    have := hl a (by simpa using ha)
    simp; omega
  have hleft : ∀ e ∈ (es.filter fun e => !seen.contains e.born).toList, e.born < clock := by
    intro e he
    simp at he
    exact hc e (by simpa using he.1)
  have hstart : (Instr.next (.pointer (some ⟨it, 0, none⟩)) false ty).run P w = ((choose (Question.mapNext ((if (es.filter fun e : MapEntry => !seen.contains e.born).isEmpty = true then #[none] else #[]) ++ (es.filter fun e : MapEntry => !seen.contains e.born).map some).size)).run P w).andThen fun j w1 =>
      (match ((if (es.filter fun e : MapEntry => !seen.contains e.born).isEmpty = true then #[none] else #[]) ++ (es.filter fun e : MapEntry => !seen.contains e.born).map some)[j]? with
        | some (some e) => (do
          setObj it (Obj.mapIter (some g) clock (seen.push e.born) clock)
          pure (Value.tuple #[Value.bool true, e.key, e.val]) : Sem Value)
        | some none => pure (Value.tuple #[Value.bool false])
        | none => stuck "Next: no such candidate").run P w1 := by
    simp only [Instr.next, Sem.run_bind, hgo, Result.andThen_ok, MapKept.run_getObj_map hb, hguard, hold _ hleft, hnew _ hleft]
    simp only [Array.append_empty, Bool.false_eq_true, if_false, Sem.run_bind]
    rfl
  rw [hstart]
  have hmem : ∀ e, e ∈ (es.filter fun e => !seen.contains e.born).toList ↔ e ∈ es.toList ∧ e ∉ ds := by
    intro e
    simp only [Array.toList_filter, List.mem_filter, Bool.not_eq_true', and_congr_right_iff]
    intro he
    rw [← Bool.not_eq_true, ← Array.contains_toList, List.contains_iff_mem, hseen]
    constructor
    · intro h1 h2
      exact h1 (List.mem_map.2 ⟨e, h2, rfl⟩)
    · intro h1 h2
      obtain ⟨e', he', hb'⟩ := List.mem_map.1 h2
      have := born_inj hn (hds e' he') he hb'
      subst this
      exact h1 he'
  generalize (es.filter fun e : MapEntry => !seen.contains e.born) = L at hmem
  by_cases hL : L.isEmpty
  · left
    have hL0 : L = #[] := by simpa using hL
    subst hL0
    refine ⟨fun p hp => ?_, ?_⟩
    · obtain ⟨e, he, hk, hv⟩ := mem_of_entry hes hp
      have hd : e ∈ ds := by
        rcases Classical.em (e ∈ ds) with h1 | h1
        · exact h1
        · have := (hmem e).2 ⟨he, h1⟩; simp at this
      obtain ⟨q, hq, hk2, hv2⟩ := entry_of_mem hdone hd
      have hpq : p = q := by
        rw [hk] at hk2
        rw [hv] at hv2
        injection hk2 with hk2
        exact Prod.ext hk2 hv2
      rw [hpq]; exact hq
    · simp only [Array.isEmpty_empty, if_true, Array.map_empty, Array.append_empty]
      rfl
  · right
    have hn1 : 0 < L.size := by
      rcases Nat.eq_zero_or_pos L.size with h0 | h0
      · exact absurd (by simpa using h0) hL
      · exact h0
    obtain ⟨j, w1, hch, hj, hw1⟩ : ∃ j w1, (choose (Question.mapNext L.size)).run P w = .ok j w1 ∧ j < L.size ∧ (w1 = w ∨ w1 = w.drew) := by
      by_cases h1 : L.size ≤ 1
      · exact ⟨0, w, by simp [choose, Sem.run, Question.forced, h1], hn1, .inl rfl⟩
      · exact ⟨(Question.mapNext L.size).cut (w.tape w.drawn (.mapNext L.size)), w.drew, by simp [choose, Sem.run, Question.forced, h1], by simp only [Question.cut]; exact Nat.mod_lt _ hn1, .inr rfl⟩
    have hLj : (L.map some)[j]? = some (some L[j]) := by simp [hj]
    simp only [if_neg hL, Array.empty_append, Array.size_map, hch, Result.andThen_ok, hLj]
    have he : L[j] ∈ es.toList ∧ L[j] ∉ ds := (hmem L[j]).1 (by simp)
    obtain ⟨p, hp, hk, hv⟩ := entry_of_mem hes he.1
    have hpd : p ∉ done := by
      intro hpd
      obtain ⟨e', he', hk', hv'⟩ := mem_of_entry hdone hpd
      obtain ⟨i1, h1⟩ := List.mem_iff_getElem?.1 (hds e' he')
      obtain ⟨i2, h2⟩ := List.mem_iff_getElem?.1 he.1
      have g1 := congrArg (fun l => l[i1]?) hes
      have g2 := congrArg (fun l => l[i2]?) hes
      simp only [List.getElem?_map, h1, h2, Option.map_some] at g1 g2
      have gg : ∀ (i : Nat) (e : Value), (kvs.map (fun p => (Value.string p.1, p.2)))[i]? = some (e, p.2) → e = Value.string p.1 → (kvs.map Prod.fst)[i]? = some p.1 := by
        intro i e hh he
        simp only [List.getElem?_map] at hh ⊢
        cases hx : kvs[i]? with
        | none => rw [hx] at hh; cases hh
        | some q => rw [hx] at hh; subst he; simp at hh; simp [hh.1]
      rw [← List.getElem?_map] at g1 g2
      have e1 := gg i1 _ (by rw [← g1, hv']) hk'
      have e2 := gg i2 _ (by rw [← g2, hv]) hk
      have hi : i1 = i2 := by
        have hl : i1 < (kvs.map Prod.fst).length := by
          rcases Nat.lt_or_ge i1 (kvs.map Prod.fst).length with h | h
          · exact h
          · rw [List.getElem?_eq_none h] at e1; cases e1
        exact List.getElem?_inj hl h.keys |>.1 (by rw [e1, e2])
      subst hi
      rw [h1] at h2
      injection h2 with h2
      exact he.2 (h2 ▸ he')
    have hlt : it < w.heap.size := (Array.getElem?_eq_some_iff.1 hit).1
    have hit1 : w1.heap[it]? = some (.mapIter (some g) clock seen last) := by rcases hw1 with rfl | rfl <;> exact hit
    have hb1 : w1.heap[g]? = some (.map es clock) := by rcases hw1 with rfl | rfl <;> exact hb
    have hset : (setObj it (Obj.mapIter (some g) clock (seen.push L[j].born) clock)).run P w1 = .ok () { w1 with heap := w1.heap.setIfInBounds it (Obj.mapIter (some g) clock (seen.push L[j].born) clock) } := by
      simp [setObj, Sem.run, hit1]
    refine ⟨p, { w1 with heap := w1.heap.setIfInBounds it (Obj.mapIter (some g) clock (seen.push L[j].born) clock) }, hp, hpd, ?_, ?_, ?_, ?_⟩
    · simp only [Sem.run_bind, hset, Result.andThen_ok, Sem.run_pure, hk, hv]
    · have hlt1 : it < w1.heap.size := (Array.getElem?_eq_some_iff.1 hit1).1
      refine ⟨⟨es, clock, seen.push L[j].born, clock, ds ++ [L[j]], ?_, hes, hn, hc, ?_, fun _ => rfl, ?_, ?_, ?_⟩, h.keys, ?_, ?_⟩
      · show (w1.heap.setIfInBounds it _)[g]? = _
        rw [Array.getElem?_setIfInBounds_ne hne]; exact hb1
      · show (w1.heap.setIfInBounds it _)[it]? = _
        simp [hlt1]
      · intro e hh
        rcases List.mem_append.1 hh with hh | hh
        · exact hds e hh
        · simp at hh; subst hh; exact he.1
      · simp [hseen]
      · simp [hdone, hk, hv]
      · intro q hq
        rcases List.mem_append.1 hq with hq | hq
        · exact h.sub q hq
        · simp at hq; subst hq; exact hp
      · rw [List.nodup_append]
        refine ⟨h.once, by simp, ?_⟩
        intro a ha b hb
        simp at hb
        subst hb
        rintro rfl
        exact hpd ha
    · have hg := heap_set_grown (w := w1) (b := it) (o := Obj.mapIter (some g) clock (seen.push L[j].born) clock)
      rcases hw1 with rfl | rfl
      · exact hg
      · exact ⟨hg.os, hg.tape, hg.output, hg.size, hg.block⟩
    · rcases hw1 with rfl | rfl <;> (show (Array.setIfInBounds _ _ _).size = _; rw [Array.size_setIfInBounds]; try rfl)

theorem IterIs.entry {p : ByteArray × Value} (h : IterIs w it g kvs (done ++ [p])) : (Instr.entry (.pointer (some ⟨it, 0, none⟩))).run P w = .ok (.tuple #[.string p.1, p.2]) w := by
  obtain ⟨es, clock, seen, last, ds, hb, hes, hn, hc, hit, hlast, hds, hseen, hdone⟩ := h.ex
  have hgo : (getObj it).run P w = .ok (.mapIter (some g) clock seen last) w := by simp [getObj, Sem.run, hit]
  have hl := hlast (by simp)
  subst hl
  have hdl : ∃ ds' e, ds = ds' ++ [e] := by
    rcases List.eq_nil_or_concat ds with h0 | ⟨l, b, hlb⟩
    · subst h0; have := congrArg List.length hdone; simp at this
    · exact ⟨l, b, by simpa using hlb⟩
  obtain ⟨ds', e, rfl⟩ := hdl
  simp only [List.map_append, List.map_cons, List.map_nil] at hdone
  have hsp := List.append_inj' hdone rfl
  have he := hsp.2
  simp at he
  have hback : seen.back? = some e.born := by
    have : seen.toList.getLast? = some e.born := by rw [hseen]; simp
    rw [← this, Array.getLast?_toList]
  have hfind : es.find? (·.born == e.born) = some e := by
    have hee := hds e (by simp)
    rw [← Array.find?_toList]
    cases hf : es.toList.find? (·.born == e.born) with
    | none =>
      rw [List.find?_eq_none] at hf
      exact absurd (by simp) (hf e hee)
    | some e' =>
      have h1 := List.find?_some hf
      have h2 := List.mem_of_find?_eq_some hf
      rw [born_inj hn h2 hee (by simpa using h1)]
  simp [Instr.entry, hgo, hback, MapKept.run_getObj_map hb, hfind, he.1, he.2]

theorem IterIs.below {w' : World} {B : Nat} (h : IterIs w it g kvs done) (hb : Below B w w') (h1 : it < B) (h2 : g < B) : IterIs w' it g kvs done := by
  obtain ⟨⟨es, clock, seen, last, ds, a1, a2, a3, a4, a5, a6⟩, k, s, o⟩ := h
  exact ⟨⟨es, clock, seen, last, ds, (hb.block g h2).trans a1, a2, a3, a4, (hb.block it h1).trans a5, a6⟩, k, s, o⟩
theorem IterIs.same {w' : World} (h : IterIs w it g kvs done) (h1 : w'.heap[it]? = w.heap[it]?) (h2 : w'.heap[g]? = w.heap[g]?) : IterIs w' it g kvs done := by
  obtain ⟨⟨es, clock, seen, last, ds, a1, a2, a3, a4, a5, a6⟩, k, s, o⟩ := h
  exact ⟨⟨es, clock, seen, last, ds, h2.trans a1, a2, a3, a4, h1.trans a5, a6⟩, k, s, o⟩
theorem IterIs.lt (h : IterIs w it g kvs done) : it < w.heap.size := by
  obtain ⟨⟨es, clock, seen, last, ds, a1, a2, a3, a4, a5, a6⟩, k, s, o⟩ := h
  exact (Array.getElem?_eq_some_iff.1 a5).1
theorem IterIs.map (h : IterIs w it g kvs done) : MapIs w g kvs := by
  obtain ⟨⟨es, clock, seen, last, ds, a1, a2, a3, a4, a5, a6⟩, k, s, o⟩ := h
  exact ⟨⟨es, clock, a1, a2, a3, a4⟩, k⟩
theorem IterIs.len (h : IterIs w it g kvs done) : done.length ≤ kvs.length :=
  nodup_len _ _ h.once h.sub
end
end Go.Proofs.YtiffmiabhapfnaaGreatDoor

/- A law of a region that draws its order: each operation is looked at once, under what is known of those that it waits for; no order is gone through. The last operation waits for all. Nothing of any program. -/
namespace Go.Proofs.YtiffmiabhapfnaaGreatDoor
open Go.RowKit

/-- the operations that number i waits for, and those that they wait for -/
def ancs (ops : Array Oper) : Nat → Nat → List Nat
  | 0, _ => []
  | f + 1, i => match ops[i]? with
    | none => []
    | some o => (o.after.toList.filter (fun e => Region.binds .any e)).flatMap (fun e => e.on :: ancs ops f e.on)
/-- what is known in the midst of the region -/
structure Mid (ops : Array Oper) (base : Array Value) (L : Nat) (G : Nat → World → Prop) (F : Nat → Value → World → Prop) (listed : Array Bool) (a : Act) (w : World) : Prop where
  defers : a.defers = []
  size : a.tmps.size = base.size
  lsize : listed.size = ops.size
  closed : ∀ (i : Nat) (o : Oper), ops[i]? = some o → listed.getD i false = true → ∀ e ∈ o.after, Region.binds .any e = true → listed.getD e.on false = true
  old : ∀ t : Nat, (∀ (i : Nat) (o : Oper), i < L → ops[i]? = some o → o.dst ≠ some t) → a.tmps[t]? = base[t]?
  glob : ∀ j, j ≤ L → listed.getD j false = false → G j w
  fact : ∀ (i : Nat) (o : Oper) (d : Tmp), ops[i]? = some o → o.dst = some d → listed.getD i false = true → ∃ v, a.tmps[d]? = some v ∧ F i v w
theorem ancs_listed {ops : Array Oper} {listed : Array Bool} (hc : ∀ (i : Nat) (o : Oper), ops[i]? = some o → listed.getD i false = true → ∀ e ∈ o.after, Region.binds .any e = true → listed.getD e.on false = true) :
    ∀ (f i : Nat) (o : Oper), ops[i]? = some o → (∀ e ∈ o.after, Region.binds .any e = true → listed.getD e.on false = true) → ∀ j ∈ ancs ops f i, listed.getD j false = true
  | 0, _, _, _, _, j, hj => by cases hj
  | f + 1, i, o, ho, h, j, hj => by
    simp only [ancs, ho] at hj
    obtain ⟨e, he, hje⟩ := List.mem_flatMap.1 hj
    obtain ⟨he1, he2⟩ := List.mem_filter.1 he
    have hl := h e (by simpa using he1) he2
    rcases List.mem_cons.1 hje with rfl | hje
    · exact hl
    · cases ho2 : ops[e.on]? with
      | none =>
        cases f with
        | zero => cases hje
        | succ f => simp [ancs, ho2] at hje
      | some o2 => exact ancs_listed hc f e.on o2 ho2 (hc e.on o2 ho2 hl) j hje
theorem getD_set_same {l : Array Bool} {i : Nat} {b : Bool} (h : i < l.size) : (l.setIfInBounds i true).getD i b = true := by simp [h]
theorem getD_set_other {l : Array Bool} {i j : Nat} {b : Bool} (h : i ≠ j) : (l.setIfInBounds i true).getD j b = l.getD j b := by
  simp [Array.getElem?_setIfInBounds_ne h]
theorem getD_any {l : Array Bool} {i : Nat} (h : i < l.size) (b c : Bool) : l.getD i b = l.getD i c := by simp [h]
theorem count_set : ∀ (l : List Bool) (i : Nat), l[i]? = some false → (l.set i true).count false + 1 = l.count false
  | [], i, h => by simp at h
  | b :: l, 0, h => by simp at h; subst h; simp
  | b :: l, i + 1, h => by
    have := count_set l i (by simpa using h)
    simp only [List.set_cons_succ, List.count_cons]
    omega
theorem least_off (listed : Array Bool) (P : Nat → Prop) : ∀ (n : Nat), (∃ i, i < n ∧ listed.getD i true = false) → ∃ i, listed.getD i true = false ∧ ∀ j, j < i → listed.getD j true = true
  | 0, ⟨i, hi, _⟩ => by omega
  | n + 1, ⟨i, hi, h⟩ => by
    by_cases hex : ∃ i, i < n ∧ listed.getD i true = false
    · exact least_off listed P n hex
    · have hin : i = n := by
        rcases Nat.lt_or_ge i n with hlt | hge
        · exact absurd ⟨i, hlt, h⟩ hex
        · omega
      subst hin
      refine ⟨i, h, fun j hj => ?_⟩
      cases hb : listed.getD j true with
      | true => rfl
      | false => exact absurd ⟨j, hj, hb⟩ hex

section
variable {P : Program} {ops : Array Oper} {Q : Exit → Act → World → Prop}
theorem wpAny_end {listed : Array Bool} {a : Act} {w : World} (hr : Region.ready .any ops listed = []) (h : Q .normal a w) : ∀ fuel, wpAny P .any ops Q fuel listed a w
  | 0 => ⟨hr, h⟩
  | _ + 1 => ⟨fun _ => h, by rw [hr]; simp⟩
/-- the law -/
theorem drawn_law {id : Nat} {a : Act} {w : World} (hm : P.follows .mixedOrders = true) (L : Nat) (G : Nat → World → Prop) (F : Nat → Value → World → Prop) (R : Nat → World → World → Prop)
    (hd : a.defers = []) (hL : L + 1 = ops.size) (hg : ∀ (i : Nat) (o : Oper), ops[i]? = some o → o.guard = none) (hord : ∀ (i : Nat) (o : Oper), ops[i]? = some o → ∀ e ∈ o.after, e.on < i)
    (hdst : ∀ (i j : Nat) (o o' : Oper) (d : Tmp), ops[i]? = some o → ops[j]? = some o' → o.dst = some d → o'.dst = some d → i = j) (hsz : ∀ (i : Nat) (o : Oper) (d : Tmp), ops[i]? = some o → o.dst = some d → d < a.tmps.size)
    (hanc : ∀ j, j < L → j ∈ ancs ops ops.size L)
    (hG : ∀ j, j ≤ L → G j w.drew) (hFm : ∀ i j v w w', i ≠ j → i < L → j < L → F i v w → R j w w' → F i v w') (hGm : ∀ i j w w', i ≠ j → i < L → j ≤ L → j ∉ ancs ops ops.size i → G j w → R i w w' → G j w')
    (hstep : ∀ (i : Nat) (o : Oper) (a' : Act) (w' : World), ops[i]? = some o → i < L → a'.defers = [] → a'.tmps.size = a.tmps.size → (∀ t : Nat, (∀ (i : Nat) (o : Oper), i < L → ops[i]? = some o → o.dst ≠ some t) → a'.tmps[t]? = a.tmps[t]?) → G i w' → G L w' →
      (∀ e ∈ o.after, Region.binds .any e = true → ∀ oj d, ops[e.on]? = some oj → oj.dst = some d → ∃ v, a'.tmps[d]? = some v ∧ F e.on v w') → o.wp P a' w' (fun a2 w2 => ∃ v, a2 = a'.put o.dst v ∧ R i w' w2 ∧ F i v w2) Q)
    (hlast : ∀ (o : Oper) (a' : Act) (w' : World), ops[L]? = some o → a'.defers = [] → a'.tmps.size = a.tmps.size → (∀ t : Nat, (∀ (i : Nat) (o : Oper), i < L → ops[i]? = some o → o.dst ≠ some t) → a'.tmps[t]? = a.tmps[t]?) → G L w' →
      (∀ (i : Nat) (oj : Oper) (d : Tmp), i < L → ops[i]? = some oj → oj.dst = some d → ∃ v, a'.tmps[d]? = some v ∧ F i v w') → o.wp P a' w' (fun a2 w2 => Q .normal a2 w2) Q) :
    (Code.region id ops true).wp P Q a w := by
  have main : ∀ (fuel : Nat) (listed : Array Bool) (a' : Act) (w' : World), Mid ops a.tmps L G F listed a' w' → listed.getD L true = false → listed.toList.count false ≤ fuel → wpAny P .any ops Q fuel listed a' w' := by
    intro fuel
    induction fuel with
    | zero =>
      intro listed a' w' hM hoff hc
      have : false ∈ listed.toList := by
        have hl : L < listed.size := by rw [hM.lsize]; omega
        have h1 : listed[L]? = some false := by simp [hl] at hoff ⊢; exact hoff
        exact List.mem_iff_getElem?.2 ⟨L, by simpa using h1⟩
      have := List.count_pos_iff.2 this
      omega
    | succ fuel ih =>
      intro listed a' w' hM hoff hc
      refine ⟨fun hr => ?_, fun i hi => ?_⟩
      · exfalso
        obtain ⟨i, h1, h2⟩ := least_off listed (fun _ => True) ops.size ⟨L, by omega, hoff⟩
        have hil : i < listed.size := by
          rcases Nat.lt_or_ge i listed.size with h | h
          · exact h
          · simp [Array.getElem?_eq_none h] at h1
        have hio : i < ops.size := by rw [← hM.lsize]; exact hil
        have : i ∈ Region.ready .any ops listed := mem_ready.2 ⟨h1, ops[i], by simp [hio], fun e he _ => by
          have h3 := hord i ops[i] (by simp [hio]) e he
          have h4 := h2 e.on h3
          rwa [getD_any (by omega) true false] at h4⟩
        rw [hr] at this; cases this
      · obtain ⟨h1, o, ho, h2⟩ := mem_ready.1 hi
        have hio : i < ops.size := (Array.getElem?_eq_some_iff.1 ho).1
        have hil : i < listed.size := by rw [hM.lsize]; exact hio
        have hw : Region.wanted o (yielded ops a'.tmps) = true := by simp [Region.wanted, hg i o ho]
        unfold wpOp
        rw [ho]
        simp only [hw, if_true]
        left
        by_cases hiL : i = L
        · subst hiL
          have hall : ∀ j, j < i → listed.getD j false = true := fun j hj => ancs_listed hM.closed ops.size i o ho h2 j (hanc j hj)
          refine Oper.wp_mono (fun a2 w2 h => ?_) (hlast o a' w' ho hM.defers hM.size hM.old (hM.glob i (Nat.le_refl _) (by rw [getD_any (c := true) (by omega)]; exact hoff)) (fun j oj d hj hoj hdj => hM.fact j oj d hoj hdj (hall j hj)))
          refine wpAny_end ?_ h fuel
          apply List.eq_nil_iff_forall_not_mem.2
          intro j hj
          obtain ⟨h3, oj, hoj, -⟩ := mem_ready.1 hj
          have hjo : j < ops.size := (Array.getElem?_eq_some_iff.1 hoj).1
          by_cases hji : i = j
          · subst hji; rw [getD_set_same hil] at h3; cases h3
          · rw [getD_set_other hji, getD_any (c := false) (by omega), hall j (by omega)] at h3; cases h3
        · have hiL' : i < L := by omega
          have hif : listed.getD i false = false := by rw [getD_any (c := true) (by omega)]; exact h1
          refine Oper.wp_mono (fun a2 w2 h => ?_) (hstep i o a' w' ho hiL' hM.defers hM.size hM.old (hM.glob i (by omega) hif) (hM.glob L (Nat.le_refl _) (by rw [getD_any (c := true) (by rw [hM.lsize]; omega)]; exact hoff)) (fun e he hb oj d hoj hdj => hM.fact e.on oj d hoj hdj (h2 e he hb)))
          obtain ⟨v, rfl, hb, hF⟩ := h
          have hfac : ∀ (j : Nat) (oj : Oper) (d : Tmp), i ≠ j → ops[j]? = some oj → oj.dst = some d → listed.getD j false = true → ∃ v, a'.tmps[d]? = some v ∧ F j v w2 := fun j oj d hji hoj hdj hlj => by
            obtain ⟨u, hu, hFu⟩ := hM.fact j oj d hoj hdj hlj
            have hjs : j < ops.size := (Array.getElem?_eq_some_iff.1 hoj).1
            have hjL : j ≠ L := fun e => by rw [e, getD_any (c := true) (by rw [hM.lsize]; omega), hoff] at hlj; cases hlj
            exact ⟨u, hu, hFm j i u _ _ (Ne.symm hji) (by omega) hiL' hFu hb⟩
          refine ih _ _ _ ⟨?_, ?_, ?_, ?_, ?_, ?_, ?_⟩ (by rw [getD_set_other hiL]; exact hoff) ?_
          · cases o.dst <;> exact hM.defers
          · cases o.dst <;> simp [Act.put, hM.size]
          · simp [hM.lsize]
          · intro j oj hoj hlj e he hbe
            by_cases hje : i = e.on
            · rw [hje]; exact getD_set_same (by omega)
            · rw [getD_set_other hje]
              by_cases hji : i = j
              · subst hji
                have : oj = o := by rw [ho] at hoj; injection hoj with hoj; exact hoj.symm
                subst this
                exact h2 e he hbe
              · rw [getD_set_other hji] at hlj
                exact hM.closed j oj hoj hlj e he hbe
          · intro t ht
            rw [← hM.old t ht]
            have := ht i o hiL' ho
            cases hd : o.dst with
            | none => rfl
            | some d => simp only [Act.put]; exact Array.getElem?_setIfInBounds_ne (by intro e; rw [hd, e] at this; exact this rfl)
          · intro j hj hlj
            by_cases hji : i = j
            · subst hji; rw [getD_set_same hil] at hlj; cases hlj
            · rw [getD_set_other hji] at hlj
              refine hGm i j _ _ hji hiL' hj (fun hmem => ?_) (hM.glob j hj hlj) hb
              have := ancs_listed hM.closed ops.size i o ho h2 j hmem
              rw [hlj] at this; cases this
          · intro j oj d hoj hdj hlj
            by_cases hji : i = j
            · subst hji
              have : oj = o := by rw [ho] at hoj; injection hoj with hoj; exact hoj.symm
              subst this
              have hds := hsz i oj d hoj hdj
              refine ⟨v, ?_, hF⟩
              rw [hdj]
              simp [Act.put, hM.size, hds]
            · rw [getD_set_other hji] at hlj
              obtain ⟨u, hu, hFu⟩ := hfac j oj d hji hoj hdj hlj
              refine ⟨u, ?_, hFu⟩
              rw [← hu]
              cases hd : o.dst with
              | none => rfl
              | some d' => simp only [Act.put]; exact Array.getElem?_setIfInBounds_ne (by intro e; exact hji (hdst i j o oj d ho hoj (by rw [hd, e]) hdj))
          · have h3 : listed.toList[i]? = some false := by simp [hil] at h1 ⊢; exact h1
            have h4 := count_set _ _ h3
            rw [Array.toList_setIfInBounds]
            omega
  have hLo : L < ops.size := by omega
  refine wp_region_any hm (main ops.size (Array.replicate ops.size false) a _ ⟨hd, rfl, by simp, ?_, fun _ _ => rfl, fun j hj _ => hG j hj, ?_⟩ (by simp [hLo]) ?_)
  · intro i o ho hl
    have hio : i < ops.size := (Array.getElem?_eq_some_iff.1 ho).1
    simp [hio] at hl
  · intro i o d ho _ hl
    have hio : i < ops.size := (Array.getElem?_eq_some_iff.1 ho).1
    simp [hio] at hl
  · refine Nat.le_trans List.count_le_length ?_
    simp

/-- what the law asks of a region, to be reckoned -/
def drawnOk (ops : Array Oper) (L n : Nat) : Bool :=
  decide (L + 1 = ops.size) && ((List.range ops.size).all fun i => match ops[i]? with
    | none => true
    | some o => o.guard.isNone && (o.after.toList.all (fun e => decide (e.on < i)) && (match o.dst with
      | none => true
      | some d => decide (d < n) && (List.range ops.size).all (fun j => decide (i = j) || (match ops[j]? with | none => true | some o' => !decide (o'.dst = some d)))))) &&
  (List.range L).all (fun j => (ancs ops ops.size L).contains j)
/-- where the value of operation j stands, if operation i waits for it -/
def waitsFor (ops : Array Oper) (i j : Nat) : Option Tmp := match ops[i]? with
  | none => none
  | some o => if o.after.toList.any (fun e => decide (e.on = j) && Region.binds .any e) then (match ops[j]? with | none => none | some o' => o'.dst) else none
def dstOf (ops : Array Oper) (j : Nat) : Option Tmp := match ops[j]? with | none => none | some o' => o'.dst
theorem drawn {id : Nat} {a : Act} {w : World} (hm : P.follows .mixedOrders = true) (L n : Nat) (G : Nat → World → Prop) (F : Nat → Value → World → Prop) (R : Nat → World → World → Prop)
    (hn : a.tmps.size = n) (hok : drawnOk ops L n = true) (hd : a.defers = [])
    (hG : ∀ j, j ≤ L → G j w.drew) (hFm : ∀ i j v w w', i ≠ j → i < L → j < L → F i v w → R j w w' → F i v w') (hGm : ∀ i j w w', i ≠ j → i < L → j ≤ L → j ∉ ancs ops ops.size i → G j w → R i w w' → G j w')
    (hstep : ∀ (i : Nat) (o : Oper) (a' : Act) (w' : World), i < L → ops[i]? = some o → a'.defers = [] → (∀ t : Nat, (ops.toList.take L).all (fun o => !decide (o.dst = some t)) = true → a'.tmps[t]? = a.tmps[t]?) → G i w' → G L w' →
      (∀ j d, waitsFor ops i j = some d → ∃ v, a'.tmps[d]? = some v ∧ F j v w') → o.wp P a' w' (fun a2 w2 => ∃ v, a2 = a'.put o.dst v ∧ R i w' w2 ∧ F i v w2) Q)
    (hlast : ∀ (o : Oper) (a' : Act) (w' : World), ops[L]? = some o → a'.defers = [] → a'.tmps.size = n → (∀ t : Nat, (ops.toList.take L).all (fun o => !decide (o.dst = some t)) = true → a'.tmps[t]? = a.tmps[t]?) → G L w' →
      (∀ i d, i < L → dstOf ops i = some d → ∃ v, a'.tmps[d]? = some v ∧ F i v w') → o.wp P a' w' (fun a2 w2 => Q .normal a2 w2) Q) :
    (Code.region id ops true).wp P Q a w := by
  simp only [drawnOk, Bool.and_eq_true, decide_eq_true_eq, List.all_eq_true, List.mem_range] at hok
  obtain ⟨⟨hL, h1⟩, h2⟩ := hok
  have hall : ∀ (i : Nat) (o : Oper), ops[i]? = some o → o.guard.isNone = true ∧ (∀ e ∈ o.after.toList, e.on < i) ∧ (∀ d, o.dst = some d → d < n ∧ ∀ j o', ops[j]? = some o' → o'.dst = some d → i = j) := by
    intro i o ho
    have hi : i < ops.size := (Array.getElem?_eq_some_iff.1 ho).1
    have := h1 i hi
    rw [ho] at this
    simp only [Bool.and_eq_true, List.all_eq_true, decide_eq_true_eq] at this
    obtain ⟨k1, k2, k3⟩ := this
    refine ⟨k1, k2, fun d hd => ?_⟩
    rw [hd] at k3
    simp only [Bool.and_eq_true, List.all_eq_true, decide_eq_true_eq, List.mem_range, Bool.or_eq_true] at k3
    refine ⟨k3.1, fun j o' ho' hd' => ?_⟩
    have hj : j < ops.size := (Array.getElem?_eq_some_iff.1 ho').1
    rcases k3.2 j hj with h | h
    · exact h
    · rw [ho'] at h; simp [hd'] at h
  have hold : ∀ t : Nat, (ops.toList.take L).all (fun o => !decide (o.dst = some t)) = true → ∀ (i : Nat) (o : Oper), i < L → ops[i]? = some o → o.dst ≠ some t := by
    intro t ht i o hi ho
    have hm : o ∈ ops.toList.take L := by
      have := List.mem_of_getElem? (l := ops.toList.take L) (i := i) (a := o) (by rw [List.getElem?_take_of_lt hi]; simpa using ho)
      exact this
    have := List.all_eq_true.1 ht o hm
    simpa using this
  refine drawn_law hm L G F R hd hL (fun i o ho => by have := (hall i o ho).1; simpa using this) (fun i o ho e he => (hall i o ho).2.1 e (by simpa using he)) (fun i j o o' d ho ho' hd hd' => ((hall i o ho).2.2 d hd).2 j o' ho' hd') (fun i o d ho hd => by rw [hn]; exact ((hall i o ho).2.2 d hd).1)
    (fun j hj => by simpa using h2 j hj) hG hFm hGm ?_ ?_
  · intro i o a' w' ho hi hd' hs hold' hGi hGL hw
    refine hstep i o a' w' hi ho hd' (fun t ht => hold' t (hold t ht)) hGi hGL (fun j d hj => ?_)
    unfold waitsFor at hj
    rw [ho] at hj
    simp only at hj
    split at hj
    · rename_i hany
      obtain ⟨e, he, he2⟩ := List.any_eq_true.1 hany
      simp only [Bool.and_eq_true, decide_eq_true_eq] at he2
      obtain ⟨rfl, hb⟩ := he2
      cases ho2 : ops[e.on]? with
      | none => rw [ho2] at hj; cases hj
      | some oj => rw [ho2] at hj; exact hw e (by simpa using he) hb oj d ho2 hj
    · cases hj
  · intro o a' w' ho hd' hs hold' hGL hw
    refine hlast o a' w' ho hd' (by rw [hs, hn]) (fun t ht => hold' t (hold t ht)) hGL (fun i d hi hd => ?_)
    unfold dstOf at hd
    cases ho2 : ops[i]? with
    | none => rw [ho2] at hd; cases hd
    | some oj => rw [ho2] at hd; exact hw i oj d hi ho2 hd
theorem eval_tmp {a : Act} {k : Nat} {v : Value} (h : a.tmps[k]? = some v) : a.eval (.tmp k) = v := by simp [Act.eval, h]
/-- a slice literal, every place given -/
theorem op_bslice {P : Program} {o : Oper} {a : Act} {w : World} {K : Act → World → Prop} {Q : Exit → Act → World → Prop} (t e : TypeId) (len : Nat) (parts : Array (Nat × Operand)) (ho : o.op = .buildSlice t len parts) (s : Nat) (vs : List Value)
    (hu : P.underlying t = some (.slice e)) (hi : (P.info? e).map (fun i => (i.zero.isSome, i.size)) = some (true, s)) (hs : 0 < s) (hl : vs.length = len) (hpos : 0 < len) (hsmall : len * s ≤ 2 ^ 24)
    (hp : (parts.map fun (i, x) => (i, a.eval x)).toList = (vs.zipIdx 0).map fun x => (x.2, x.1)) (h1 : ∀ v ∈ vs, v.cells.size = s)
    (h : K (a.put o.dst (.slice (some ⟨w.heap.size, 0, none⟩) len len)) (w.alloc (.cells (vs.flatMap fun v => v.cells.toList).toArray e))) : o.wp P a w K Q := by
  obtain ⟨ie, hie, h2⟩ := Option.map_eq_some_iff.1 hi
  injection h2 with h3 h4
  obtain ⟨z, hz⟩ := Option.isSome_iff_exists.1 h3
  have hne : ¬ len * s = 0 := by
    have := Nat.mul_pos hpos hs
    omega
  refine wp_buildSlice t e len parts ho _ ie z hu hie hz (by rw [h4]; omega) (by rw [h4]; exact hne) ?_ h
  rw [hp, h4]
  exact Great.fill_whole hs vs _ h1 (by simp [hl])
/-- a struct literal -/
theorem op_build {P : Program} {o : Oper} {a : Act} {w : World} {K : Act → World → Prop} {Q : Exit → Act → World → Prop} (t : TypeId) (parts : Array (Nat × Operand)) (ho : o.op = .build t parts) (ps : List (Nat × Value)) (cells : Array Value)
    (hp : (parts.map fun (i, x) => (i, a.eval x)).toList = ps) (hf : P.built t ps = some cells) (h : K (a.put o.dst (.agg cells)) w) : o.wp P a w K Q := by
  subst hp
  exact wp_build t parts ho (by rw [hf]; rfl) (by rw [hf]; exact h)
/-- a new variable's cells -/
theorem op_alloc {P : Program} {o : Oper} {a : Act} {w : World} {K : Act → World → Prop} {Q : Exit → Act → World → Prop} (ty : TypeId) (ho : o.op = .alloc ty) (zs : Array Value) (n : Nat) (hi : (P.info? ty).map (fun i => (i.zero, i.size)) = some (some (.agg zs), n))
    (h : K (a.put o.dst (.pointer (some ⟨w.heap.size, 0, none⟩))) (w.alloc (.cells zs ty))) : o.wp P a w K Q := by
  obtain ⟨i, hi1, hi2⟩ := Option.map_eq_some_iff.1 hi
  injection hi2 with h1 h2
  have hzv : (zeroValue ty).run P w = .ok (.agg zs) w := by simp [zeroValue, typeInfo, hi1, h1]
  unfold Oper.wp execOp
  simp [ho, go_sem, hzv]
  exact h
/-- a call of a function of the program -/
theorem op_call {P : Program} {o : Oper} {a : Act} {w : World} {K : Act → World → Prop} {Q : Exit → Act → World → Prop} (f : Nat) (c : Call) (ho : o.op = .call c) (hf : c.callee = .value (.func f)) (vs : Array Value) (hv : c.args.map a.eval = vs)
    (fn : Func) (hfn : P.funcs[f]? = some fn) (hb : fn.body.isSome = true) (hng : (fn.name == "runtime.NumGoroutine") = false) (h : Calls P f vs w (fun e w' => ∃ v, e = .returned v ∧ K (a.put o.dst v) w')) : o.wp P a w K Q := by
  have hr : (execOp a.eval o).run P w = .ok (.enter f vs) w := by
    unfold execOp
    have hb' : fn.body ≠ none := by intro e; rw [e] at hb; cases hb
    have hn' : fn.name ≠ "runtime.NumGoroutine" := by simpa using hng
    simp [ho, hf, resolve, Deferred.ofValue, invoke, Act.eval, go_sem, callFunc, hv, hfn, hb', hn']
  unfold Oper.wp
  rw [hr, Oper.upon_enter]
  refine h.mono ?_
  rintro e w' ⟨v, rfl, hk⟩
  exact hk
/-- a frame, written out by a function -/
theorem act_lit {a : Act} (n : Nat) (hs : a.tmps.size = n) (hd : a.defers = []) : ∃ f : Nat → Value, a = ⟨((List.range n).map f).toArray, []⟩ ∧ ∀ k v, a.tmps[k]? = some v → f k = v := by
  refine ⟨fun i => a.tmps.getD i undef, ?_, fun k v h => by simp [h]⟩
  cases a with
  | mk t d =>
    simp only at hs hd
    subst hd
    congr 1
    apply Array.ext
    · simp [hs]
    · intro i h1 h2
      simp [h1]
theorem puts_size (f : Nat → Value) : ∀ (ds : List Nat) (a : Act), (ds.foldl (fun x d => x.put (some d) (f d)) a).tmps.size = a.tmps.size
  | [], _ => rfl
  | d :: ds, a => by rw [List.foldl_cons, puts_size f ds]; simp [Act.put]
theorem puts_defers (f : Nat → Value) : ∀ (ds : List Nat) (a : Act), (ds.foldl (fun x d => x.put (some d) (f d)) a).defers = a.defers
  | [], _ => rfl
  | d :: ds, a => by rw [List.foldl_cons, puts_defers f ds]; rfl
theorem puts_get (f : Nat → Value) (t : Nat) : ∀ (ds : List Nat) (a : Act), t < a.tmps.size → (ds.foldl (fun x d => x.put (some d) (f d)) a).tmps[t]? = if t ∈ ds then some (f t) else a.tmps[t]?
  | [], _, _ => by simp
  | d :: ds, a, h => by
    rw [List.foldl_cons, puts_get f t ds _ (by simpa [Act.put] using h)]
    by_cases h1 : t ∈ ds
    · simp [h1]
    · by_cases h2 : t = d
      · subst h2; simp [h1, Act.put, h]
      · simp [h1, h2, Act.put, Array.getElem?_setIfInBounds_ne (Ne.symm h2)]
/-- the frame behind a region: what the region has written is new, all else is as it was -/
theorem frame_of {a a' : Act} (ds : List Nat) (hs : a'.tmps.size = a.tmps.size) (hd : a'.defers = a.defers) (hold : ∀ t, t ∉ ds → a'.tmps[t]? = a.tmps[t]?) :
    ∃ f : Nat → Value, a' = ds.foldl (fun x d => x.put (some d) (f d)) a ∧ ∀ d v, a'.tmps[d]? = some v → f d = v := by
  refine ⟨fun d => a'.tmps.getD d undef, ?_, fun d v h => by simp [h]⟩
  have h1 : a'.tmps = (ds.foldl (fun x d => x.put (some d) (a'.tmps.getD d undef)) a).tmps := by
    apply Array.ext_getElem?
    intro i
    by_cases hi : i < a.tmps.size
    · rw [puts_get _ i ds a hi]
      by_cases hm : i ∈ ds
      · simp [hm, hs, hi]
      · simp [hm, hold i hm]
    · rw [Array.getElem?_eq_none (by omega), Array.getElem?_eq_none (by rw [puts_size]; omega)]
  have h2 := (puts_defers (fun d => a'.tmps.getD d undef) ds a)
  cases a' with
  | mk t d =>
    simp only at hd h1 h2 ⊢
    rw [← hd] at h2
    generalize hq : ds.foldl (fun x d => x.put (some d) (t.getD d undef)) a = q at *
    cases q
    simp only at h1 h2
    subst h1 h2
    rfl
/-- the same, the frame at the last operation told -/
theorem drawn2 {P : Program} {ops : Array Oper} {Q : Exit → Act → World → Prop} {id : Nat} {a : Act} {w : World} (hm : P.follows .mixedOrders = true) (L n : Nat) (ds : List Nat) (G : Nat → World → Prop) (F : Nat → Value → World → Prop) (R : Nat → World → World → Prop)
    (hn : a.tmps.size = n) (hok : drawnOk ops L n = true) (hds : (ops.toList.take L).filterMap (·.dst) = ds) (hd : a.defers = [])
    (hG : ∀ j, j ≤ L → G j w.drew) (hFm : ∀ i j v w w', i ≠ j → i < L → j < L → F i v w → R j w w' → F i v w') (hGm : ∀ i j w w', i ≠ j → i < L → j ≤ L → j ∉ ancs ops ops.size i → G j w → R i w w' → G j w')
    (hstep : ∀ (i : Nat) (o : Oper) (a' : Act) (w' : World), i < L → ops[i]? = some o → a'.defers = [] → (∀ t : Nat, (ops.toList.take L).all (fun o => !decide (o.dst = some t)) = true → a'.tmps[t]? = a.tmps[t]?) → G i w' → G L w' →
      (∀ j d, waitsFor ops i j = some d → ∃ v, a'.tmps[d]? = some v ∧ F j v w') → o.wp P a' w' (fun a2 w2 => ∃ v, a2 = a'.put o.dst v ∧ R i w' w2 ∧ F i v w2) Q)
    (hlast : ∀ (o : Oper) (u : Nat → Value) (w' : World), ops[L]? = some o → G L w' → (∀ i d, i < L → dstOf ops i = some d → F i (u d) w') → o.wp P (ds.foldl (fun x d => x.put (some d) (u d)) a) w' (fun a2 w2 => Q .normal a2 w2) Q) :
    (Code.region id ops true).wp P Q a w := by
  refine drawn hm L n G F R hn hok hd hG hFm hGm hstep ?_
  intro o a' w' ho hd' hs hold hGL hw
  obtain ⟨u, hu, huv⟩ := frame_of (a := a) (a' := a') ds (by rw [hs, hn]) (by rw [hd', hd]) (fun t ht => hold t (List.all_eq_true.2 fun o ho => by
    simp only [Bool.not_eq_true', decide_eq_false_iff_not]
    intro e
    exact ht (by rw [← hds]; exact List.mem_filterMap.2 ⟨o, ho, e⟩)))
  rw [hu]
  refine hlast o u w' ho hGL (fun i d hi hdd => ?_)
  obtain ⟨v, hv, hF⟩ := hw i d hi hdd
  rw [huv d v hv]
  exact hF
theorem setRow_at {w : World} {g : Nat} {cs cs' : Array Value} {t : TypeId} {fr : Nat × Nat} (h : w.heap[g]? = some (.cells cs t fr)) : (w.setRow g cs').heap[g]? = some (.cells cs' t fr) := by
  simp [World.setRow, Array.getElem?_modify, h]
theorem setRow_ne {w : World} {g b : Nat} {cs' : Array Value} (h : b ≠ g) : (w.setRow g cs').heap[b]? = w.heap[b]? := by
  simp [World.setRow, Array.getElem?_modify, Ne.symm h]
theorem setRow_size {w : World} {g : Nat} {cs' : Array Value} : (w.setRow g cs').heap.size = w.heap.size := by simp [World.setRow]
end
end Go.Proofs.YtiffmiabhapfnaaGreatDoor

/- Worlds that change at a few blocks, and what lies outside of these. Plain. -/
namespace Go.Proofs.YtiffmiabhapfnaaGreatDoor
open Go.RowKit

/-- the world with the blocks of S emptied: what is read there lies outside of S -/
def sans (w : World) (S : List Nat) : World := { w with heap := w.heap.mapIdx fun b o => if b ∈ S then .cells #[] 0 (0, 0) else o }
theorem sans_size (w : World) (S : List Nat) : (sans w S).heap.size = w.heap.size := by simp [sans]
theorem sans_get (w : World) (S : List Nat) (b : Nat) : (sans w S).heap[b]? = (w.heap[b]?).map fun o => if b ∈ S then .cells #[] 0 (0, 0) else o := by simp [sans]
theorem sans_in {w : World} {S : List Nat} {b : Nat} {cs : Array Value} {t : TypeId} {fr : Nat × Nat} (h : (sans w S).heap[b]? = some (.cells cs t fr)) (hc : cs ≠ #[]) : b ∉ S ∧ w.heap[b]? = some (.cells cs t fr) := by
  rw [sans_get] at h
  obtain ⟨o, ho, h⟩ := Option.map_eq_some_iff.1 h
  split at h
  · injection h with h; exact absurd h.symm hc
  · exact ⟨‹_›, ho.trans (congrArg some h)⟩
theorem sans_out {w : World} {S : List Nat} {b : Nat} (h : b ∉ S) : (sans w S).heap[b]? = w.heap[b]? := by
  rw [sans_get]; simp [h]
theorem kept_up (w : World) (S : List Nat) (B : Nat) : Kept (sans w S) w B := fun _ _ _ _ _ h hc => (sans_in h hc).2

/-- a world changed at the blocks of S alone (and new ones) -/
structure Out (S : List Nat) (w w' : World) : Prop where
  os : w'.os = w.os
  tape : w'.tape = w.tape
  output : w'.output = w.output
  size : w.heap.size ≤ w'.heap.size
  block : ∀ b, b < w.heap.size → b ∉ S → w'.heap[b]? = w.heap[b]?
theorem Out.of_below {w w' : World} (h : Below w.heap.size w w') (S : List Nat) : Out S w w' := ⟨h.os, h.tape, h.output, h.size, fun b hb _ => h.block b hb⟩
theorem Out.refl (S : List Nat) (w : World) : Out S w w := ⟨rfl, rfl, rfl, Nat.le_refl _, fun _ _ _ => rfl⟩
theorem Out.trans {S T : List Nat} {w w1 w2 : World} (h : Out S w w1) (h' : Out T w1 w2) (hT : ∀ b ∈ T, b < w.heap.size → b ∈ S) : Out S w w2 :=
  ⟨h'.os.trans h.os, h'.tape.trans h.tape, h'.output.trans h.output, Nat.le_trans h.size h'.size, fun b hb hS => (h'.block b (Nat.lt_of_lt_of_le hb h.size) (fun hb' => hS (hT b hb' hb))).trans (h.block b hb hS)⟩
theorem Out.mono {S T : List Nat} {w w' : World} (h : Out S w w') (hS : ∀ b ∈ S, b < w.heap.size → b ∈ T) : Out T w w' :=
  ⟨h.os, h.tape, h.output, h.size, fun b hb hb' => h.block b hb (fun hs => hb' (hS b hs hb))⟩
/-- nothing old has changed -/
theorem Out.below {S : List Nat} {w w' : World} {B : Nat} (h : Out S w w') (hS : ∀ b ∈ S, B ≤ b) (hB : B ≤ w.heap.size) : Below B w w' :=
  ⟨h.os, h.tape, h.output, h.size, fun b hb => h.block b (by omega) (fun hs => by have := hS b hs; omega)⟩

theorem Out.kept {S T U : List Nat} {w w' : World} (h : Out S w w') (hT : ∀ b ∈ S, b < w.heap.size → b ∈ T) (hU : ∀ b ∈ U, b < w.heap.size → b ∈ T) : Kept (sans w T) (sans w' U) w.heap.size := fun b hb cs t fr hcs hc => by
  obtain ⟨hn, hw⟩ := sans_in hcs hc
  rw [sans_out (fun hu => hn (hU b hu hb)), h.block b hb (fun hs => hn (hT b hs hb)), hw]

section
variable {α : Type} {E : Enc α} {w w' : World} {A : Option Addr} {n c : Nat} {l : List α}
/-- a slice that lies outside of S -/
def SliceFar (E : Enc α) (w : World) (S : List Nat) (A : Option Addr) (n c : Nat) (l : List α) : Prop := SliceIs E (sans w S) w.heap.size A n c l
theorem SliceFar.is {S : List Nat} (h : SliceFar E w S A n c l) : SliceIs E w w.heap.size A n c l := SliceIs.mono' h (Nat.le_refl _) (kept_up w S _)
theorem SliceFar.out {S T U : List Nat} (h : SliceFar E w T A n c l) (ho : Out S w w') (hT : ∀ b ∈ S, b < w.heap.size → b ∈ T) (hU : ∀ b ∈ U, b < w.heap.size → b ∈ T) : SliceFar E w' U A n c l :=
  SliceIs.mono' h ho.size (ho.kept hT hU)
/-- the same S, nothing old changed -/
theorem SliceFar.on {S : List Nat} (h : SliceFar E w S A n c l) (hb : Below w.heap.size w w') : SliceFar E w' S A n c l :=
  h.out (Out.of_below hb S) (fun _ hb _ => hb) (fun _ hb _ => hb)
theorem SliceFar.bound {S : List Nat} (h : SliceFar E w S A n c l) : n ≤ 140737488351232 := SliceIs.bound h
/-- what is older than S lies outside of it -/
theorem SliceFar.old {S : List Nat} {B : Nat} (h : SliceIs E w B A n c l) (hB : B ≤ w.heap.size) (hS : ∀ b ∈ S, B ≤ b) : SliceFar E w S A n c l :=
  SliceIs.mono' h hB fun b hb cs t fr hcs hc => by rw [sans_out (fun hs => by have := hS b hs; omega), hcs]
theorem SliceFar.nil {S : List Nat} : SliceFar E w S none 0 0 ([] : List α) := SliceIs.nil
end
end Go.Proofs.YtiffmiabhapfnaaGreatDoor

/- A range over a function, whose elements lie in memory that the function makes for each round. Nothing of any program. -/
namespace Go.Proofs.YtiffmiabhapfnaaGreatDoor
open Go.RowKit

theorem room_of_none {F : Fence} (hd : F.depth = none) (k : Nat) : F.room k := fun d h => by rw [hd] at h; cases h
theorem RoundIn.anyDepth {F : Fence} (hd : F.depth = none) {m m' : Nat} {P : Program} {l : Nat} {f : FuncId} {tmps : Array Value} {assign body : Code} {w : World} {R : Ending → World → Prop}
    (h : RoundIn F m P l f tmps assign body w R) : RoundIn F m' P l f tmps assign body w R := ⟨h.1, fun c cs _ => h.2 c cs (room_of_none hd _)⟩
theorem YieldAt.anyDepth {F : Fence} (hd : F.depth = none) {m : Nat} (m' : Nat) {P : Program} {l : Nat} {args : Array Value} {W : World} {R : Ending → World → Prop} (h : YieldAt F m P l args W R) : YieldAt F m' P l args W R := by
  obtain ⟨fn, tmps, assign, body, hy, hR⟩ := h
  exact ⟨fn, tmps, assign, body, hy, RoundIn.anyDepth hd hR⟩

/-- what lay stays, but for blocks from B on that hold no cells -/
structure Soft (B : Nat) (w w' : World) : Prop where
  os : w'.os = w.os
  tape : w'.tape = w.tape
  output : w'.output = w.output
  size : w.heap.size ≤ w'.heap.size
  same : ∀ b o, w.heap[b]? = some o → (b < B ∨ o.isCells = true) → w'.heap[b]? = some o
theorem Soft.refl (B : Nat) (w : World) : Soft B w w := ⟨rfl, rfl, rfl, Nat.le_refl _, fun _ _ h _ => h⟩
theorem Soft.trans {B : Nat} {w w1 w2 : World} (h : Soft B w w1) (k : Soft B w1 w2) : Soft B w w2 :=
  ⟨k.os.trans h.os, k.tape.trans h.tape, k.output.trans h.output, Nat.le_trans h.size k.size, fun b o hb ho => k.same b o (h.same b o hb ho) ho⟩
theorem Soft.of_below {w w' : World} (B : Nat) (h : Below w.heap.size w w') : Soft B w w' :=
  ⟨h.os, h.tape, h.output, h.size, fun b _ hb _ => (h.block b (Array.getElem?_eq_some_iff.1 hb).1).trans hb⟩
theorem Soft.putObj {B : Nat} {w : World} {l : Nat} {o : Obj} (o' : Obj) (hB : B ≤ l) (hl : w.heap[l]? = some o) (ho : o.isCells = false) : Soft B w (w.putObj l o') :=
  ⟨rfl, rfl, rfl, by simp [World.putObj], fun b x hb hx => by
    by_cases e : b = l
    · subst e
      rw [hl] at hb; injection hb with hb; subst hb
      rcases hx with hx | hx
      · omega
      · rw [ho] at hx; cases hx
    · exact (World.putObj_heap_other e).trans hb⟩
theorem Soft.below {B : Nat} {w w' : World} (h : Soft B w w') {A : Nat} (hA : A ≤ B) (hw : A ≤ w.heap.size) : Below A w w' :=
  ⟨h.os, h.tape, h.output, h.size, fun b hb => (h.same b _ (Array.getElem?_eq_getElem (by omega)) (.inl (by omega))).trans (Array.getElem?_eq_getElem (by omega)).symm⟩
theorem Soft.row {B : Nat} {w w' : World} (h : Soft B w w') {b : Nat} {cs : Array Value} {t : TypeId} {fr : Nat × Nat} (hb : w.heap[b]? = some (.cells cs t fr)) : w'.heap[b]? = some (.cells cs t fr) := h.same b _ hb (.inr rfl)
theorem Soft.kept {B : Nat} {w w' : World} (h : Soft B w w') (A : Nat) : Kept w w' A := fun _ _ _ _ _ hb _ => h.row hb
theorem Soft.kept' {B : Nat} {w w' : World} {S : List Nat} (h : Soft B w w') (A : Nat) : Kept (sans w S) (sans w' S) A := fun b _ _ _ _ hb hc => by
  obtain ⟨hn, hw⟩ := sans_in hb hc
  rw [sans_out hn]; exact h.row hw
theorem Soft.own {B : Nat} {w w' : World} (h : Soft B w w') {base e sz : Nat} {v : Value} {n : Nat} {xs : List Value} (ho : w.ownsRow base e sz v n xs) : w'.ownsRow base e sz v n xs := by
  refine ⟨ho.1, ?_⟩
  rcases ho.2 with hn | ⟨g, cap, cur, rfl, hg, hh, r⟩
  · exact .inl hn
  · exact .inr ⟨g, cap, cur, rfl, hg, h.row hh, r⟩
theorem SliceIs.soft {α : Type} {E : Enc α} {B : Nat} {w w' : World} {A : Option Addr} {n c : Nat} {l : List α} (h : SliceIs E w w.heap.size A n c l) (hs : Soft B w w') : SliceIs E w' w'.heap.size A n c l := h.mono' hs.size (hs.kept _)
theorem SliceFar.soft {α : Type} {E : Enc α} {B : Nat} {w w' : World} {S : List Nat} {A : Option Addr} {n c : Nat} {l : List α} (h : SliceFar E w S A n c l) (hs : Soft B w w') : SliceFar E w' S A n c l := SliceIs.mono' h hs.size (hs.kept' _)

/-- a round's word: below N the blocks of S alone have changed -/
structure Turn (S : List Nat) (N : Nat) (w w' : World) : Prop where
  os : w'.os = w.os
  tape : w'.tape = w.tape
  output : w'.output = w.output
  size : w.heap.size ≤ w'.heap.size
  block : ∀ b, b < N → b ∉ S → w'.heap[b]? = w.heap[b]?
theorem Turn.refl (S : List Nat) (N : Nat) (w : World) : Turn S N w w := ⟨rfl, rfl, rfl, Nat.le_refl _, fun _ _ _ => rfl⟩
theorem Turn.trans {S : List Nat} {N : Nat} {w w1 w2 : World} (h : Turn S N w w1) (k : Turn S N w1 w2) : Turn S N w w2 :=
  ⟨k.os.trans h.os, k.tape.trans h.tape, k.output.trans h.output, Nat.le_trans h.size k.size, fun b hb hS => (k.block b hb hS).trans (h.block b hb hS)⟩
theorem Turn.of_out {S T : List Nat} {N : Nat} {w w' : World} (h : Out T w w') (hN : N ≤ w.heap.size) (hT : ∀ b ∈ T, b ∈ S ∨ N ≤ b) : Turn S N w w' :=
  ⟨h.os, h.tape, h.output, h.size, fun b hb hS => h.block b (by omega) (fun hbT => by rcases hT b hbT with q | q; exact hS q; omega)⟩
theorem Turn.of_below {S : List Nat} {N : Nat} {w w' : World} (h : Below w.heap.size w w') (hN : N ≤ w.heap.size) : Turn S N w w' :=
  ⟨h.os, h.tape, h.output, h.size, fun b hb _ => h.block b (by omega)⟩

/-- how the body of a round may be left -/
def turnPost {α : Type} (S : List Nat) (N : Nat) (I : Nat → List α → World → Prop) (Ix : Code → Nat → List α → World → Prop) (xs : List α) (W : World) : Exit → Act → World → Prop
  | .normal, _, W' => Turn S N W W' ∧ I N xs W'
  | .ret, _, W' => Turn S N W W' ∧ Ix .ret N xs W'
  | .exit id, _, W' => Turn S N W W' ∧ Ix (.exit id) N xs W'
  | .goto t, _, W' => Turn S N W W' ∧ Ix (.goto t) N xs W'
  | .panic _, _, _ => False
  | .outgrown, _, _ => False

/-- the contract of an iterator: to each round it gives an element of which R holds, in memory that is new; it leans on what lay below N alone, but for the blocks of S₀ and the loop's record -/
def SeqR {α : Type} (P : Program) (g : Nat) (lb : Array Value) (encs : α → Array Value) (R : List α → α → Nat → World → Prop) (S₀ : List Nat) (S Sp : List α → Prop) (w : World) : Prop :=
  ∀ (l : Nat) (J Jx : Nat → List α → World → Prop) (W : World), Below w.heap.size w W → w.heap.size ≤ l → l < W.heap.size →
    (∀ N pre W1 W2, J N pre W1 → Below W1.heap.size W1 W2 → J N pre W2) →
    (∀ N W1, Below W.heap.size W W1 → W.heap.size ≤ N → N ≤ W1.heap.size → J N [] W1) →
    (∀ m N pre x W0 W1, J N pre W0 → Below W0.heap.size W0 W1 → R pre x W0.heap.size W1 → YieldAt Fence.wide m P l (encs x) W1 fun e W' =>
      (e = .returned (.bool true) ∧ J N (pre ++ [x]) W' ∧ W1.heap.size ≤ W'.heap.size ∧ ∀ b, b < N → b ∉ S₀ → b ≠ l → W'.heap[b]? = W1.heap[b]?) ∨ (e = .returned (.bool false) ∧ Jx N (pre ++ [x]) W')) →
    Calls P g (#[.func (.yield l) #[] #[]] ++ lb) W fun e W' => (∃ v, e = .returned v) ∧ ((∃ N xs, S xs ∧ J N xs W') ∨ (∃ N pre, Sp pre ∧ Jx N pre W'))

section
variable {n : Nat} {P : Program}
/-- the statement 'for x := range g { .. }' -/
theorem range_law {α : Type} {g : Operand} {ps : Array Tmp} {assign body : Code} {Q : Exit → Act → World → Prop} {a : Act} {w : World}
    {gf : Nat} {lb : Array Value} (hg : a.eval g = .func (.func gf) #[] lb) (eg : ∀ args w, (callFunc gf args).run P w = .ok (.enter gf args) w)
    {encs : α → Array Value} {R : List α → α → Nat → World → Prop} {S₀ : List Nat} {S Sp : List α → Prop} {w0 : World} (hseq : SeqR P gf lb encs R S₀ S Sp w0) (hb0 : Below w0.heap.size w0 w) (hS₀ : ∀ b ∈ S₀, b < w.heap.size) (hps : ∀ x, (encs x).size = ps.size)
    (hR : ∀ pre x base W W', R pre x base W → Soft w.heap.size W W' → R pre x base W')
    (I : Nat → List α → World → Prop) (Ix : Code → Nat → List α → World → Prop)
    (hI : ∀ N pre W W', I N pre W → Soft w.heap.size W W' → I N pre W') (hIx : ∀ c N pre W W', Ix c N pre W → Soft w.heap.size W W' → Ix c N pre W')
    (h0 : ∀ N W, Soft w.heap.size w W → w.heap.size + 2 ≤ N → N ≤ W.heap.size → I N [] W)
    (hround : ∀ (k N : Nat) (pre : List α) (x : α) (W0 W1 W2 : World) (K : Act → World → Prop), I N pre W0 → Soft w.heap.size W0 W2 → w.heap.size + 2 ≤ N → N ≤ W0.heap.size → R pre x W0.heap.size W2 →
      (∀ a', body.wpIn (Fence.wide.inRound (w.heap.size + 1)) k P (turnPost S₀ N I Ix (pre ++ [x]) W2) a' W2 → K a' W1) →
      assign.wpIn (Fence.wide.inRound (w.heap.size + 1)) k P (Exit.then K (fun _ _ _ => False)) { tmps := (ps.zip (encs x)).foldl (fun t (p, v) => t.setIfInBounds p v) a.tmps, defers := [] } W1)
    (hdone : ∀ (N : Nat) (xs : List α) (W : World), S xs → I N xs W → W.heap[w.heap.size]? = some (.deferred (some [])) → Q .normal { a with defers := { target := .collected w.heap.size, args := #[] } :: a.defers } W)
    (hstop : ∀ (c : Code) (N : Nat) (pre : List α) (W : World), Sp pre → Ix c N pre W → W.heap[w.heap.size]? = some (.deferred (some [])) → c.wpIn Fence.wide n P Q { a with defers := { target := .collected w.heap.size, args := #[] } :: a.defers } W) :
    (Code.rangeFunc g ps assign body).wpIn Fence.wide n P Q a w := by
  refine wpIn_rangeFunc fun fn _ => ?_
  obtain ⟨rec, hrec⟩ : ∃ rec : LoopState → Option Code → Loop, rec = fun st pe => { state := st, pending := pe, fn, tmps := a.tmps, params := ps, assign, body, defers := w.heap.size } := ⟨_, rfl⟩
  obtain ⟨W1, hW1⟩ : ∃ W1, (w.alloc (.deferred (some []))).alloc (.loop (rec .ready none)) = W1 := ⟨_, rfl⟩
  have hL1 : W1.heap[w.heap.size + 1]? = some (.loop (rec .ready none)) := by rw [← hW1]; exact heapNew (by simp)
  have hK1 : W1.heap[w.heap.size]? = some (.deferred (some [])) := by rw [← hW1]; exact heapOld (heapNew rfl)
  have hbw : Below w.heap.size w W1 := by rw [← hW1]; exact belowA (belowA (Below.refl _ _) _) _
  have hz1 : W1.heap.size = w.heap.size + 2 := by rw [← hW1]; simp
  have hb1 : Below w0.heap.size w0 W1 := hb0.trans (hbw.mono hb0.size)
  have hs0 := hb0.size
  refine ⟨w.heap.size + 1, [{ target := .collected w.heap.size, args := #[] }], W1, { target := .fn (.func gf) lb, args := #[.func (.yield (w.heap.size + 1)) #[] #[]] }, W1, gf,
    #[.func (.yield (w.heap.size + 1)) #[] #[]] ++ lb, W1, ?_, ?_, fun _ _ => trivial, ?_, fun h => (by cases h), ?_⟩
  · rw [← hW1, hrec]; exact run_enterLoop_outer _ _ _ _ _
  · simp only [resolve, hg]
    simp [go_sem]
  · simp [invoke, go_sem, eg]
  refine callsIn_wide.2 ((hseq (w.heap.size + 1)
    (fun N pre W => I N pre W ∧ W.heap[w.heap.size + 1]? = some (.loop (rec .ready none)) ∧ W.heap[w.heap.size]? = some (.deferred (some [])) ∧ w.heap.size + 2 ≤ N ∧ N ≤ W.heap.size)
    (fun N pre W => ∃ c, Ix c N pre W ∧ W.heap[w.heap.size + 1]? = some (.loop (rec .done (some c))) ∧ W.heap[w.heap.size]? = some (.deferred (some [])))
    W1 hb1 (by omega) (by omega) ?_ ?_ ?_).mono ?_)
  · rintro N pre A B ⟨h1, h2, h3, h4, h5⟩ hb
    have l2 := (Array.getElem?_eq_some_iff.1 h2).1
    exact ⟨hI _ _ _ _ h1 (Soft.of_below _ hb), (hb.block _ l2).trans h2, (hb.block _ (by omega)).trans h3, h4, Nat.le_trans h5 hb.size⟩
  · intro N W hb hN hN2
    have l2 := (Array.getElem?_eq_some_iff.1 hL1).1
    exact ⟨h0 N W ((Soft.of_below _ hbw).trans (Soft.of_below _ hb)) (by omega) hN2, (hb.block _ l2).trans hL1, (hb.block _ (by omega)).trans hK1, by omega, hN2⟩
  · -- one round
    rintro m N pre x W0 W ⟨hi, hl, hk, hN, hN2⟩ hbW hRx
    have l0 := (Array.getElem?_eq_some_iff.1 hl).1
    replace hl := (hbW.block _ l0).trans hl
    replace hk := (hbW.block _ (by omega)).trans hk
    have hsz := hbW.size
    have hy := run_yield (P := P) (args := encs x) hl (by rw [hrec]; exact hps x)
    have hfold : ((rec .ready none).params.zip (encs x)).foldl (fun tmps (t, a) => tmps.setIfInBounds t a) (rec .ready none).tmps = (ps.zip (encs x)).foldl (fun t (p, v) => t.setIfInBounds p v) a.tmps := by rw [hrec]
    refine ⟨_, _, _, _, hy, roundIn_of_wpIn trivial ?_⟩
    rw [hfold, show (rec .ready none).assign = assign by rw [hrec], show (rec .ready none).body = body by rw [hrec]]
    have hlt : w.heap.size + 1 < W.heap.size := by omega
    have hl2 : (W.putObj (w.heap.size + 1) (.loop { rec .ready none with state := .busy })).heap[w.heap.size + 1]? = some (.loop { rec .ready none with state := .busy }) := World.putObj_heap_same hlt
    have hk2 : (W.putObj (w.heap.size + 1) (.loop { rec .ready none with state := .busy })).heap[w.heap.size]? = some (.deferred (some [])) := (World.putObj_heap_other (by omega)).trans hk
    have hsoft : Soft w.heap.size W (W.putObj (w.heap.size + 1) (.loop { rec .ready none with state := .busy })) := Soft.putObj _ (by omega) hl rfl
    refine hround m N pre x W0 W (W.putObj (w.heap.size + 1) (.loop { rec .ready none with state := .busy })) _ hi ((Soft.of_below _ hbW).trans hsoft) hN hN2 (hR _ _ _ _ _ hRx hsoft) fun a' hbody => ?_
    refine ⟨_, run_beginRound hl (by rw [hrec]), ?_⟩
    refine wpIn_mono hbody ?_
    have hz2 : (W.putObj (w.heap.size + 1) (.loop { rec .ready none with state := .busy })).heap.size = W.heap.size := by simp [World.putObj]
    have fin : ∀ (jump : Option Code) (W3 : World), Turn S₀ N (W.putObj (w.heap.size + 1) (.loop { rec .ready none with state := .busy })) W3 →
        (Instr.endRound (w.heap.size + 1) jump).run P W3 = .ok (.bool jump.isNone) (W3.putObj (w.heap.size + 1) (.loop (rec (if jump.isNone then .ready else .done) jump))) ∧
        Soft w.heap.size W3 (W3.putObj (w.heap.size + 1) (.loop (rec (if jump.isNone then .ready else .done) jump))) ∧
        (W3.putObj (w.heap.size + 1) (.loop (rec (if jump.isNone then .ready else .done) jump))).heap[w.heap.size + 1]? = some (.loop (rec (if jump.isNone then .ready else .done) jump)) ∧
        (W3.putObj (w.heap.size + 1) (.loop (rec (if jump.isNone then .ready else .done) jump))).heap[w.heap.size]? = some (.deferred (some [])) ∧ W.heap.size ≤ (W3.putObj (w.heap.size + 1) (.loop (rec (if jump.isNone then .ready else .done) jump))).heap.size ∧
        ∀ b, b < N → b ∉ S₀ → b ≠ w.heap.size + 1 → (W3.putObj (w.heap.size + 1) (.loop (rec (if jump.isNone then .ready else .done) jump))).heap[b]? = W.heap[b]? := fun jump W3 ht => by
      have hnl : ∀ b, w.heap.size ≤ b → b ∉ S₀ := fun b hb hS => by have := hS₀ b hS; omega
      have hl3 := (ht.block _ (by omega) (hnl _ (by omega))).trans hl2
      have hk3 := (ht.block _ (by omega) (hnl _ (by omega))).trans hk2
      have he := run_endRound (P := P) jump hl3
      have hrr : ({ ({ rec .ready none with state := .busy } : Loop) with state := if jump.isNone then .ready else .done, pending := jump } : Loop) = rec (if jump.isNone then .ready else .done) jump := by rw [hrec]
      rw [hrr] at he
      have hzz : ∀ o, (W3.putObj (w.heap.size + 1) o).heap.size = W3.heap.size := fun o => by simp [World.putObj]
      refine ⟨he, Soft.putObj _ (by omega) hl3 rfl, World.putObj_heap_same (Array.getElem?_eq_some_iff.1 hl3).1, (World.putObj_heap_other (by omega)).trans hk3, by rw [hzz]; have := ht.size; omega, ?_⟩
      intro b hb hS hbl
      rw [World.putObj_heap_other hbl, ht.block b hb hS, World.putObj_heap_other hbl]
    rintro e a3 W3 hp
    cases e with
    | normal =>
      obtain ⟨ht, hi3⟩ := hp
      obtain ⟨hr, hs3, hl4, hk4, hz4, hbl⟩ := fin none W3 ht
      exact ⟨_, _, hr, .inl ⟨rfl, ⟨hI _ _ _ _ hi3 hs3, hl4, hk4, hN, by omega⟩, hz4, hbl⟩⟩
    | ret =>
      obtain ⟨ht, hi3⟩ := hp
      obtain ⟨hr, hs3, hl4, hk4, hz4, hbl⟩ := fin (some .ret) W3 ht
      exact ⟨_, _, hr, .inr ⟨rfl, .ret, hIx _ _ _ _ _ hi3 hs3, hl4, hk4⟩⟩
    | exit id =>
      obtain ⟨ht, hi3⟩ := hp
      obtain ⟨hr, hs3, hl4, hk4, hz4, hbl⟩ := fin (some (.exit id)) W3 ht
      exact ⟨_, _, hr, .inr ⟨rfl, .exit id, hIx _ _ _ _ _ hi3 hs3, hl4, hk4⟩⟩
    | goto t =>
      obtain ⟨ht, hi3⟩ := hp
      obtain ⟨hr, hs3, hl4, hk4, hz4, hbl⟩ := fin (some (.goto t)) W3 ht
      exact ⟨_, _, hr, .inr ⟨rfl, .goto t, hIx _ _ _ _ _ hi3 hs3, hl4, hk4⟩⟩
    | panic ch => exact hp.elim
    | outgrown => exact hp.elim
  · -- behind the iterator
    rintro e W2 ⟨⟨v, rfl⟩, (⟨N, xs, hS, hi, hl, hk, -, -⟩ | ⟨N, pre, hSp, c, hi, hl, hk⟩)⟩
    · exact ⟨none, _, by have := run_endLoop (P := P) hl (by rw [hrec]; simp); rw [hrec] at this; exact this, hdone N xs _ hS (hI _ _ _ _ hi (Soft.putObj _ (by omega) hl rfl)) ((World.putObj_heap_other (by omega)).trans hk)⟩
    · exact ⟨some c, _, by have := run_endLoop (P := P) hl (by rw [hrec]; simp); rw [hrec] at this; exact this, hstop c N pre _ hSp (hIx _ _ _ _ _ hi (Soft.putObj _ (by omega) hl rfl)) ((World.putObj_heap_other (by omega)).trans hk)⟩
end
end Go.Proofs.YtiffmiabhapfnaaGreatDoor

/- A second law of a range over a function: besides what XRange's says, a round leaves alone what the iterator has made since the last one. No program. -/
namespace Go.Proofs.YtiffmiabhapfnaaGreatDoor
open Go.RowKit
/-- a round's word: below N, and from B0 on among the old ones, the blocks of S alone have changed -/
structure Turn2 (S : List Nat) (N B0 : Nat) (w w' : World) : Prop where
  os : w'.os = w.os
  tape : w'.tape = w.tape
  output : w'.output = w.output
  size : w.heap.size ≤ w'.heap.size
  block : ∀ b, b < N → b ∉ S → w'.heap[b]? = w.heap[b]?
  fresh : ∀ b, B0 ≤ b → b < w.heap.size → w'.heap[b]? = w.heap[b]?
theorem Turn2.of_out {S T : List Nat} {N B0 : Nat} {w w' : World} (h : Out T w w') (hN : N ≤ w.heap.size) (hT : ∀ b ∈ T, b < w.heap.size → (b ∈ S ∨ N ≤ b) ∧ b < B0) : Turn2 S N B0 w w' :=
  ⟨h.os, h.tape, h.output, h.size, fun b hb hS => h.block b (by omega) (fun hbT => by rcases (hT b hbT (by omega)).1 with q | q; exact hS q; omega), fun b hb hbl => h.block b hbl (fun hbT => by have := (hT b hbT hbl).2; omega)⟩
theorem Turn2.of_below {S : List Nat} {N B0 : Nat} {w w' : World} (h : Below w.heap.size w w') (hN : N ≤ w.heap.size) : Turn2 S N B0 w w' :=
  ⟨h.os, h.tape, h.output, h.size, fun b hb _ => h.block b (by omega), fun b _ hb => h.block b hb⟩

/-- how the body of a round may be left -/
def turnPost2 {α : Type} (S : List Nat) (N B0 : Nat) (I : Nat → List α → World → Prop) (Ix : Code → Nat → List α → World → Prop) (xs : List α) (W : World) : Exit → Act → World → Prop
  | .normal, _, W' => Turn2 S N B0 W W' ∧ I N xs W'
  | .ret, _, W' => Turn2 S N B0 W W' ∧ Ix .ret N xs W'
  | .exit id, _, W' => Turn2 S N B0 W W' ∧ Ix (.exit id) N xs W'
  | .goto t, _, W' => Turn2 S N B0 W W' ∧ Ix (.goto t) N xs W'
  | .panic _, _, _ => False
  | .outgrown, _, _ => False

/-- the contract of an iterator: to each round it gives an element of which R holds, in memory that is new; it leans on what lay below N alone, but for the blocks of S₀ and the loop's record -/
def SeqR2 {α : Type} (P : Program) (g : Nat) (lb : Array Value) (encs : α → Array Value) (R : List α → α → Nat → World → Prop) (S₀ : List Nat) (S Sp : List α → Prop) (w : World) : Prop :=
  ∀ (l : Nat) (J Jx : Nat → List α → World → Prop) (W : World), Below w.heap.size w W → w.heap.size ≤ l → l < W.heap.size →
    (∀ N pre W1 W2, J N pre W1 → Below W1.heap.size W1 W2 → J N pre W2) →
    (∀ N W1, Below W.heap.size W W1 → W.heap.size ≤ N → N ≤ W1.heap.size → J N [] W1) →
    (∀ m N pre x W0 W1, J N pre W0 → Below W0.heap.size W0 W1 → R pre x W0.heap.size W1 → YieldAt Fence.wide m P l (encs x) W1 fun e W' =>
      (e = .returned (.bool true) ∧ J N (pre ++ [x]) W' ∧ W1.heap.size ≤ W'.heap.size ∧ (∀ b, b < N → b ∉ S₀ → b ≠ l → W'.heap[b]? = W1.heap[b]?) ∧ ∀ b, W0.heap.size ≤ b → b < W1.heap.size → W'.heap[b]? = W1.heap[b]?) ∨ (e = .returned (.bool false) ∧ Jx N (pre ++ [x]) W')) →
    Calls P g (#[.func (.yield l) #[] #[]] ++ lb) W fun e W' => (∃ v, e = .returned v) ∧ ((∃ N xs, S xs ∧ J N xs W') ∨ (∃ N pre, Sp pre ∧ Jx N pre W'))

section
variable {n : Nat} {P : Program}
/-- the statement 'for x := range g { .. }' -/
theorem range_law2 {α : Type} {g : Operand} {ps : Array Tmp} {assign body : Code} {Q : Exit → Act → World → Prop} {a : Act} {w : World}
    {gf : Nat} {lb : Array Value} (hg : a.eval g = .func (.func gf) #[] lb) (eg : ∀ args w, (callFunc gf args).run P w = .ok (.enter gf args) w)
    {encs : α → Array Value} {R : List α → α → Nat → World → Prop} {S₀ : List Nat} {S Sp : List α → Prop} {w0 : World} (hseq : SeqR2 P gf lb encs R S₀ S Sp w0) (hb0 : Below w0.heap.size w0 w) (hS₀ : ∀ b ∈ S₀, b < w.heap.size) (hps : ∀ x, (encs x).size = ps.size)
    (I : Nat → List α → World → Prop) (Ix : Code → Nat → List α → World → Prop)
    (hI : ∀ N pre W W', I N pre W → Soft w.heap.size W W' → I N pre W') (hIx : ∀ c N pre W W', Ix c N pre W → Soft w.heap.size W W' → Ix c N pre W')
    (h0 : ∀ N W, Soft w.heap.size w W → w.heap.size + 2 ≤ N → N ≤ W.heap.size → I N [] W)
    (hround : ∀ (k N : Nat) (pre : List α) (x : α) (W0 W1 : World) (K : Act → World → Prop), I N pre W0 → Soft w.heap.size W0 W1 → w.heap.size + 2 ≤ N → N ≤ W0.heap.size → W0.heap.size ≤ W1.heap.size → R pre x W0.heap.size W1 →
      (∀ a' W1', Below W1.heap.size W1 W1' → (∀ W2, Soft w.heap.size W1' W2 → W2.heap.size = W1'.heap.size → body.wpIn (Fence.wide.inRound (w.heap.size + 1)) k P (turnPost2 S₀ N W0.heap.size I Ix (pre ++ [x]) W2) a' W2) → K a' W1') →
      assign.wpIn (Fence.wide.inRound (w.heap.size + 1)) k P (Exit.then K (fun _ _ _ => False)) { tmps := (ps.zip (encs x)).foldl (fun t (p, v) => t.setIfInBounds p v) a.tmps, defers := [] } W1)
    (hdone : ∀ (N : Nat) (xs : List α) (W : World), S xs → I N xs W → W.heap[w.heap.size]? = some (.deferred (some [])) → Q .normal { a with defers := { target := .collected w.heap.size, args := #[] } :: a.defers } W)
    (hstop : ∀ (c : Code) (N : Nat) (pre : List α) (W : World), Sp pre → Ix c N pre W → W.heap[w.heap.size]? = some (.deferred (some [])) → c.wpIn Fence.wide n P Q { a with defers := { target := .collected w.heap.size, args := #[] } :: a.defers } W) :
    (Code.rangeFunc g ps assign body).wpIn Fence.wide n P Q a w := by
  refine wpIn_rangeFunc fun fn _ => ?_
  obtain ⟨rec, hrec⟩ : ∃ rec : LoopState → Option Code → Loop, rec = fun st pe => { state := st, pending := pe, fn, tmps := a.tmps, params := ps, assign, body, defers := w.heap.size } := ⟨_, rfl⟩
  obtain ⟨W1, hW1⟩ : ∃ W1, (w.alloc (.deferred (some []))).alloc (.loop (rec .ready none)) = W1 := ⟨_, rfl⟩
  have hL1 : W1.heap[w.heap.size + 1]? = some (.loop (rec .ready none)) := by rw [← hW1]; exact heapNew (by simp)
  have hK1 : W1.heap[w.heap.size]? = some (.deferred (some [])) := by rw [← hW1]; exact heapOld (heapNew rfl)
  have hbw : Below w.heap.size w W1 := by rw [← hW1]; exact belowA (belowA (Below.refl _ _) _) _
  have hz1 : W1.heap.size = w.heap.size + 2 := by rw [← hW1]; simp
  have hb1 : Below w0.heap.size w0 W1 := hb0.trans (hbw.mono hb0.size)
  have hs0 := hb0.size
  refine ⟨w.heap.size + 1, [{ target := .collected w.heap.size, args := #[] }], W1, { target := .fn (.func gf) lb, args := #[.func (.yield (w.heap.size + 1)) #[] #[]] }, W1, gf,
    #[.func (.yield (w.heap.size + 1)) #[] #[]] ++ lb, W1, ?_, ?_, fun _ _ => trivial, ?_, fun h => (by cases h), ?_⟩
  · rw [← hW1, hrec]; exact run_enterLoop_outer _ _ _ _ _
  · simp only [resolve, hg]
    simp [go_sem]
  · simp [invoke, go_sem, eg]
  refine callsIn_wide.2 ((hseq (w.heap.size + 1)
    (fun N pre W => I N pre W ∧ W.heap[w.heap.size + 1]? = some (.loop (rec .ready none)) ∧ W.heap[w.heap.size]? = some (.deferred (some [])) ∧ w.heap.size + 2 ≤ N ∧ N ≤ W.heap.size)
    (fun N pre W => ∃ c, Ix c N pre W ∧ W.heap[w.heap.size + 1]? = some (.loop (rec .done (some c))) ∧ W.heap[w.heap.size]? = some (.deferred (some [])))
    W1 hb1 (by omega) (by omega) ?_ ?_ ?_).mono ?_)
  · rintro N pre A B ⟨h1, h2, h3, h4, h5⟩ hb
    have l2 := (Array.getElem?_eq_some_iff.1 h2).1
    exact ⟨hI _ _ _ _ h1 (Soft.of_below _ hb), (hb.block _ l2).trans h2, (hb.block _ (by omega)).trans h3, h4, Nat.le_trans h5 hb.size⟩
  · intro N W hb hN hN2
    have l2 := (Array.getElem?_eq_some_iff.1 hL1).1
    exact ⟨h0 N W ((Soft.of_below _ hbw).trans (Soft.of_below _ hb)) (by omega) hN2, (hb.block _ l2).trans hL1, (hb.block _ (by omega)).trans hK1, by omega, hN2⟩
  · -- one round
    rintro m N pre x W0 W ⟨hi, hl, hk, hN, hN2⟩ hbW hRx
    have l0 := (Array.getElem?_eq_some_iff.1 hl).1
    replace hl := (hbW.block _ l0).trans hl
    replace hk := (hbW.block _ (by omega)).trans hk
    have hsz := hbW.size
    have hy := run_yield (P := P) (args := encs x) hl (by rw [hrec]; exact hps x)
    have hfold : ((rec .ready none).params.zip (encs x)).foldl (fun tmps (t, a) => tmps.setIfInBounds t a) (rec .ready none).tmps = (ps.zip (encs x)).foldl (fun t (p, v) => t.setIfInBounds p v) a.tmps := by rw [hrec]
    refine ⟨_, _, _, _, hy, roundIn_of_wpIn trivial ?_⟩
    rw [hfold, show (rec .ready none).assign = assign by rw [hrec], show (rec .ready none).body = body by rw [hrec]]
    have hlt : w.heap.size + 1 < W.heap.size := by omega
    refine hround m N pre x W0 W _ hi (Soft.of_below _ hbW) hN hN2 hsz hRx fun a' V hVb hbody0 => ?_
    have hVs := hVb.size
    have hlV := (hVb.block _ hlt).trans hl
    have hkV := (hVb.block _ (by omega)).trans hk
    have hl2 : (V.putObj (w.heap.size + 1) (.loop { rec .ready none with state := .busy })).heap[w.heap.size + 1]? = some (.loop { rec .ready none with state := .busy }) := World.putObj_heap_same (by omega)
    have hk2 : (V.putObj (w.heap.size + 1) (.loop { rec .ready none with state := .busy })).heap[w.heap.size]? = some (.deferred (some [])) := (World.putObj_heap_other (by omega)).trans hkV
    have hsoft : Soft w.heap.size V (V.putObj (w.heap.size + 1) (.loop { rec .ready none with state := .busy })) := Soft.putObj _ (by omega) hlV rfl
    have hz2 : (V.putObj (w.heap.size + 1) (.loop { rec .ready none with state := .busy })).heap.size = V.heap.size := by simp [World.putObj]
    have hbody := hbody0 _ hsoft hz2
    refine ⟨_, run_beginRound hlV (by rw [hrec]), ?_⟩
    refine wpIn_mono hbody ?_
    have fin : ∀ (jump : Option Code) (W3 : World), Turn2 S₀ N W0.heap.size (V.putObj (w.heap.size + 1) (.loop { rec .ready none with state := .busy })) W3 →
        (Instr.endRound (w.heap.size + 1) jump).run P W3 = .ok (.bool jump.isNone) (W3.putObj (w.heap.size + 1) (.loop (rec (if jump.isNone then .ready else .done) jump))) ∧
        Soft w.heap.size W3 (W3.putObj (w.heap.size + 1) (.loop (rec (if jump.isNone then .ready else .done) jump))) ∧
        (W3.putObj (w.heap.size + 1) (.loop (rec (if jump.isNone then .ready else .done) jump))).heap[w.heap.size + 1]? = some (.loop (rec (if jump.isNone then .ready else .done) jump)) ∧
        (W3.putObj (w.heap.size + 1) (.loop (rec (if jump.isNone then .ready else .done) jump))).heap[w.heap.size]? = some (.deferred (some [])) ∧ W.heap.size ≤ (W3.putObj (w.heap.size + 1) (.loop (rec (if jump.isNone then .ready else .done) jump))).heap.size ∧
        (∀ b, b < N → b ∉ S₀ → b ≠ w.heap.size + 1 → (W3.putObj (w.heap.size + 1) (.loop (rec (if jump.isNone then .ready else .done) jump))).heap[b]? = W.heap[b]?) ∧ ∀ b, W0.heap.size ≤ b → b < W.heap.size → (W3.putObj (w.heap.size + 1) (.loop (rec (if jump.isNone then .ready else .done) jump))).heap[b]? = W.heap[b]? := fun jump W3 ht => by
      have hnl : ∀ b, w.heap.size ≤ b → b ∉ S₀ := fun b hb hS => by have := hS₀ b hS; omega
      have hl3 := (ht.block _ (by omega) (hnl _ (by omega))).trans hl2
      have hk3 := (ht.block _ (by omega) (hnl _ (by omega))).trans hk2
      have he := run_endRound (P := P) jump hl3
      have hrr : ({ ({ rec .ready none with state := .busy } : Loop) with state := if jump.isNone then .ready else .done, pending := jump } : Loop) = rec (if jump.isNone then .ready else .done) jump := by rw [hrec]
      rw [hrr] at he
      have hzz : ∀ o, (W3.putObj (w.heap.size + 1) o).heap.size = W3.heap.size := fun o => by simp [World.putObj]
      refine ⟨he, Soft.putObj _ (by omega) hl3 rfl, World.putObj_heap_same (Array.getElem?_eq_some_iff.1 hl3).1, (World.putObj_heap_other (by omega)).trans hk3, by rw [hzz]; have := ht.size; omega, ?_, ?_⟩
      · intro b hb hS hbl
        rw [World.putObj_heap_other hbl, ht.block b hb hS, World.putObj_heap_other hbl, hVb.block b (by omega)]
      · intro b hb hbl
        have hne : b ≠ w.heap.size + 1 := by omega
        rw [World.putObj_heap_other hne, ht.fresh b hb (by rw [hz2]; omega), World.putObj_heap_other hne, hVb.block b hbl]
    rintro e a3 W3 hp
    cases e with
    | normal =>
      obtain ⟨ht, hi3⟩ := hp
      obtain ⟨hr, hs3, hl4, hk4, hz4, hbl⟩ := fin none W3 ht
      exact ⟨_, _, hr, .inl ⟨rfl, ⟨hI _ _ _ _ hi3 hs3, hl4, hk4, hN, by omega⟩, hz4, hbl⟩⟩
    | ret =>
      obtain ⟨ht, hi3⟩ := hp
      obtain ⟨hr, hs3, hl4, hk4, hz4, hbl⟩ := fin (some .ret) W3 ht
      exact ⟨_, _, hr, .inr ⟨rfl, .ret, hIx _ _ _ _ _ hi3 hs3, hl4, hk4⟩⟩
    | exit id =>
      obtain ⟨ht, hi3⟩ := hp
      obtain ⟨hr, hs3, hl4, hk4, hz4, hbl⟩ := fin (some (.exit id)) W3 ht
      exact ⟨_, _, hr, .inr ⟨rfl, .exit id, hIx _ _ _ _ _ hi3 hs3, hl4, hk4⟩⟩
    | goto t =>
      obtain ⟨ht, hi3⟩ := hp
      obtain ⟨hr, hs3, hl4, hk4, hz4, hbl⟩ := fin (some (.goto t)) W3 ht
      exact ⟨_, _, hr, .inr ⟨rfl, .goto t, hIx _ _ _ _ _ hi3 hs3, hl4, hk4⟩⟩
    | panic ch => exact hp.elim
    | outgrown => exact hp.elim
  · -- behind the iterator
    rintro e W2 ⟨⟨v, rfl⟩, (⟨N, xs, hS, hi, hl, hk, -, -⟩ | ⟨N, pre, hSp, c, hi, hl, hk⟩)⟩
    · exact ⟨none, _, by have := run_endLoop (P := P) hl (by rw [hrec]; simp); rw [hrec] at this; exact this, hdone N xs _ hS (hI _ _ _ _ hi (Soft.putObj _ (by omega) hl rfl)) ((World.putObj_heap_other (by omega)).trans hk)⟩
    · exact ⟨some c, _, by have := run_endLoop (P := P) hl (by rw [hrec]; simp); rw [hrec] at this; exact this, hstop c N pre _ hSp (hIx _ _ _ _ _ hi (Soft.putObj _ (by omega) hl rfl)) ((World.putObj_heap_other (by omega)).trans hk)⟩
end
end Go.Proofs.YtiffmiabhapfnaaGreatDoor

/- Plain laws on worlds and rows, where the seat has not the relation's texts. No program. -/
namespace Go.Proofs.YtiffmiabhapfnaaGreatDoor
open Go.RowKit

theorem own_out' {w w' : World} {S : List Nat} {base e sz : Nat} {v : Value} {n : Nat} {xs : List Value} (h : w.ownsRow base e sz v n xs) (ho : Out S w w') (hS : ∀ b, v.ownBlock = some b → b ∉ S) : w'.ownsRow base e sz v n xs := by
  refine ⟨h.1, ?_⟩
  rcases h.2 with hn | ⟨g, cap, cur, rfl, hg, hh, r⟩
  · exact .inl hn
  · exact .inr ⟨g, cap, cur, rfl, hg, (ho.block g (Array.getElem?_eq_some_iff.1 hh).1 (hS g rfl)).trans hh, r⟩
theorem own_blk {w : World} {base e sz : Nat} {v : Value} {n : Nat} {xs : List Value} (h : w.ownsRow base e sz v n xs) {b : Nat} (hb : v.ownBlock = some b) : base ≤ b ∧ b < w.heap.size := by
  rcases h.2 with ⟨hn, _⟩ | ⟨g, cap, cur, rfl, hg, hh, r⟩
  · rw [hn] at hb; cases hb
  · injection hb with hb; subst hb; exact ⟨hg, (Array.getElem?_eq_some_iff.1 hh).1⟩
theorem set_one {W : World} {g e : Nat} {a b v : Value} (h : W.heap[g]? = some (.cells #[a, b] e (0, 0))) : (W.setCell ⟨g, 1, none⟩ v).heap[g]? = some (.cells #[a, v] e (0, 0)) := by
  simp [World.setCell, Array.getElem?_modify, h]
theorem set_zero {W : World} {g e : Nat} {a v : Value} (h : W.heap[g]? = some (.cells #[a] e (0, 0))) : (W.setCell ⟨g, 0, none⟩ v).heap[g]? = some (.cells #[v] e (0, 0)) := by
  simp [World.setCell, Array.getElem?_modify, h]
theorem World.heap_setCells_other' {W : World} {g i b : Nat} {v : Value} (h : b ≠ g) : (W.setCell ⟨g, i, none⟩ v).heap[b]? = W.heap[b]? := by
  simp [World.setCell, Array.getElem?_modify, Ne.symm h]
theorem World.size_setCell' {W : World} {a : Addr} {v : Value} : (W.setCell a v).heap.size = W.heap.size := by
  simp [World.setCell]
theorem set_out (W : World) (g i : Nat) (v : Value) : Out [g] W (W.setCell ⟨g, i, none⟩ v) :=
  ⟨rfl, rfl, rfl, by rw [World.size_setCell']; exact Nat.le_refl _, fun b _ hb => World.heap_setCells_other' (by simpa using hb)⟩
theorem grown_out {w w' : World} {row : Option Nat} (h : w.grownBy w' row) : Out row.toList w w' :=
  ⟨h.os, h.tape, h.output, h.size, fun b hb hr => h.block b hb (fun e => hr (by simp [← e]))⟩
end Go.Proofs.YtiffmiabhapfnaaGreatDoor

/- A drawn region that copies one more struct into a slice in a field: 'out.f = append(out.f, copy(k))'. Nothing of any program. -/
namespace Go.Proofs.YtiffmiabhapfnaaGreatDoor
open Go.RowKit

section
variable {P : Program}
/-- where the grown slice lies: in its row, or in a new one -/
theorem append_blk {w : World} {base t ty e size bytes : Nat} {i : TypeInfo} {z : Value} (ht : P.underlying t = some (.slice e)) (hi : P.info? e = some i) (hz : i.zero = some z) (hsize : i.size = size) (hby : i.bytes = bytes) (hsz : 0 < size)
    {v : Value} {n : Nat} {xs : List Value} (hown : w.ownsRow base e size v n xs) {a : Addr} {m c : Nat} {news : List Value} (hl : news.length = m * size) (hnews : ∀ j u, news[j]? = some u → w.cell? (a.add j) = some u) (h1 : ∀ u ∈ news, u.oneCell' = true)
    (h63 : n + m ≤ maxLen) (hbytes : (n + m) * bytes ≤ 140737488355328) {v' : Value} {w' : World} (hrun : (Builtin.append_ #[t, t] ty #[v, .slice (some a) m c]).run P w = .ok v' w') :
    ∀ b, v'.ownBlock = some b → v.ownBlock = some b ∨ w.heap.size ≤ b := by
  subst hsize
  subst hby
  have hsmall : n + m ≤ 9223372036854775807 := by simp only [maxLen] at h63; omega
  rcases hown.2 with ⟨rfl, rfl⟩ | ⟨g, cap, cur, rfl, hbg, hg, hnc, hcm, hcs, htake⟩
  · have hx : xs = [] := List.eq_nil_of_length_eq_zero (by simpa using hown.1)
    subst hx
    by_cases hm : m = 0
    · subst hm
      have hn : news = [] := List.eq_nil_of_length_eq_zero (by simpa using hl)
      subst hn
      have hr : (Builtin.append_ #[t, t] ty #[.slice none 0 0, .slice (some a) 0 c]).run P w = .ok (.slice none 0 0) w := by
        simp [Builtin.append_, run_underlying ht, sizeOf, typeInfo, hi, Builtin.lenOf, Builtin.firstCells, loadCells, loadCellsFrom]
      rw [hr] at hrun
      injection hrun with h2 h3
      subst h2
      intro b hb; cases hb
    · have hr := run_append_nil (P := P) w t ty e i z ht hi hz a m c news hl hnews (by omega) (by omega) (by have hb := hbytes; simp only [Nat.zero_add] at hb; omega)
      rw [hr] at hrun
      injection hrun with h2 h3
      subst h2
      intro b hb
      right
      simp [Value.ownBlock] at hb
      omega
  · by_cases hroom : n + m ≤ cap
    · have hfit : n * i.size + news.length ≤ cur.size := by rw [hl, hcs, ← Nat.add_mul]; exact Nat.mul_le_mul_right _ hroom
      have hr := run_append_room (P := P) w t ty e i ht hi g n cap cur hg a m c news hl hnews h1 hroom hfit
      rw [hr] at hrun
      injection hrun with h2 h3
      subst h2
      intro b hb
      left
      simpa [Value.ownBlock] using hb
    · have holds : ∀ j u, xs[j]? = some u → w.cell? ((⟨g, 0, none⟩ : Addr).add j) = some u := hown.cells (g := g) rfl
      have hr := run_append_grow (P := P) w t ty e i z ht hi hz ⟨g, 0, none⟩ n cap xs hown.1 holds a m c news hl hnews (by omega) (by omega) (growslice_fits (by omega) hbytes)
      rw [hr] at hrun
      injection hrun with h2 h3
      subst h2
      intro b hb
      right
      simp [Value.ownBlock] at hb
      omega
/-- one more element -/
theorem push_more (w : World) {base t ty e size bytes : Nat} {z : Value} (ht : P.underlying t = some (.slice e)) (hi : (P.info? e).map (fun i => (i.zero, i.size, i.bytes)) = some (some z, size, bytes))
    (hzs : z.cells.size = size) (hsz : 0 < size) {A : Option Addr} {n c : Nat} {xs : List Value} (hown : w.ownsRow base e size (.slice A n c) n xs) (g : Nat) (cs : List Value) (hl : cs.length = size) (hg : w.heap[g]? = some (.cells cs.toArray e (0, 0))) (h1 : ∀ u ∈ cs, u.oneCell' = true)
    (h63 : n + 1 ≤ maxLen) (hbytes : (n + 1) * bytes ≤ 140737488355328) (hbase : base ≤ w.heap.size) :
    ∃ A' c' w', (Builtin.append_ #[t, t] ty #[.slice A n c, .slice (some ⟨g, 0, none⟩) 1 1]).run P w = .ok (.slice A' (n + 1) c') w' ∧ w'.ownsRow base e size (.slice A' (n + 1) c') (n + 1) (xs ++ cs) ∧ Out (Value.slice A n c).ownBlock.toList w w' ∧
      (∀ b, (Value.slice A' (n + 1) c').ownBlock = some b → (Value.slice A n c).ownBlock = some b ∨ w.heap.size ≤ b) := by
  obtain ⟨v', w', h2, h3, h4, h5⟩ := run_push_at (P := P) (ty := ty) w ht hi hzs hsz hown g cs hl hg h1 h63 hbytes hbase
  obtain ⟨A', c', rfl⟩ := own_form h3
  obtain ⟨i, hi', hz, hs, hb⟩ := info_parts hi
  have hnews : ∀ j u, cs[j]? = some u → w.cell? ((⟨g, 0, none⟩ : Addr).add j) = some u := by
    intro j u hu
    have hadd : (⟨g, 0, none⟩ : Addr).add j = ⟨g, j, none⟩ := by unfold Addr.add; split <;> simp_all
    rw [hadd, cell_of_row _ g j cs.toArray e (0, 0) hg]
    simpa using hu
  exact ⟨A', c', w', h2, h3, grown_out h4, append_blk ht hi' hz hs hb hsz hown (by rw [hl]; omega) hnews h1 h63 hbytes h2⟩
/-- an operation that yields a value and leaves the world as it is -/
theorem op_val {o : Oper} {a : Act} {w : World} {K : Act → World → Prop} {Q : Exit → Act → World → Prop} (v : Value) (h : (execOp a.eval o).run P w = .ok (.value v) w) (hk : K (a.put o.dst v) w) : o.wp P a w K Q := by
  unfold Oper.wp
  rw [h]
  exact hk
theorem op_skip {o : Oper} {a : Act} {w w' : World} {K : Act → World → Prop} {Q : Exit → Act → World → Prop} (h : (execOp a.eval o).run P w = .ok .skip w') (hk : K (a.put o.dst undef) w') : o.wp P a w K Q := by
  unfold Oper.wp
  rw [h]
  exact hk
theorem op_append {w w' : World} {o : Oper} {a : Act} {K : Act → World → Prop} {Q : Exit → Act → World → Prop} {v' : Value} (s x : Operand) (t : TypeId)
    (ho : o.op = .call { callee := .builtin .append, args := #[s, x], argTypes := #[t, t] }) (v xv : Value) (hs : a.eval s = v) (hx : a.eval x = xv)
    (hrun : (Builtin.append_ #[t, t] o.type #[v, xv]).run P w = .ok v' w') (h : K (a.put o.dst v') w') : o.wp P a w K Q := by
  unfold Oper.wp execOp
  simp only [ho, resolve, invoke, builtin, Sem.run_bind, Sem.run_pure, Result.andThen_ok, List.map_toArray, List.map_cons, List.map_nil, hs, hx, hrun]
  exact h
theorem run_load1 {w : World} {ty e : TypeId} {a : Addr} {v : Value} (hu : P.underlying ty = some (.slice e)) (h : w.cell? a = some v) : (Instr.loadAt ty (.pointer (some a))).run P w = .ok v w := by
  have hagg : (isAgg ty).run P w = .ok false w := by
    unfold isAgg
    rw [Sem.run_bind, run_underlying hu w]
    rfl
  simp [Instr.loadAt, Instr.sureAddr, loadVar, hagg, go_sem, h]
theorem run_store1 {w : World} {ty : TypeId} {g q : Nat} {A : Option Addr} {n c : Nat} {cs : Array Value} {t : TypeId} (hi : (P.info? ty).map (·.size) = some 1) (hg : w.heap[g]? = some (.cells cs t (0, 0))) (hq : q < cs.size) : (Instr.storeAt ty (.pointer (some ⟨g, q, none⟩)) (.slice A n c)).run P w = .ok () (w.setCell ⟨g, q, none⟩ (.slice A n c)) := by
  obtain ⟨i, hi1, hi2⟩ := Option.map_eq_some_iff.1 hi
  have h1 : w.cell? ⟨g, q, none⟩ = some cs[q] := by rw [cell_of_row _ _ _ _ _ _ hg]; simp [hq]
  have h2 : w.frozen? ⟨g, q, none⟩ = false := frozen_of_row _ _ _ _ _ hg
  simp [Instr.storeAt, Instr.sureAddr, storeVar, sizeOf, typeInfo, hi1, hi2, go_sem, h1, h2]

theorem own_typeR {w : World} {base e sz : Nat} {v : Value} {n : Nat} {xs : List Value} (h : w.ownsRow base e sz v n xs) {b : Nat} (hb : v.ownBlock = some b) : ∃ cur, w.heap[b]? = some (.cells cur e (0, 0)) := by
  rcases h.2 with ⟨hn, _⟩ | ⟨g, cap, cur, rfl, hg, hh, r⟩
  · rw [hn] at hb; cases hb
  · injection hb with hb; subst hb; exact ⟨cur, hh⟩
theorem range_rowR {w : World} {g : Nat} {T : TypeId} {cs : List Value} (h : w.heap[g]? = some (.cells cs.toArray T (0, 0))) : w.rangeAt g 0 cs := fun j v hj => by
  rw [cell_of_row _ _ _ _ _ _ h]; simpa using hj
theorem below_nextR {w W w1 : World} (h : Below w.heap.size w W) (h' : Below W.heap.size W w1) : Below w.heap.size w w1 := h.trans (h'.mono h.size)
/-- the region's text -/
abbrev pushOps (T sT xT f tb tx fld d0 d1 d2 d3 d4 d5 d6 : Nat) (y0 y1 y2 y3 y4 y5 y6 y7 : TypeId) (p : String) : Array Oper := #[
  { dst := some d0, op := .fieldAddr T (.tmp tb) fld, type := y0, pos := p, after := #[], guard := none },
  { dst := some d1, op := .load sT (.tmp d0), type := y1, pos := p, after := #[⟨0, .data⟩], guard := none },
  { dst := some d2, op := .load xT (.tmp tx), type := y2, pos := p, after := #[], guard := none },
  { dst := some d3, op := .call { callee := .value (.func f), args := #[.tmp d2], argTypes := #[xT] }, type := y3, pos := p, after := #[⟨2, .data⟩], guard := none },
  { dst := some d4, op := .buildSlice sT 1 #[(0, .tmp d3)], type := y4, pos := p, after := #[⟨3, .data⟩], guard := none },
  { dst := some d5, op := .call { callee := .builtin .append, args := #[.tmp d1, .tmp d4], argTypes := #[sT, sT] }, type := y5, pos := p, after := #[⟨1, .data⟩, ⟨4, .data⟩, ⟨3, .chain⟩], guard := none },
  { dst := some d6, op := .fieldAddr T (.tmp tb) fld, type := y6, pos := p, after := #[⟨0, .phase⟩, ⟨1, .phase⟩, ⟨2, .phase⟩, ⟨3, .phase⟩, ⟨4, .phase⟩, ⟨5, .phase⟩], guard := none },
  { dst := none, op := .store sT (.tmp d6) (.tmp d5), type := y7, pos := p, after := #[⟨6, .data⟩, ⟨5, .data⟩, ⟨5, .chain⟩, ⟨0, .phase⟩, ⟨1, .phase⟩, ⟨2, .phase⟩, ⟨3, .phase⟩, ⟨4, .phase⟩, ⟨5, .phase⟩], guard := none }]

/-- what an operation's value is -/
def pushF (base eT size k g q : Nat) (S : List Nat) (A : Option Addr) (c : Nat) (xs ecs : List Value) (Res : List Value → World → Prop) (Res2 : List Nat → List Value → World → Prop) (w0 : World) (i : Nat) (v : Value) (W : World) : Prop := match i with
  | 0 => v = .pointer (some ⟨g, q, none⟩)
  | 1 => v = .slice A k c
  | 2 => v = .agg ecs.toArray
  | 3 => ∃ vcs : List Value, v = .agg vcs.toArray ∧ vcs.length = size ∧ (∀ u ∈ vcs, u.oneCell' = true) ∧ Res vcs W ∧ w0.heap.size ≤ W.heap.size
  | 4 => ∃ (vcs : List Value) (b : Nat), v = .slice (some ⟨b, 0, none⟩) 1 1 ∧ vcs.length = size ∧ (∀ u ∈ vcs, u.oneCell' = true) ∧ Res vcs W ∧ W.heap[b]? = some (.cells vcs.toArray eT (0, 0)) ∧ w0.heap.size ≤ b
  | 5 => ∃ (vcs : List Value) (A' : Option Addr) (c' : Nat), v = .slice A' (k + 1) c' ∧ vcs.length = size ∧ Res2 (Value.slice A' (k + 1) c').ownBlock.toList vcs W ∧ W.ownsRow base eT size (.slice A' (k + 1) c') (k + 1) (xs ++ vcs) ∧ (∀ b, (Value.slice A' (k + 1) c').ownBlock = some b → b ∈ S ∨ w0.heap.size ≤ b)
  | 6 => v = .pointer (some ⟨g, q, none⟩)
  | _ => True
structure PushG (T xT g x : Nat) (S : List Nat) (cs : Array Value) (ecs : List Value) (w0 W : World) : Prop where
  g : W.heap[g]? = some (.cells cs T (0, 0))
  x : W.heap[x]? = some (.cells ecs.toArray xT (0, 0))
  out : Out S w0 W
theorem PushG.keep {T xT g x : Nat} {S : List Nat} {cs : Array Value} {ecs : List Value} {w0 W W' : World} (h : PushG T xT g x S cs ecs w0 W) (hb : Below W.heap.size W W') : PushG T xT g x S cs ecs w0 W' :=
  ⟨(hb.block _ (Array.getElem?_eq_some_iff.1 h.g).1).trans h.g, (hb.block _ (Array.getElem?_eq_some_iff.1 h.x).1).trans h.x, h.out.trans (Out.of_below hb []) (fun _ h _ => by cases h)⟩
theorem pushF_keep {base eT size k g q : Nat} {S : List Nat} {A : Option Addr} {c : Nat} {xs ecs : List Value} {Res : List Value → World → Prop} {Res2 : List Nat → List Value → World → Prop} {w0 : World} (hRes : ∀ vcs W W', Res vcs W → Below W.heap.size W W' → Res vcs W') (hResB : ∀ S vcs W W', Res2 S vcs W → Below W.heap.size W W' → Res2 S vcs W') {i : Nat} {v : Value} {W W' : World}
    (h : pushF base eT size k g q S A c xs ecs Res Res2 w0 i v W) (hb : Below W.heap.size W W') : pushF base eT size k g q S A c xs ecs Res Res2 w0 i v W' := by
  match i, h with
  | 0, h => exact h
  | 1, h => exact h
  | 2, h => exact h
  | 3, ⟨vcs, h1, h2, h3, h4, h5⟩ => exact ⟨vcs, h1, h2, h3, hRes _ _ _ h4 hb, Nat.le_trans h5 hb.size⟩
  | 4, ⟨vcs, b, h1, h2, h3, h4, h5, h6⟩ => exact ⟨vcs, b, h1, h2, h3, hRes _ _ _ h4 hb, (hb.block _ (Array.getElem?_eq_some_iff.1 h5).1).trans h5, h6⟩
  | 5, ⟨vcs, A', c', h1, h2, h3, h4, h5⟩ => exact ⟨vcs, A', c', h1, h2, hResB _ _ _ _ h3 hb, own_below h4 hb, h5⟩
  | 6, h => exact h
  | _ + 7, _ => exact trivial

set_option maxRecDepth 20000 in
set_option maxHeartbeats 2000000 in
theorem push_region {id : Nat} {a : Act} {w : World} {Q : Exit → Act → World → Prop} {T sT xT f tb tx fld d0 d1 d2 d3 d4 d5 d6 : Nat} {y0 y1 y2 y3 y4 y5 y6 y7 : TypeId} {p : String} (n : Nat) (hm : P.follows .mixedOrders = true)
    (hn : a.tmps.size = n) (hd : a.defers = []) (hok : drawnOk (pushOps T sT xT f tb tx fld d0 d1 d2 d3 d4 d5 d6 y0 y1 y2 y3 y4 y5 y6 y7 p) 7 n = true)
    (htb : ((pushOps T sT xT f tb tx fld d0 d1 d2 d3 d4 d5 d6 y0 y1 y2 y3 y4 y5 y6 y7 p).toList.take 7).all (fun o => !decide (o.dst = some tb)) = true) (htx : ((pushOps T sT xT f tb tx fld d0 d1 d2 d3 d4 d5 d6 y0 y1 y2 y3 y4 y5 y6 y7 p).toList.take 7).all (fun o => !decide (o.dst = some tx)) = true)
    (g x q base eT size bytes k : Nat) (z : Value) (A : Option Addr) (c : Nat) (xs ecs : List Value) (cs : Array Value) (Res : List Value → World → Prop) (Res2 : List Nat → List Value → World → Prop) (ds : TypeDesc)
    (hb : a.tmps[tb]? = some (.pointer (some ⟨g, 0, none⟩))) (hx : a.tmps[tx]? = some (.pointer (some ⟨x, 0, none⟩))) (hg0 : w.heap[g]? = some (.cells cs T (0, 0))) (hx0 : w.heap[x]? = some (.cells ecs.toArray xT (0, 0)))
    (hcq : cs[q]? = some (.slice A k c)) (hfld : ∀ w : World, (Instr.fieldAt T (.pointer (some ⟨g, 0, none⟩)) fld).run P w = .ok (.pointer (some ⟨g, q, none⟩)) w)
    (huS : P.underlying sT = some (.slice eT)) (hiS : (P.info? sT).map (·.size) = some 1) (huX : P.underlying xT = some ds) (hdX : ds.isRow = true) (hiX : (P.info? xT).map (·.size) = some ecs.length)
    (hi : (P.info? eT).map (fun i => (i.zero, i.size, i.bytes)) = some (some z, size, bytes)) (hzs : z.cells.size = size) (hsz : 0 < size) (hs24 : size ≤ 2 ^ 24)
    (hown : w.ownsRow base eT size (.slice A k c) k xs) (hT : g ∉ (Value.slice A k c).ownBlock.toList) (hX : x ∉ (Value.slice A k c).ownBlock.toList) (h63 : k + 1 ≤ maxLen) (hbytes : (k + 1) * bytes ≤ 140737488355328) (hbase : base ≤ w.heap.size)
    (fn : Func) (hfn : P.funcs[f]? = some fn) (hbd : fn.body.isSome = true) (hng : (fn.name == "runtime.NumGoroutine") = false)
    (hRes : ∀ vcs W W', Res vcs W → Below W.heap.size W W' → Res vcs W') (hResB : ∀ S vcs W W', Res2 S vcs W → Below W.heap.size W W' → Res2 S vcs W') (hRes3 : ∀ S vcs W W', Res vcs W → w.heap.size ≤ W.heap.size → Out (Value.slice A k c).ownBlock.toList W W' → (∀ b ∈ S, b ∈ (Value.slice A k c).ownBlock.toList ∨ W.heap.size ≤ b) → Res2 S vcs W')
    (hRes2 : ∀ vcs W W', Res vcs W → w.heap.size ≤ W.heap.size → Out (Value.slice A k c).ownBlock.toList W W' → Res vcs W')
    (hcall : ∀ W, Below w.heap.size w W → Calls P f #[.agg ecs.toArray] W (fun r w' => ∃ vcs : List Value, r = .returned (.agg vcs.toArray) ∧ vcs.length = size ∧ (∀ u ∈ vcs, u.oneCell' = true) ∧ Res vcs w' ∧ Below W.heap.size W w'))
    (hQ : ∀ (u : Nat → Value) (W : World) (vcs : List Value) (A' : Option Addr) (c' : Nat),
      vcs.length = size → Res2 (Value.slice A' (k + 1) c').ownBlock.toList vcs W → W.ownsRow base eT size (.slice A' (k + 1) c') (k + 1) (xs ++ vcs) → (∀ b, (Value.slice A' (k + 1) c').ownBlock = some b → b ∈ (Value.slice A k c).ownBlock.toList ∨ w.heap.size ≤ b) → Out (Value.slice A k c).ownBlock.toList w W →
      W.heap[g]? = some (.cells cs T (0, 0)) → Q .normal ([d0, d1, d2, d3, d4, d5, d6].foldl (fun x d => x.put (some d) (u d)) a) (W.setCell ⟨g, q, none⟩ (.slice A' (k + 1) c'))) :
    (Code.region id (pushOps T sT xT f tb tx fld d0 d1 d2 d3 d4 d5 d6 y0 y1 y2 y3 y4 y5 y6 y7 p) true).wp P Q a w := by
  have hw0 : Below w.heap.size w w.drew := below_drewN w 1 _
  have hown0 : w.drew.ownsRow base eT size (.slice A k c) k xs := own_below hown hw0
  have hG0 : PushG T xT g x (Value.slice A k c).ownBlock.toList cs ecs w w.drew := ⟨hg0, hx0, Out.of_below hw0 _⟩
  refine drawn hm 7 n (fun j W => PushG T xT g x (Value.slice A k c).ownBlock.toList cs ecs w W ∧ (j = 5 → W.ownsRow base eT size (.slice A k c) k xs) ∧ (j = 3 → Below w.heap.size w W)) (pushF base eT size k g q (Value.slice A k c).ownBlock.toList A c xs ecs Res Res2 w)
    (fun j W W' => if j = 5 then Out (Value.slice A k c).ownBlock.toList W W' ∧ g ∉ (Value.slice A k c).ownBlock.toList ∧ x ∉ (Value.slice A k c).ownBlock.toList else Below W.heap.size W W') hn hok hd (fun j _ => ⟨hG0, fun _ => hown0, fun _ => hw0⟩) ?_ ?_ ?_ ?_
  · intro i j v W W' hij hil hj hF hR
    by_cases h5 : j = 5
    · subst h5
      simp only [if_true] at hR
      obtain ⟨hR, -, -⟩ := hR
      have hblk : ∀ b, w.heap.size ≤ b → b ∉ (Value.slice A k c).ownBlock.toList := fun b hb hmem => by
        have := (own_blk hown (b := b) (by simpa using hmem)).2
        omega
      match i, hF with
      | 0, h => exact h
      | 1, h => exact h
      | 2, h => exact h
      | 3, ⟨vcs, h1, h2, h3, h4, h5⟩ => exact ⟨vcs, h1, h2, h3, hRes2 _ _ _ h4 h5 hR, Nat.le_trans h5 hR.size⟩
      | 4, ⟨vcs, b, h1, h2, h3, h4, h5, h6⟩ =>
        have hbl := (Array.getElem?_eq_some_iff.1 h5).1
        exact ⟨vcs, b, h1, h2, h3, hRes2 _ _ _ h4 (by omega) hR, (hR.block _ hbl (hblk b h6)).trans h5, h6⟩
      | 5, _ => exact absurd rfl hij
      | 6, h => exact h
      | _ + 7, _ => exact trivial
    · rw [if_neg h5] at hR
      exact pushF_keep hRes hResB hF hR
  · intro i j W W' hij hil hj hanc hG hR
    by_cases h5 : i = 5
    · subst h5
      simp only [if_true] at hR
      obtain ⟨hR, h1, h2⟩ := hR
      refine ⟨⟨(hR.block _ (Array.getElem?_eq_some_iff.1 hG.1.g).1 h1).trans hG.1.g, (hR.block _ (Array.getElem?_eq_some_iff.1 hG.1.x).1 h2).trans hG.1.x, hG.1.out.trans hR (fun _ h _ => h)⟩, fun e => absurd e (Ne.symm hij), fun e => absurd (by subst e; simp [ancs, Region.binds]) hanc⟩
    · rw [if_neg h5] at hR
      exact ⟨hG.1.keep hR, fun e => own_below (hG.2.1 e) hR, fun e => below_nextR (hG.2.2 e) hR⟩
  · intro i o a' W hil ho hd' hold hGi hGL hw
    have hr1 := (hold tb htb).trans hb
    have hr2 := (hold tx htx).trans hx
    have hbw : ∀ W : World, Below W.heap.size W W := fun W => Below.refl _ W
    match i, hil, ho with
    | 0, _, ho =>
      injection ho with ho; subst ho
      exact op_val _ (by simp [execOp, Act.eval, hr1, hfld]) ⟨_, rfl, hbw _, rfl⟩
    | 1, _, ho =>
      injection ho with ho; subst ho
      obtain ⟨v0, h0, e0⟩ := hw 0 d0 rfl
      obtain rfl : v0 = _ := e0
      exact op_val _ (by simp [execOp, Act.eval, h0, run_load1 huS ((cell_of_row _ _ _ _ _ _ hGi.1.g).trans hcq)]) ⟨_, rfl, hbw _, rfl⟩
    | 2, _, ho =>
      injection ho with ho; subst ho
      exact wp_load_mid xT (.tmp tx) rfl _ _ (eval_tmp hr2) ecs ds (range_rowR hGi.1.x) huX hdX hiX ⟨_, rfl, hbw _, rfl⟩
    | 3, _, ho =>
      injection ho with ho; subst ho
      obtain ⟨v0, h0, e0⟩ := hw 2 d2 rfl
      obtain rfl : v0 = _ := e0
      refine op_call f _ rfl rfl #[.agg ecs.toArray] (by simp [Act.eval, h0]) fn hfn hbd hng ((hcall W (hGi.2.2 rfl)).mono ?_)
      rintro r w' ⟨vcs, rfl, e1, e2, e3, e4⟩
      exact ⟨_, rfl, _, rfl, e4, vcs, rfl, e1, e2, e3, Nat.le_trans hGi.1.out.size e4.size⟩
    | 4, _, ho =>
      injection ho with ho; subst ho
      obtain ⟨v0, h0, vcs, e0, e1, e2, e3, -⟩ := hw 3 d3 rfl
      obtain rfl : v0 = _ := e0
      refine op_bslice sT eT 1 _ rfl size [.agg vcs.toArray] huS (by obtain ⟨i, hi1, hi2⟩ := Option.map_eq_some_iff.1 hi; rw [hi1]; simp at hi2 ⊢; simp [hi2]) hsz rfl (by decide) (by omega) (by simp [Act.eval, h0]) (by simp [Value.cells, e1]) ?_
      simp only [List.flatMap_cons, List.flatMap_nil, List.append_nil, Value.cells]
      exact ⟨_, rfl, belowA (Below.refl _ _) _, vcs, _, rfl, e1, e2, hRes _ _ _ e3 (belowA (Below.refl _ _) _), heapNew rfl, hGi.1.out.size⟩
    | 5, _, ho =>
      injection ho with ho; subst ho
      obtain ⟨v0, h0, e0⟩ := hw 1 d1 rfl
      obtain rfl : v0 = _ := e0
      obtain ⟨v1, h1, vcs, b, e1, e2, e3, e4, e5, e6⟩ := hw 4 d4 rfl
      obtain rfl : v1 = _ := e1
      obtain ⟨A', c', w', k1, k2, k3, k4⟩ := push_more (P := P) (ty := y5) W huS hi hzs hsz (hGi.2.1 rfl) b vcs e2 e5 e3 h63 hbytes (Nat.le_trans hbase hGi.1.out.size)
      refine op_append _ _ _ rfl _ _ (eval_tmp h0) (eval_tmp h1) k1 ⟨_, rfl, ?_, vcs, A', c', rfl, e2, hRes3 _ _ _ _ e4 hGi.1.out.size k3 (fun b hb => (k4 b (by simpa using hb)).imp (fun h => by simp [h]) (fun h => h)), k2, fun b hb => ?_⟩
      · simp only [if_true]
        exact ⟨k3, hT, hX⟩
      · rcases k4 b hb with h | h
        · exact .inl (by simp [h])
        · exact .inr (Nat.le_trans hGi.1.out.size h)
    | 6, _, ho =>
      injection ho with ho; subst ho
      exact op_val _ (by simp [execOp, Act.eval, hr1, hfld]) ⟨_, rfl, hbw _, rfl⟩
    | n + 7, hil, _ => omega
  · intro o a' W ho hd' hs hold hGL hw
    obtain ⟨v0, h0, e0⟩ := hw 6 d6 (by decide) rfl
    obtain ⟨v1, h1, vcs, A', c', e1, e2, e3, e4, e5⟩ := hw 5 d5 (by decide) rfl
    obtain rfl : v0 = _ := e0
    obtain rfl : v1 = _ := e1
    injection ho with ho; subst ho
    have hqs : q < cs.size := (Array.getElem?_eq_some_iff.1 hcq).1
    have hrun : (execOp a'.eval { dst := none, op := .store sT (.tmp d6) (.tmp d5), type := y7, pos := p, after := #[⟨6, .data⟩, ⟨5, .data⟩, ⟨5, .chain⟩, ⟨0, .phase⟩, ⟨1, .phase⟩, ⟨2, .phase⟩, ⟨3, .phase⟩, ⟨4, .phase⟩, ⟨5, .phase⟩], guard := none }).run P W = .ok .skip (W.setCell ⟨g, q, none⟩ (.slice A' (k + 1) c')) := by
      simp [execOp, Act.eval, h0, h1, run_store1 (A := A') (n := k + 1) (c := c') hiS hGL.1.g hqs]
    obtain ⟨u, hu, -⟩ := frame_of (a := a) (a' := a') [d0, d1, d2, d3, d4, d5, d6] (by rw [hs, hn]) (by rw [hd', hd]) (fun t ht => hold t (by simp at ht; simp [Ne.symm ht.1, Ne.symm ht.2.1, Ne.symm ht.2.2.1, Ne.symm ht.2.2.2.1, Ne.symm ht.2.2.2.2.1, Ne.symm ht.2.2.2.2.2.1, Ne.symm ht.2.2.2.2.2.2]))
    refine op_skip hrun ?_
    have hq := hQ u W vcs A' c' e2 e3 e4 e5 hGL.1.out hGL.1.g
    rw [← hu] at hq
    exact hq
end

/-! ### rows that a function makes: each element's own rows lie outside of the row and of all that is older -/
section
variable {α : Type} {E : Enc α}
structure Rows (E : Enc α) (b1 eT : Nat) (W : World) (A : Option Addr) (k c : Nat) (L : List (α × List Value)) : Prop where
  own : W.ownsRow b1 eT E.sz (.slice A k c) k (L.flatMap (·.2))
  len : L.length = k
  far : ∀ p ∈ L, E.ok (sans W (List.range b1 ++ (Value.slice A k c).ownBlock.toList)) W.heap.size p.2 p.1
theorem Rows.nil (b1 eT : Nat) (W : World) : Rows E b1 eT W none 0 0 [] := ⟨World.ownsRow_nil _ _ _ _, rfl, fun _ h => by cases h⟩
theorem Rows.out {b1 eT : Nat} {W W' : World} {A : Option Addr} {k c : Nat} {L : List (α × List Value)} {S : List Nat} (h : Rows E b1 eT W A k c L) (ho : Out S W W') (hS : ∀ b ∈ S, b < W.heap.size → b < b1) : Rows E b1 eT W' A k c L :=
  ⟨own_out' h.own (S := S.filter (fun b => decide (b < W.heap.size))) ⟨ho.os, ho.tape, ho.output, ho.size, fun b hb hn => ho.block b hb (fun hs => hn (List.mem_filter.2 ⟨hs, by simpa using hb⟩))⟩ (fun b hb hm => by
      have h1 := (own_blk h.own hb).1
      obtain ⟨h2, h3⟩ := List.mem_filter.1 hm
      have := hS b h2 (by simpa using h3)
      omega), h.len,
    fun p hp => E.mono ho.size (ho.kept (T := List.range b1 ++ (Value.slice A k c).ownBlock.toList) (fun b hb hl => List.mem_append_left _ (List.mem_range.2 (hS b hb hl))) (fun _ hb _ => hb)) (h.far p hp)⟩
theorem Rows.push {b1 eT : Nat} {W0 W : World} {A A' : Option Addr} {k c c' : Nat} {L : List (α × List Value)} {vcs : List Value} {x : α} (h : Rows E b1 eT W0 A k c L) (hb : b1 ≤ W0.heap.size)
    (hown : W.ownsRow b1 eT E.sz (.slice A' (k + 1) c') (k + 1) (L.flatMap (·.2) ++ vcs)) (hblk : ∀ b, (Value.slice A' (k + 1) c').ownBlock = some b → b ∈ (Value.slice A k c).ownBlock.toList ∨ W0.heap.size ≤ b) (ho : Out (Value.slice A k c).ownBlock.toList W0 W)
    (hx : E.ok (sans W (List.range W0.heap.size ++ (Value.slice A' (k + 1) c').ownBlock.toList)) W.heap.size vcs x) : Rows E b1 eT W A' (k + 1) c' (L ++ [(x, vcs)]) := by
  refine ⟨by simpa using hown, by simp [h.len], fun p hp => ?_⟩
  rcases List.mem_append.1 hp with hp | hp
  · refine E.mono ho.size (ho.kept (fun b hb _ => List.mem_append_right _ hb) (fun b hb hl => ?_)) (h.far p hp)
    rcases List.mem_append.1 hb with hb | hb
    · exact List.mem_append_left _ hb
    · rcases hblk b (by simpa using hb) with h1 | h1
      · exact List.mem_append_right _ h1
      · omega
  · obtain rfl : p = (x, vcs) := by simpa using hp
    refine E.mono (Nat.le_refl _) ((Out.refl [] W).kept (fun _ h _ => by cases h) (fun b hb' _ => ?_)) hx
    rcases List.mem_append.1 hb' with hb' | hb'
    · exact List.mem_append_left _ (List.mem_range.2 (by have := List.mem_range.1 hb'; omega))
    · exact List.mem_append_right _ hb'
theorem own_sans {w : World} {S : List Nat} {base e sz : Nat} {v : Value} {n : Nat} {xs : List Value} (h : w.ownsRow base e sz v n xs) (hS : ∀ b ∈ S, b < base) : (sans w S).ownsRow base e sz v n xs := by
  refine ⟨h.1, ?_⟩
  rcases h.2 with hn | ⟨g, cap, cur, rfl, hg, hh, r⟩
  · exact .inl hn
  · exact .inr ⟨g, cap, cur, rfl, hg, (sans_out (fun hs => by have := hS g hs; omega)).trans hh, r⟩
theorem flat_piece2 (sz : Nat) : ∀ (L : List (α × List Value)) (i : Nat) (p : α × List Value), (∀ q ∈ L, q.2.length = sz) → L[i]? = some p → ((L.flatMap (·.2)).drop (i * sz)).take sz = p.2
  | [], i, p, _, h => by simp at h
  | q :: L, 0, p, hl, h => by
    simp at h; subst h
    simp only [List.flatMap_cons, Nat.zero_mul, List.drop_zero]
    rw [← hl q (by simp)]
    exact List.take_left
  | q :: L, i + 1, p, hl, h => by
    simp only [List.flatMap_cons]
    rw [show (i + 1) * sz = q.2.length + i * sz by rw [hl q (by simp), Nat.add_mul, Nat.one_mul, Nat.add_comm], List.drop_append]
    rw [List.drop_eq_nil_of_le (Nat.le_add_right _ _), List.nil_append, Nat.add_sub_cancel_left]
    exact flat_piece2 sz L i p (fun q hq => hl q (by simp [hq])) (by simpa using h)
theorem Rows.is {b1 eT : Nat} {W : World} {A : Option Addr} {k c : Nat} {L : List (α × List Value)} (h : Rows E b1 eT W A k c L) (hk : k ≤ reachN) {base : Nat} (hb : base ≤ b1) : SliceFar E W (List.range base) A k c (L.map (·.1)) := by
  have h2 := own_sans (S := List.range base) h.own (fun b hb' => by have := List.mem_range.1 hb'; omega)
  have h3 := SliceIs.of_own (E := E) (l := L.map (·.1)) h2 (by simp [h.len]) hk (fun i x hx => by
    rw [List.getElem?_map, Option.map_eq_some_iff] at hx
    obtain ⟨p, hp, rfl⟩ := hx
    rw [flat_piece2 E.sz L i p (fun q hq => E.len (h.far q hq)) hp]
    rw [sans_size]
    exact E.mono (Nat.le_refl _) ((Out.refl [] W).kept (fun _ h _ => by cases h) (fun b hb' _ => List.mem_append_left _ (List.mem_range.2 (by have := List.mem_range.1 hb'; omega)))) (h.far p (List.mem_of_getElem? hp)))
  rw [sans_size] at h3
  exact h3
end
end Go.Proofs.YtiffmiabhapfnaaGreatDoor
