/- My own texts Base, Open, Num, as far as this claim needs them. -/
import Derived.WalkKit
import Derived.WalkSpells
import Derived.WalkLawsBesides
import Derived.MapKept
import Derived.BigQuiet
import Derived.Lib.Hide
import Derived.Deep.Draws
import Derived.Deep.QuietTactic
import Derived.SizedLaws
import Derived.ProofKit
import Derived.Deep.Slices
import Derived.Test.YtaeedepojpablaaGreatDoorProg
set_option linter.unusedVariables false
set_option linter.unusedSimpArgs false
set_option maxRecDepth 1000000
set_option maxHeartbeats 16000000
namespace Go.Proofs.YtaeedepojpablaaGreatDoor
open Go.RowKit
theorem glt {α : Type} {a : Array α} {i : Nat} {x : α} (h : a[i]? = some x) : i < a.size := (Array.getElem?_eq_some_iff.1 h).1
theorem hZ9 {p : Prop} (h : p) : Hid p := Lib.hid h
theorem toList_inj (a b : ByteArray) : a.toList = b.toList ↔ a = b := by
 rw [ByteArray.toList_eq, ByteArray.toList_eq]; obtain ⟨⟨x⟩⟩ := a; obtain ⟨⟨y⟩⟩ := b; simp
instance : LawfulBEq ByteArray where
 eq_of_beq {a b} h := by rw [beq_toListBytes] at h; exact (toList_inj a b).1 (by simpa using h)
 rfl {a} := by rw [beq_toListBytes]; simp
def kvGet {α : Type} (l : List (ByteArray × α)) (s : ByteArray) : Option α := (l.find? (fun p => p.1 == s)).map (·.2)
def kvSet {α : Type} : List (ByteArray × α) → ByteArray → α → List (ByteArray × α)
 | [], s, v => [(s, v)]
 | p :: l, s, v => if p.1 = s then (s, v) :: l else p :: kvSet l s v
structure MapIs (w : World) (b : Nat) (kvs : List (ByteArray × Value)) : Prop where
 ex : ∃ es clock, w.heap[b]? = some (.map es clock) ∧ es.toList.map (fun e => (e.key, e.val)) = kvs.map (fun p => (Value.string p.1, p.2)) ∧
  (es.toList.map (·.born)).Nodup ∧ ∀ e ∈ es.toList, e.born < clock
 keys : (kvs.map Prod.fst).Nodup
theorem findNow_str (s : ByteArray) : ∀ (l : List MapEntry) (kvs : List (ByteArray × Value)) (i : Nat),
 l.map (fun e => (e.key, e.val)) = kvs.map (fun p => (Value.string p.1, p.2)) →
 Instr.findNow .string (.string s) l i = some ((kvs.findIdx? (fun p => p.1 == s)).map fun j => (i + j, ((kvs[j]?).map (·.2)).getD undef))
 | [], kvs, i, h => by
   cases kvs with
   | nil => simp [Instr.findNow]
   | cons p kvs => simp at h
 | e :: l, kvs, i, h => by
   cases kvs with
   | nil => simp at h
   | cons p kvs =>
     simp only [List.map_cons, List.cons.injEq, Prod.mk.injEq] at h; obtain ⟨⟨hk, hv⟩, ht⟩ := h; have ih := findNow_str s l kvs (i + 1) ht; simp only [Instr.findNow, hk, Instr.sameNow]; by_cases hs : p.1 = s
     ·subst hs; simp [List.findIdx?_cons, hv]
     ·have h1 : (s == p.1) = false := by simp; exact fun e => hs e.symm
      have h2 : (p.1 == s) = false := by simp [hs]
      rw [h1]; simp only [ih, List.findIdx?_cons, h2]; congr 1
      simp [Option.map_map, Function.comp_def]
      cases List.findIdx? (fun p => p.1 == s) kvs <;> simp [Nat.add_assoc, Nat.add_comm 1]
theorem findIdx_get {α : Type} (kvs : List (ByteArray × α)) (s : ByteArray) (d : α) :
 ((kvs.findIdx? (fun p => p.1 == s)).map fun j => ((kvs[j]?).map (·.2)).getD d) = kvGet kvs s := by
 induction kvs with
 | nil => simp [kvGet]
 | cons p kvs ih =>
   by_cases hs : p.1 = s
   ·simp [kvGet, List.findIdx?_cons, hs]
   ·have h2 : (p.1 == s) = false := by simp [hs]
    simp only [kvGet, List.findIdx?_cons, h2, List.find?_cons] at ih ⊢; rw [← ih]; simp [Option.map_map, Function.comp_def]
section
variable {P : Program} {w : World} {b : Nat} {kvs : List (ByteArray × Value)}
theorem run_checkKey_str {k : TypeId} (hk : P.underlying k = some .string) (e : Bool) (s : ByteArray) : (Instr.checkKey e 10000 k (.string s)).run P w = .ok () w := by
 exact MapKept.run_checkKey hk (by simp [MapKept.IsKey]) e 9999
theorem MapIs.lookup_ok (h : MapIs w b kvs) {t k e : TypeId} (ht : P.underlying t = some (.map k e)) (hk : P.underlying k = some .string) {z : Value} (hz : (zeroValue e).run P w = .ok z w) (s : ByteArray) :
 (Instr.lookup t (.map (some b)) (.string s) true).run P w = .ok (.tuple #[(kvGet kvs s).getD z, .bool (kvGet kvs s).isSome]) w := by
 obtain ⟨es, clock, hb, hes, _, _⟩ := h.ex; have h1 := findNow_str s es.toList kvs 0 hes; have h2 := findIdx_get kvs s undef; simp only [Instr.lookup, Sem.run_bind, run_underlying ht, Result.andThen_ok, MapKept.run_getObj_map hb, run_checkKey_str hk, MapKept.run_findKey hk h1, Sem.run_pure]; rw [← h2]; cases List.findIdx? (fun p => p.1 == s) kvs with
 | none => simp [hz]
 | some j => simp
theorem MapIs.lookup (h : MapIs w b kvs) {t k e : TypeId} (ht : P.underlying t = some (.map k e)) (hk : P.underlying k = some .string) {z : Value} (hz : (zeroValue e).run P w = .ok z w) (s : ByteArray) :
 (Instr.lookup t (.map (some b)) (.string s) false).run P w = .ok ((kvGet kvs s).getD z) w := by
 obtain ⟨es, clock, hb, hes, _, _⟩ := h.ex; have h1 := findNow_str s es.toList kvs 0 hes; have h2 := findIdx_get kvs s undef; simp only [Instr.lookup, Sem.run_bind, run_underlying ht, Result.andThen_ok, MapKept.run_getObj_map hb, run_checkKey_str hk, MapKept.run_findKey hk h1, Sem.run_pure]; rw [← h2]; cases List.findIdx? (fun p => p.1 == s) kvs with
 | none => simp [hz]
 | some j => simp
theorem kvSet_mem {α : Type} {l : List (ByteArray × α)} {s : ByteArray} {v : α} {x : ByteArray} : x ∈ (kvSet l s v).map Prod.fst ↔ x ∈ l.map Prod.fst ∨ x = s := by
 induction l with
 | nil => simp [kvSet]
 | cons p l ih =>
   unfold kvSet; split
   ·rename_i h
    simp only [List.map_cons, List.mem_cons, h]; constructor
    ·rintro (h | h)
     ·exact .inr h
     ·exact .inl (.inr h)
    ·rintro ((h | h) | h)
     ·exact .inl h
     ·exact .inr h
     ·exact .inl h
   ·simp only [List.map_cons, List.mem_cons, ih, or_assoc]
theorem kvSet_keys {α : Type} {l : List (ByteArray × α)} {s : ByteArray} {v : α} (h : (l.map Prod.fst).Nodup) : ((kvSet l s v).map Prod.fst).Nodup := by
 induction l with
 | nil => simp [kvSet]
 | cons p l ih =>
   simp only [List.map_cons, List.nodup_cons] at h; unfold kvSet; split
   ·rename_i e
    simp only [List.map_cons, List.nodup_cons]; rw [← e]; exact h
   ·rename_i e
    simp only [List.map_cons, List.nodup_cons, kvSet_mem]; refine ⟨?_, ih h.2⟩; rintro (hm | hm)
    ·exact h.1 hm
    ·exact e hm
theorem kvGet_cons {α : Type} (p : ByteArray × α) (l : List (ByteArray × α)) (t : ByteArray) : kvGet (p :: l) t = if p.1 = t then some p.2 else kvGet l t := by
 by_cases h : p.1 = t
 ·simp [kvGet, h]
 ·simp only [kvGet, List.find?_cons, beq_eq_false_iff_ne.2 h, if_neg h]
theorem kvSet_none {α : Type} {l : List (ByteArray × α)} {s : ByteArray} (v : α) (h : l.findIdx? (fun p => p.1 == s) = none) : kvSet l s v = l ++ [(s, v)] := by
 induction l with
 | nil => rfl
 | cons p l ih =>
   rw [List.findIdx?_cons] at h; by_cases e : p.1 = s
   ·simp [e] at h
   ·simp only [beq_eq_false_iff_ne.2 e, Bool.false_eq_true, if_false, Option.map_eq_none_iff] at h; unfold kvSet; rw [if_neg e, ih h]; rfl
theorem kvSet_some {α : Type} {l : List (ByteArray × α)} {s : ByteArray} (v : α) {j : Nat} (h : l.findIdx? (fun p => p.1 == s) = some j) : kvSet l s v = l.set j (s, v) := by
 induction l generalizing j with
 | nil => simp at h
 | cons p l ih =>
   rw [List.findIdx?_cons] at h; by_cases e : p.1 = s
   ·simp [e] at h
    subst h; unfold kvSet; rw [if_pos e]; rfl
   ·simp only [beq_eq_false_iff_ne.2 e, Bool.false_eq_true, if_false, Option.map_eq_some_iff] at h; obtain ⟨i, hi, rfl⟩ := h; unfold kvSet; rw [if_neg e, ih hi]; rfl
theorem stamps_modify {es : Array MapEntry} (j : Nat) (f : MapEntry → MapEntry) (hf : ∀ e, (f e).born = e.born) : (es.modify j f).toList.map (·.born) = es.toList.map (·.born) := by
 apply List.ext_getElem?; intro i; simp only [List.getElem?_map, Array.getElem?_toList, Array.getElem?_modify]; split
 ·cases es[i]? <;> simp [hf]
 ·rfl
theorem heap_set_grown {o : Obj} : w.grownBy { w with heap := w.heap.setIfInBounds b o } (some b) :=
 ⟨rfl, rfl, rfl, by simp, fun k _ hne => by
  show (w.heap.setIfInBounds b o)[k]? = _
  rw [Array.getElem?_setIfInBounds_ne (by intro e; exact hne (by rw [e]))]⟩
theorem findIdx_some {α : Type} {kvs : List (ByteArray × α)} {s : ByteArray} {j : Nat} (h : kvs.findIdx? (fun p => p.1 == s) = some j) : ∃ v, kvs[j]? = some (s, v) := by
 rw [List.findIdx?_eq_some_iff_getElem] at h; obtain ⟨hlt, h1, _⟩ := h; refine ⟨kvs[j].2, ?_⟩; rw [List.getElem?_eq_getElem hlt]; simp at h1
 rw [← h1]
theorem MapIs.update (h : MapIs w b kvs) {t k e : TypeId} (ht : P.underlying t = some (.map k e)) (hk : P.underlying k = some .string) (s : ByteArray) (v : Value) :
 ∃ w', (Instr.mapUpdate t (.map (some b)) (.string s) v).run P w = .ok () w' ∧ MapIs w' b (kvSet kvs s v) ∧ w.grownBy w' (some b) ∧ w'.heap.size = w.heap.size := by
 obtain ⟨es, clock, hb, hes, hn, hc⟩ := h.ex; have hlt : b < w.heap.size := (glt hb)
 have h1 := findNow_str s es.toList kvs 0 hes; have hky : MapKept.IsKey .string (.string s) := by simp [MapKept.IsKey]
 cases hf : kvs.findIdx? (fun p => p.1 == s) with
 | none =>
   rw [hf] at h1; refine ⟨_, by simp [Instr.mapUpdate, run_underlying ht, MapKept.run_getObj_map hb, run_checkKey_str hk, MapKept.run_findKey hk h1, MapKept.run_setObj_map _ hb, Result.andThen]; rfl, ?_, heap_set_grown, by simp⟩; refine ⟨⟨es.push ⟨.string s, v, clock⟩, clock + 1, by simp [hlt], ?_, ?_, ?_⟩, kvSet_keys h.keys⟩
   ·rw [kvSet_none v hf]; simp only [Array.toList_push, List.map_append, hes]; simp
   ·simp only [Array.toList_push, List.map_append, List.nodup_append]; refine ⟨hn, by simp, ?_⟩; intro a ha b hb'; simp at hb'
    subst hb'; simp at ha
    obtain ⟨x, hx, rfl⟩ := ha; have := hc x (by simpa using hx); simp; omega
   ·intro x hx; simp at hx
    rcases hx with hx | rfl
    ·have := hc x (by simpa using hx); omega
    ·simp
 | some j =>
   rw [hf] at h1; obtain ⟨v0, hj⟩ := findIdx_some hf
   have hej : ∃ ej, es[j]? = some ej ∧ ej.key = .string s := by
    have := congrArg (fun l => l[j]?) hes; simp only [List.getElem?_map, hj, Option.map_some, Array.getElem?_toList] at this; cases hh : es[j]? with
    | none => rw [hh] at this; simp at this
    | some ej => rw [hh] at this; simp at this; exact ⟨ej, rfl, this.1⟩
   obtain ⟨ej, hej, hkey⟩ := hej; refine ⟨_, by simp [Instr.mapUpdate, run_underlying ht, MapKept.run_getObj_map hb, run_checkKey_str hk, MapKept.run_findKey hk h1, hej, hkey, MapKept.run_keyThatStays hky, MapKept.run_setObj_map _ hb, Result.andThen]; rfl, ?_, heap_set_grown, by simp⟩; refine ⟨⟨_, clock, by simp [hlt]; rfl, ?_, ?_, ?_⟩, kvSet_keys h.keys⟩
   ·rw [kvSet_some v hf]; apply List.ext_getElem?; intro i; have hlt' : j < kvs.length := (List.getElem?_eq_some_iff.1 hj).1; simp only [List.getElem?_map, Array.getElem?_toList, Array.getElem?_modify, List.getElem?_set, hlt', if_true]; have hi := congrArg (fun l => l[i]?) hes; simp only [List.getElem?_map, Array.getElem?_toList] at hi; by_cases hij : j = i
    ·subst hij; simp [hej]
    ·rw [if_neg hij, if_neg hij]; exact hi
   ·have := stamps_modify (es := es) j (fun e => { key := Value.string s, val := v, born := e.born }) (fun _ => rfl); rw [this]; exact hn
   ·intro x hx; have h2 : x.born ∈ (es.modify j fun e => { key := Value.string s, val := v, born := e.born }).toList.map (·.born) := List.mem_map.2 ⟨x, hx, rfl⟩; rw [stamps_modify (es := es) j (fun e => { key := Value.string s, val := v, born := e.born }) (fun _ => rfl)] at h2; obtain ⟨y, hy, e⟩ := List.mem_map.1 h2; have := hc y hy; omega
theorem MapIs.made : MapIs (w.alloc (.map #[] 0)) w.heap.size [] :=
 ⟨⟨#[], 0, heap_alloc_new w _, rfl, by simp, by simp⟩, by simp⟩
theorem MapIs.lt (h : MapIs w b kvs) : b < w.heap.size := by
 obtain ⟨es, clock, hb, _⟩ := h.ex; exact (glt hb)
theorem MapIs.same {w' : World} (h : MapIs w b kvs) (hs : w'.heap[b]? = w.heap[b]?) : MapIs w' b kvs := by
 obtain ⟨⟨es, clock, hb, r⟩, k⟩ := h; exact ⟨⟨es, clock, by rw [hs]; exact hb, r⟩, k⟩
theorem MapIs.below {w' : World} {B : Nat} (h : MapIs w b kvs) (hb : Below B w w') (hB : b < B) : MapIs w' b kvs := h.same (hb.block b hB)
theorem MapIs.alloc (h : MapIs w b kvs) (o : Obj) : MapIs (w.alloc o) b kvs := h.same (Below.heap_alloc w o b h.lt)
theorem MapIs.drew (h : MapIs w b kvs) : MapIs w.drew b kvs := h.same rfl
end
theorem below_cell {w w' : World} {a : Addr} {v : Value} (hb : Below w.heap.size w w') (h : w.cell? a = some v) : w'.cell? a = some v :=
 (hb.cell (World.block_lt_of_cell? w a h)).trans h
theorem belowA {w W : World} (h : Below w.heap.size w W) (o : Obj) : Below w.heap.size w (W.alloc o) := h.alloc h.size o
theorem belowS {w W : World} (h : Below w.heap.size w W) (n i : Nat) (hn : w.heap.size ≤ n) (u : Value) : Below w.heap.size w (W.setCell ⟨n, i, none⟩ u) := h.setCell hn u
theorem cellA {w : World} {o : Obj} {a : Addr} {v : Value} (h : w.cell? a = some v) : (w.alloc o).cell? a = some v := below_cell (belowA (Below.refl _ _) o) h
theorem below_drewN (w : World) (n : Nat) (B : Nat) : Below B w (w.drewN n) := ⟨rfl, rfl, rfl, Nat.le_refl _, fun _ _ => rfl⟩
def reachN : Nat := 140737488351232
def Kept (w w' : World) (B : Nat) : Prop := ∀ b, b < B → ∀ cs t fr, w.heap[b]? = some (.cells cs t fr) → cs ≠ #[] → w'.heap[b]? = some (.cells cs t fr)
theorem Kept.of {w w' : World} {B : Nat} (hk : ∀ b, b < B → w'.heap[b]? = w.heap[b]?) : Kept w w' B := fun b hb _ _ _ h _ => (hk b hb).trans h
theorem Kept.cell {w w' : World} {B b i : Nat} {v : Value} (hk : Kept w w' B) (hb : b < B) (h : w.cell? ⟨b, i, none⟩ = some v) : w'.cell? ⟨b, i, none⟩ = some v := by
 cases ho : w.heap[b]? with
 | none => simp [World.cell?, ho] at h
 | some o =>
   cases o with
   | cells cs t fr =>
     have h1 : cs[i]? = some v := by simpa [World.cell?, ho] using h
     have h2 := hk b hb cs t fr ho (by rintro rfl; simp at h1); simpa [World.cell?, h2] using h1
   | _ => simp [World.cell?, ho] at h
structure Enc (α : Type) where
 sz : Nat
 ok : World → Nat → List Value → α → Prop
 mono : ∀ {w w' : World} {B B' : Nat} {cs : List Value} {x : α}, B ≤ B' → Kept w w' B → ok w B cs x → ok w' B' cs x
 len : ∀ {w : World} {B : Nat} {cs : List Value} {x : α}, ok w B cs x → cs.length = sz
def SliceIs {α : Type} (E : Enc α) (w : World) (B : Nat) (A : Option Addr) (n c : Nat) (l : List α) : Prop :=
 l.length = n ∧ n ≤ c ∧ c ≤ maxLen ∧ n ≤ reachN ∧ (l = [] ∨ ∃ b o, A = some ⟨b, o, none⟩ ∧ b < B ∧
  ∀ i x, l[i]? = some x → ∃ cs, E.ok w B cs x ∧ ∀ j v, cs[j]? = some v → w.cell? ⟨b, o + i * E.sz + j, none⟩ = some v)
theorem SliceIs.mono' {α : Type} {E : Enc α} {w w' : World} {B B' : Nat} {A : Option Addr} {n c : Nat} {l : List α} (h : SliceIs E w B A n c l) (hB : B ≤ B') (hk : Kept w w' B) :
 SliceIs E w' B' A n c l := by
 obtain ⟨h1, h2, h3, hr, h4⟩ := h; refine ⟨h1, h2, h3, hr, ?_⟩; rcases h4 with h4 | ⟨b, o, hA, hb, hc⟩
 ·exact .inl h4
 ·refine .inr ⟨b, o, hA, by omega, fun i x hx => ?_⟩; obtain ⟨cs, hok, hcs⟩ := hc i x hx; exact ⟨cs, E.mono hB hk hok, fun j v hv => hk.cell hb (hcs j v hv)⟩
theorem SliceIs.mono {α : Type} {E : Enc α} {w w' : World} {B B' : Nat} {A : Option Addr} {n c : Nat} {l : List α} (h : SliceIs E w B A n c l) (hB : B ≤ B') (hk : ∀ b, b < B → w'.heap[b]? = w.heap[b]?) :
 SliceIs E w' B' A n c l := h.mono' hB (Kept.of hk)
theorem SliceIs.below {α : Type} {E : Enc α} {w w' : World} {B : Nat} {A : Option Addr} {n c : Nat} {l : List α} (h : SliceIs E w B A n c l) (hb : Below B w w') : SliceIs E w' B A n c l :=
 h.mono (Nat.le_refl _) hb.block
theorem SliceIs.bound {α : Type} {E : Enc α} {w : World} {B : Nat} {A : Option Addr} {n c : Nat} {l : List α} (h : SliceIs E w B A n c l) : n ≤ 140737488351232 := h.2.2.2.1
def fits (n : Int) : Prop := (Lit.int .i64 n).wf = true
def Enc.int : Enc Int where
 sz := 1
 ok _ _ cs n := cs = [.int .i64 n] ∧ fits n
 mono _ _ h := h
 len h := by rw [h.1]; rfl
def Enc.str : Enc ByteArray where
 sz := 1
 ok _ _ cs s := cs = [.string s] ∧ s.size ≤ reachN
 mono _ _ h := h
 len h := by rw [h.1]; rfl
structure GV where
 k : Int
 n : Int
 s : ByteArray
def GV.beq (x y : GV) : Bool := x.k == y.k && (x.n == y.n && x.s.toList == y.s.toList)
abbrev GV.v (x : GV) : Value := .agg #[.int .i64 x.k, .int .i64 x.n, .string x.s]
def GV.ok (x : GV) : Prop := fits x.k ∧ fits x.n ∧ x.s.size ≤ reachN
structure GTold where
 x : ByteArray
 v : GV
def Enc.told : Enc GTold where
 sz := 4
 ok _ _ cs t := cs = [.string t.x, .int .i64 t.v.k, .int .i64 t.v.n, .string t.v.s] ∧ t.x.size ≤ reachN ∧ t.v.ok
 mono _ _ h := h
 len h := by rw [h.1]; rfl
theorem SliceIs.at_ {α : Type} {E : Enc α} {w : World} {B : Nat} {A : Option Addr} {n c : Nat} {l : List α} (h : SliceIs E w B A n c l) {i : Nat} (hi : i < n) :
 ∃ b o x cs, A = some ⟨b, o, none⟩ ∧ b < B ∧ Hid (l[i]? = some x) ∧ E.ok w B cs x ∧ ∀ j v, cs[j]? = some v → w.cell? ⟨b, o + i * E.sz + j, none⟩ = some v := by
 obtain ⟨h1, h2, h3, hr, h4⟩ := h; rcases h4 with h4 | ⟨b, o, hA, hb, hc⟩
 ·subst h4; simp at h1; omega
 ·have hx := List.getElem?_eq_getElem (l := l) (i := i) (by omega); obtain ⟨cs, hok, hcs⟩ := hc i _ hx; exact ⟨b, o, _, cs, hA, hb, hx, hok, hcs⟩
section
variable {w : World} {B : Nat} {A : Option Addr} {n c : Nat}
theorem SliceIs.int_at {l : List Int} (h : SliceIs Enc.int w B A n c l) {i : Nat} (hi : i < n) :
 ∃ b o x, A = some ⟨b, o, none⟩ ∧ b < B ∧ Hid (l[i]? = some x) ∧ w.cell? ⟨b, o + i, none⟩ = some (.int .i64 x) ∧ fits x := by
 obtain ⟨b, o, x, cs, hA, hb, hx, ⟨rfl, hf⟩, hc⟩ := h.at_ hi; exact ⟨b, o, x, hA, hb, hx, by simpa [Enc.int] using hc 0 _ rfl, hf⟩
theorem SliceIs.str_at {l : List ByteArray} (h : SliceIs Enc.str w B A n c l) {i : Nat} (hi : i < n) :
 ∃ b o x, A = some ⟨b, o, none⟩ ∧ b < B ∧ Hid (l[i]? = some x) ∧ w.cell? ⟨b, o + i, none⟩ = some (.string x) ∧ x.size ≤ 140737488351232 := by
 obtain ⟨b, o, x, cs, hA, hb, hx, ⟨rfl, hf⟩, hc⟩ := h.at_ hi; exact ⟨b, o, x, hA, hb, hx, by simpa [Enc.str] using hc 0 _ rfl, hf⟩
theorem SliceIs.told_at {l : List GTold} (h : SliceIs Enc.told w B A n c l) {i : Nat} (hi : i < n) :
 ∃ b o x, A = some ⟨b, o, none⟩ ∧ b < B ∧ Hid (l[i]? = some x) ∧ w.cell? ⟨b, o + i * 4, none⟩ = some (.string x.x) ∧ w.cell? ⟨b, o + i * 4 + 1, none⟩ = some (.int .i64 x.v.k) ∧
   w.cell? ⟨b, o + i * 4 + 2, none⟩ = some (.int .i64 x.v.n) ∧ w.cell? ⟨b, o + i * 4 + 3, none⟩ = some (.string x.v.s) ∧ x.x.size ≤ 140737488351232 ∧ x.v.ok := by
 obtain ⟨b, o, x, cs, hA, hb, hx, ⟨rfl, hf⟩, hc⟩ := h.at_ hi; exact ⟨b, o, x, hA, hb, hx, by simpa [Enc.told] using hc 0 _ rfl, by simpa [Enc.told] using hc 1 _ rfl, by simpa [Enc.told] using hc 2 _ rfl, by simpa [Enc.told] using hc 3 _ rfl, hf⟩
end
theorem SliceIs.nil {α : Type} {E : Enc α} {w : World} {B : Nat} : SliceIs E w B none 0 0 [] := ⟨rfl, Nat.le_refl _, by simp [maxLen], by simp [reachN], .inl rfl⟩
theorem SliceIs.of_own {α : Type} {E : Enc α} {w : World} {base e : Nat} {A : Option Addr} {n c : Nat} {l : List α} {xs : List Value}
 (h : w.ownsRow base e E.sz (.slice A n c) n xs) (hl : l.length = n) (hr : n ≤ reachN) (hx : ∀ i x, l[i]? = some x → E.ok w w.heap.size ((xs.drop (i * E.sz)).take E.sz) x) : SliceIs E w w.heap.size A n c l := by
 obtain ⟨h1, h2⟩ := h; rcases h2 with ⟨hv, hn⟩ | ⟨g, cap, cur, hv, hg, hh, hnc, hcm, hsz, htk⟩
 ·simp only [Value.slice.injEq] at hv; obtain ⟨rfl, _, rfl⟩ := hv; subst hn; exact ⟨hl, Nat.le_refl _, by simp [maxLen], hr, .inl (List.eq_nil_of_length_eq_zero hl)⟩
 ·simp only [Value.slice.injEq] at hv; obtain ⟨rfl, _, rfl⟩ := hv; refine ⟨hl, hnc, hcm, hr, .inr ⟨g, 0, rfl, (glt hh), fun i x hix => ⟨_, hx i x hix, fun j v hv => ?_⟩⟩⟩; rw [cell_of_row w g _ cur e (0, 0) hh]; rw [List.getElem?_take] at hv; split at hv
  ·rw [List.getElem?_drop, ← htk, List.getElem?_take] at hv; split at hv
   ·simpa [Array.getElem?_toList] using hv
   ·cases hv
  ·cases hv
theorem flat_piece {α : Type} (f : α → List Value) {sz : Nat} (hf : ∀ x, (f x).length = sz) : ∀ (l : List α) (i : Nat) (x : α), l[i]? = some x → ((l.flatMap f).drop (i * sz)).take sz = f x
 | [], _, _, h => by simp at h
 | y :: l, 0, x, h => by
   simp at h
   subst h; simp [List.flatMap_cons, ← hf y]
 | y :: l, i + 1, x, h => by
   have ih := flat_piece f hf l i x (by simpa using h); rw [List.flatMap_cons, List.drop_append, hf y]; have h1 : (f y).drop ((i + 1) * sz) = [] := List.drop_of_length_le (by rw [hf y, Nat.add_mul]; omega); rw [h1, List.nil_append]; have h2 : (i + 1) * sz - sz = i * sz := by rw [Nat.add_mul]; omega
   rw [h2]; exact ih
theorem flat_len {α : Type} (f : α → List Value) {sz : Nat} (hf : ∀ x, (f x).length = sz) (l : List α) : (l.flatMap f).length = l.length * sz := by
 induction l with
 | nil => simp
 | cons x l ih => rw [List.flatMap_cons, List.length_append, hf, ih, List.length_cons, Nat.add_mul]; omega
theorem SliceIs.of_flat {α : Type} {E : Enc α} {w : World} {base e : Nat} {A : Option Addr} {n c : Nat} {l : List α} (f : α → List Value) (hf : ∀ x, (f x).length = E.sz)
 (h : w.ownsRow base e E.sz (.slice A n c) n (l.flatMap f)) (hl : l.length = n) (hr : n ≤ reachN) (hok : ∀ x ∈ l, E.ok w w.heap.size (f x) x) : SliceIs E w w.heap.size A n c l :=
 SliceIs.of_own h hl hr fun i x hx => by rw [flat_piece f hf l i x hx]; exact hok x (List.mem_of_getElem? hx)
theorem own_below {w w' : World} {base e sz : Nat} {v : Value} {n : Nat} {xs : List Value} (h : w.ownsRow base e sz v n xs) (hb : Below w.heap.size w w') : w'.ownsRow base e sz v n xs := by
 refine ⟨h.1, ?_⟩; rcases h.2 with hn | ⟨g, cap, cur, rfl, hg, hh, r⟩
 ·exact .inl hn
 ·exact .inr ⟨g, cap, cur, rfl, hg, (hb.block g (glt hh)).trans hh, r⟩
theorem own_form {w : World} {base e sz : Nat} {v : Value} {n : Nat} {xs : List Value} (h : w.ownsRow base e sz v n xs) : ∃ A c, v = .slice A n c := by
 rcases h.2 with ⟨rfl, rfl⟩ | ⟨g, cap, cur, rfl, _⟩
 ·exact ⟨_, _, rfl⟩
 ·exact ⟨_, _, rfl⟩
theorem own_block {w : World} {base e sz : Nat} {v : Value} {n : Nat} {xs : List Value} (h : w.ownsRow base e sz v n xs) : ∀ k, v.ownBlock = some k → base ≤ k := by
 rcases h.2 with ⟨rfl, rfl⟩ | ⟨g, cap, cur, rfl, hg, _⟩
 ·intro k hk; cases hk
 ·intro k hk; simp [Value.ownBlock] at hk; omega
theorem run_push {P : Program} (w0 : World) (g0 : Nat) (hg0 : w0.heap.size = g0) {base t ty e size bytes : Nat} {z : Value} (ht : P.underlying t = some (.slice e)) (hi : (P.info? e).map (fun i => (i.zero, i.size, i.bytes)) = some (some z, size, bytes))
 (hzs : z.cells.size = size) (hsz : 0 < size) {v : Value} {n : Nat} {xs : List Value} (hown : w0.ownsRow base e size v n xs) (cs : List Value) (hl : cs.length = size) (h1 : ∀ u ∈ cs, u.oneCell' = true)
 (h63 : n + 1 ≤ maxLen) (hbytes : (n + 1) * bytes ≤ 140737488355328) (hbase : base ≤ w0.heap.size) :
 ∃ v' w', (Builtin.append_ #[t, t] ty #[v, .slice (some ⟨g0, 0, none⟩) 1 1]).run P (w0.alloc (.cells cs.toArray e)) = .ok v' w' ∧ w'.ownsRow base e size v' (n + 1) (xs ++ cs) ∧ Below base w0 w' := by
 obtain ⟨i, hi', hz, hs, hb⟩ := info_parts hi; subst hg0
 have hnews : ∀ j u, cs[j]? = some u → (w0.alloc (.cells cs.toArray e)).cell? ((⟨w0.heap.size, 0, none⟩ : Addr).add j) = some u := by
  intro j u hu; have hadd : (⟨w0.heap.size, 0, none⟩ : Addr).add j = ⟨w0.heap.size, j, none⟩ := by unfold Addr.add; split <;> simp_all
  rw [hadd, cell_of_row _ w0.heap.size j cs.toArray e (0, 0) (heap_alloc_new w0 _)]; simpa using hu
 obtain ⟨v', w', hrun, ho, hg, _⟩ := run_append_own (P := P) (w0.alloc (.cells cs.toArray e)) base t ty e i z size bytes ht hi' hz hs hb hzs hsz v n xs (hown.alloc _) ⟨w0.heap.size, 0, none⟩ 1 1 cs (by rw [hl]; omega) hnews h1 h63 hbytes (by simp; omega); exact ⟨v', w', hrun, ho, ((Below.refl base w0).alloc hbase _).grown hg (by simp; omega) (own_block hown)⟩
theorem wpList_append_run {P : Program} {w w' : World} {ops : Array Oper} {rest : List Oper} {o : Oper} {a : Act} {Q : Exit → Act → World → Prop} {v' : Value} (hg : o.guard = none) (s x : Operand) (t : TypeId)
 (ho : o.op = .call { callee := .builtin .append, args := #[s, x], argTypes := #[t, t] }) (v xv : Value) (hs : a.eval s = v) (hx : a.eval x = xv)
 (hrun : (Builtin.append_ #[t, t] o.type #[v, xv]).run P w = .ok v' w') (h : wpList P ops Q rest (a.put o.dst v') w') : wpList P ops Q (o :: rest) a w :=
 wpList_plain hg fun K hK => by
  unfold Oper.wp execOp; simp only [ho, resolve, invoke, builtin, Sem.run_bind, Sem.run_pure, Result.andThen_ok, List.map_toArray, List.map_cons, List.map_nil, hs, hx, hrun]; exact hK _ _ h
def errV (T : TypeId) (n : Int) : Value := if n = 0 then .nilIface else .iface T (.int .i64 n)
theorem GV.ok_zero : GV.ok ⟨0, 0, ⟨#[]⟩⟩ := ⟨by unfold fits; decide, by unfold fits; decide, Nat.zero_le _⟩
def GTold.cells (t : GTold) : List Value := [.string t.x, .int .i64 t.v.k, .int .i64 t.v.n, .string t.v.s]
theorem run_append_slice {P : Program} {α : Type} {E : Enc α} (f : α → List Value) (hf : ∀ x, (f x).length = E.sz) (hE : ∀ {w B cs x}, E.ok w B cs x → cs = f x) (h1 : ∀ x, ∀ u ∈ f x, u.oneCell' = true)
 (w : World) {base t ty e bytes : Nat} {z : Value} (ht : P.underlying t = some (.slice e)) (hi : (P.info? e).map (fun i => (i.zero, i.size, i.bytes)) = some (some z, E.sz, bytes))
 (hzs : z.cells.size = E.sz) (hsz : 0 < E.sz) {v : Value} {n : Nat} {xs : List Value} (hown : w.ownsRow base e E.sz v n xs)
 {B : Nat} {A : Option Addr} {m c : Nat} {l : List α} (hl : SliceIs E w B A m c l)
 (h63 : n + m ≤ maxLen) (hbytes : (n + m) * bytes ≤ 140737488355328) (hbase : base ≤ w.heap.size) :
 ∃ v' w', (Builtin.append_ #[t, t] ty #[v, .slice A m c]).run P w = .ok v' w' ∧ w'.ownsRow base e E.sz v' (n + m) (xs ++ l.flatMap f) ∧ w.grownBy w' v.ownBlock ∧ Below base w w' := by
 obtain ⟨i, hi', hz, hs, hb⟩ := info_parts hi; have hnil : m = 0 → l = [] := fun h => List.eq_nil_of_length_eq_zero (by rw [hl.1, h])
 rcases hl.2.2.2.2 with hl0 | ⟨b, o, hA, _, hc⟩
 ·have hm : m = 0 := by rw [← hl.1, hl0]; rfl
  subst hm; subst hl0; rcases A with _ | ad
  ·refine ⟨v, w, ?_, by simpa using hown, World.grownBy.refl w _, Below.refl _ _⟩; rcases hown.2 with ⟨rfl, rfl⟩ | ⟨g, cap, cur, rfl, _, _, hnc, _⟩
   ·simp [Builtin.append_, run_underlying ht, sizeOf, typeInfo, hi', Builtin.lenOf, Builtin.firstCells]
   ·simp [Builtin.append_, run_underlying ht, sizeOf, typeInfo, hi', Builtin.lenOf, Builtin.firstCells, hnc, storeCells]
  ·obtain ⟨v', w', hrun, ho, hg, _⟩ := run_append_own (P := P) w base t ty e i z E.sz bytes ht hi' hz hs hb hzs hsz v n xs hown ad 0 c [] (by simp) (by simp) (by simp) h63 hbytes hbase; exact ⟨v', w', hrun, by simpa using ho, hg, (Below.refl base w).grown hg hbase (own_block hown)⟩
 ·subst hA
  obtain ⟨v', w', hrun, ho, hg, _⟩ := run_append_own (P := P) w base t ty e i z E.sz bytes ht hi' hz hs hb hzs hsz v n xs hown ⟨b, o, none⟩ m c (l.flatMap f) (by rw [flat_len f hf, hl.1])
   (by
    intro j u hu; have hadd : (⟨b, o, none⟩ : Addr).add j = ⟨b, o + j, none⟩ := by unfold Addr.add; split <;> simp_all
    rw [hadd]
    have hjl : j < (l.flatMap f).length := by
     rcases Nat.lt_or_ge j (l.flatMap f).length with h | h
     ·exact h
     ·rw [List.getElem?_eq_none h] at hu; cases hu
    rw [flat_len f hf] at hjl; have hq : j / E.sz < l.length := Nat.div_lt_of_lt_mul (by rw [Nat.mul_comm]; exact hjl); obtain ⟨cs, hok, hcs⟩ := hc (j / E.sz) _ (List.getElem?_eq_getElem hq); have he := hE hok; subst he; have hp := flat_piece f hf l (j / E.sz) _ (List.getElem?_eq_getElem hq)
    have h3 : (f l[j / E.sz])[j % E.sz]? = some u := by
     rw [← hp, List.getElem?_take, if_pos (Nat.mod_lt _ hsz), List.getElem?_drop]; rw [show j / E.sz * E.sz + j % E.sz = j from by rw [Nat.mul_comm]; exact Nat.div_add_mod _ _]; exact hu
    have h4 := hcs _ _ h3; rw [show o + j / E.sz * E.sz + j % E.sz = o + j from by rw [Nat.add_assoc, Nat.mul_comm, Nat.div_add_mod]] at h4
    exact h4)
   (by intro u hu; obtain ⟨x, _, hx⟩ := List.mem_flatMap.1 hu; exact h1 x u hx) h63 hbytes hbase
  exact ⟨v', w', hrun, ho, hg, (Below.refl base w).grown hg hbase (own_block hown)⟩
theorem heapNew {w : World} {o : Obj} {g : Nat} (h : w.heap.size = g) : (w.alloc o).heap[g]? = some o := by subst h; exact heap_alloc_new w o
theorem heapOld {w : World} {o x : Obj} {g : Nat} (h : w.heap[g]? = some x) : (w.alloc o).heap[g]? = some x := (Below.heap_alloc w o g (glt h)).trans h
theorem own_empty {w : World} {base e sz g : Nat} (hb : base ≤ g) (h : w.heap[g]? = some (.cells #[] e (0, 0))) : w.ownsRow base e sz (.slice (some ⟨g, 0, none⟩) 0 0) 0 [] :=
 ⟨by simp, .inr ⟨g, 0, #[], rfl, hb, h, Nat.le_refl _, Nat.zero_le _, by simp, by simp⟩⟩
theorem run_push_at {P : Program} (w : World) {base t ty e size bytes : Nat} {z : Value} (ht : P.underlying t = some (.slice e)) (hi : (P.info? e).map (fun i => (i.zero, i.size, i.bytes)) = some (some z, size, bytes))
 (hzs : z.cells.size = size) (hsz : 0 < size) {v : Value} {n : Nat} {xs : List Value} (hown : w.ownsRow base e size v n xs) (g : Nat) (cs : List Value) (hl : cs.length = size) (hg : w.heap[g]? = some (.cells cs.toArray e (0, 0))) (h1 : ∀ u ∈ cs, u.oneCell' = true)
 (h63 : n + 1 ≤ maxLen) (hbytes : (n + 1) * bytes ≤ 140737488355328) (hbase : base ≤ w.heap.size) :
 ∃ v' w', (Builtin.append_ #[t, t] ty #[v, .slice (some ⟨g, 0, none⟩) 1 1]).run P w = .ok v' w' ∧ w'.ownsRow base e size v' (n + 1) (xs ++ cs) ∧ w.grownBy w' v.ownBlock ∧ Below base w w' := by
 obtain ⟨i, hi', hz, hs, hb⟩ := info_parts hi
 have hnews : ∀ j u, cs[j]? = some u → w.cell? ((⟨g, 0, none⟩ : Addr).add j) = some u := by
  intro j u hu; have hadd : (⟨g, 0, none⟩ : Addr).add j = ⟨g, j, none⟩ := by unfold Addr.add; split <;> simp_all
  rw [hadd, cell_of_row _ g j cs.toArray e (0, 0) hg]; simpa using hu
 obtain ⟨v', w', hrun, ho, hgr, _⟩ := run_append_own (P := P) w base t ty e i z size bytes ht hi' hz hs hb hzs hsz v n xs hown ⟨g, 0, none⟩ 1 1 cs (by rw [hl]; omega) hnews h1 h63 hbytes hbase; exact ⟨v', w', hrun, ho, hgr, (Below.refl base w).grown hgr hbase (own_block hown)⟩
section
variable {P : Program} {w : World} {it g : Nat} {kvs done : List (ByteArray × Value)}
end
end Go.Proofs.YtaeedepojpablaaGreatDoor

namespace Go.Proofs.YtaeedepojpablaaGreatDoor
open Go.RowKit
def Opens {α : Type} (P : Program) (t : TypeId) (E : Enc α) : Prop :=
 ∀ (H : Type) (enc : TypeId × Value → H) (w : World) (fuel : Nat) (cs : List Value) (x : DataW H × List MemPlace),
   DataW.trod enc P w 0 (fun _ => true) true fuel t cs = some x → (∀ n ∈ x.1.weights P t, n ≤ reachBytes) → ∃ y : α, E.ok w w.heap.size cs y
theorem reach_eq : reachBytes = reachN := by decide
theorem opens_str {P : Program} {t : TypeId} (h : P.underlying t = some .string) : Opens P t Enc.str := by
 intro H enc w fuel cs x hx hwt; obtain ⟨s, rfl, rfl, _⟩ := DataW.trod_string h hx; refine ⟨s, rfl, ?_⟩; have := hwt s.data.toList.length (by simp [DataW.weights]); rw [reach_eq] at this; simpa using this
end Go.Proofs.YtaeedepojpablaaGreatDoor

namespace Go.Proofs.YtaeedepojpablaaGreatDoor
open Go.RowKit
def RetInt (n : Int) (w : World) (e : Ending) (w' : World) : Prop := e = .returned (.int .i64 n) ∧ Below w.heap.size w w'
def RetBool (b : Bool) (w : World) (e : Ending) (w' : World) : Prop := e = .returned (.bool b) ∧ Below w.heap.size w w'
theorem num_any (n : Int) (w : World) : Calls Tryz.prog 15 #[errV 89 n] w (RetInt n w) := by
 by_cases h : n = 0
 ·subst h; simp only [errV, if_true]; go_enter Tryz.func15, Tryz.ntmps15
  go_wp2
  go_ret; exact ⟨rfl, Below.refl _ _⟩
 ·simp only [errV, if_neg h]; have h1 : ((n : Int) != 0) = true := by simp [h]
  have ta : ∀ w, (Instr.typeAssert (.iface 89 (.int .i64 n)) 28 89 true).run Tryz.prog w = .ok (.tuple #[.int .i64 n, .bool true]) w := fun _ => by kernel_rfl
  clear h; go_enter Tryz.func15, Tryz.ntmps15
  go_wp2
  go_ret; exact ⟨rfl, Below.refl _ _⟩
theorem GV.beq_iff (x y : GV) : x.beq y = true ↔ x = y := by
 cases x; cases y
 simp [GV.beq, toList_inj]
instance : DecidableEq GV := fun x y => if h : x.beq y = true then isTrue ((GV.beq_iff x y).1 h) else isFalse (fun e => h ((GV.beq_iff x y).2 e))
end Go.Proofs.YtaeedepojpablaaGreatDoor
