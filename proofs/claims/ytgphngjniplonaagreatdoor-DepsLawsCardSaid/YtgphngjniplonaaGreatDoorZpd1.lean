/- My own texts Base, VFrame, Range, Range2, Drawn, MapN, DrawnS, DgB1, as far as this claim needs them. -/
import Derived.Test.YtgphngjniplonaaGreatDoorZp25
set_option linter.unusedVariables false
set_option linter.unusedSimpArgs false
set_option maxRecDepth 1000000
set_option maxHeartbeats 16000000
namespace Go.Proofs.YtgphngjniplonaaGreatDoor
open Go.RowKit
def kvSet {α : Type} : List (ByteArray × α) → ByteArray → α → List (ByteArray × α)
  | [], s, v => [(s, v)]
  | p :: l, s, v => if p.1 = s then (s, v) :: l else p :: kvSet l s v
section
variable {P : Program} {w : World} {b : Nat} {kvs : List (ByteArray × Value)}
theorem kvSet_mem {α : Type} {l : List (ByteArray × α)} {s : ByteArray} {v : α} {x : ByteArray} : x ∈ (kvSet l s v).map Prod.fst ↔ x ∈ l.map Prod.fst ∨ x = s := by
  induction l with
  | nil => simp [kvSet]
  | cons p l ih =>
    unfold kvSet
    split
    · rename_i h
      simp only [List.map_cons, List.mem_cons, h]
      constructor
      · rintro (h | h)
        · exact .inr h
        · exact .inl (.inr h)
      · rintro ((h | h) | h)
        · exact .inl h
        · exact .inr h
        · exact .inl h
    · simp only [List.map_cons, List.mem_cons, ih, or_assoc]
end
section
variable {w : World} {B : Nat} {A : Option Addr} {n c : Nat}
end
theorem nodup_len {α : Type} : ∀ (l m : List α), l.Nodup → (∀ x ∈ l, x ∈ m) → l.length ≤ m.length
  | [], _, _, _ => Nat.zero_le _
  | x :: l, m, hn, hs => by
    obtain ⟨s, t, rfl⟩ := List.append_of_mem (hs x (by simp))
    rw [List.nodup_cons] at hn
    have := nodup_len l (s ++ t) hn.2 (fun y hy => by
      have := hs y (by simp [hy])
      simp only [List.mem_append, List.mem_cons] at this ⊢
      rcases this with h | h | h
      · exact .inl h
      · subst h; exact absurd hy hn.1
      · exact .inr h)
    simp only [List.length_append, List.length_cons] at this ⊢
    omega
section
variable {P : Program} {w : World} {it g : Nat} {kvs done : List (ByteArray × Value)}
end
end Go.Proofs.YtgphngjniplonaaGreatDoor

namespace Go.Proofs.YtgphngjniplonaaGreatDoor
open Go.ChangeShapes Go.WideShapes Go.ChangeAt Go.RowKit
set_option linter.unusedVariables false
theorem open_int' {H : Type} {enc : TypeId × Value → H} {P : Program} {w : World} {t : TypeId} {v : Value} {d : DataW H} {p : List MemPlace} {r : Reach} {b0 : Nat} {k : IntKind} (hs : P.underlying t = some (.int k)) (hval : Value.okWide P w r b0 t v)
    (h : DataW.Trod enc P w 0 (fun _ => true) true t v d p) : ∃ n : Int, v = .int k n ∧ (Lit.int k n).wf = true := by
  obtain ⟨n, rfl, -, -, hw⟩ := open_int hs hval h
  exact ⟨n, rfl, hw⟩
end Go.Proofs.YtgphngjniplonaaGreatDoor

namespace Go.Proofs.YtgphngjniplonaaGreatDoor
open Go.RowKit
theorem Soft.refl (B : Nat) (w : World) : Soft B w w := ⟨rfl, rfl, rfl, Nat.le_refl _, fun _ _ h _ => h⟩
section
variable {n : Nat} {P : Program}
end
end Go.Proofs.YtgphngjniplonaaGreatDoor

namespace Go.Proofs.YtgphngjniplonaaGreatDoor
open Go.RowKit
theorem Turn2.of_below {S : List Nat} {N B0 : Nat} {w w' : World} (h : Below w.heap.size w w') (hN : N ≤ w.heap.size) : Turn2 S N B0 w w' :=
  ⟨h.os, h.tape, h.output, h.size, fun b hb _ => h.block b (by omega), fun b _ hb => h.block b hb⟩
section
variable {n : Nat} {P : Program}
end
end Go.Proofs.YtgphngjniplonaaGreatDoor

namespace Go.Proofs.YtgphngjniplonaaGreatDoor
open Go.RowKit
section
variable {P : Program} {ops : Array Oper} {Q : Exit → Act → World → Prop}
theorem act_lit {a : Act} (n : Nat) (hs : a.tmps.size = n) (hd : a.defers = []) : ∃ f : Nat → Value, a = ⟨((List.range n).map f).toArray, []⟩ ∧ ∀ k v, a.tmps[k]? = some v → f k = v := by
  refine ⟨fun i => a.tmps.getD i undef, ?_, fun k v h => by simp [h]⟩
  cases a with
  | mk t d =>
    simp only at hs hd
    subst hd
    congr 1
    apply Array.ext
    · simp [hs]
    · intro i h1 h2
      simp [h1]
end
end Go.Proofs.YtgphngjniplonaaGreatDoor

namespace Go.Proofs.YtgphngjniplonaaGreatDoor
open Go.RowKit
def knGet {α : Type} (l : List (Int × α)) (s : Int) : Option α := (l.find? (fun p => p.1 == s)).map (·.2)
def knSet {α : Type} : List (Int × α) → Int → α → List (Int × α)
  | [], s, v => [(s, v)]
  | p :: l, s, v => if p.1 = s then (s, v) :: l else p :: knSet l s v
structure MapN (w : World) (b : Nat) (kvs : List (Int × Value)) : Prop where
  ex : ∃ es clock, w.heap[b]? = some (.map es clock) ∧ es.toList.map (fun e => (e.key, e.val)) = kvs.map (fun p => (Value.int .i64 p.1, p.2)) ∧
    (es.toList.map (·.born)).Nodup ∧ ∀ e ∈ es.toList, e.born < clock
  keys : (kvs.map Prod.fst).Nodup
theorem findNow_strN (s : Int) : ∀ (l : List MapEntry) (kvs : List (Int × Value)) (i : Nat),
    l.map (fun e => (e.key, e.val)) = kvs.map (fun p => (Value.int .i64 p.1, p.2)) →
    Instr.findNow (.int .i64) (.int .i64 s) l i = some ((kvs.findIdx? (fun p => p.1 == s)).map fun j => (i + j, ((kvs[j]?).map (·.2)).getD undef))
  | [], kvs, i, h => by
    cases kvs with
    | nil => simp [Instr.findNow]
    | cons p kvs => simp at h
  | e :: l, kvs, i, h => by
    cases kvs with
    | nil => simp at h
    | cons p kvs =>
      simp only [List.map_cons, List.cons.injEq, Prod.mk.injEq] at h
      obtain ⟨⟨hk, hv⟩, ht⟩ := h
      have ih := findNow_strN s l kvs (i + 1) ht
      simp only [Instr.findNow, hk, Instr.sameNow]
      by_cases hs : p.1 = s
      · subst hs
        simp [List.findIdx?_cons, hv]
      · have h1 : (s == p.1) = false := by simp; exact fun e => hs e.symm
        have h2 : (p.1 == s) = false := by simp [hs]
        rw [h1]
        simp only [ih, List.findIdx?_cons, h2]
        congr 1
        simp [Option.map_map, Function.comp_def]
        cases List.findIdx? (fun p => p.1 == s) kvs <;> simp [Nat.add_assoc, Nat.add_comm 1]
theorem findIdx_getN {α : Type} (kvs : List (Int × α)) (s : Int) (d : α) :
    ((kvs.findIdx? (fun p => p.1 == s)).map fun j => ((kvs[j]?).map (·.2)).getD d) = knGet kvs s := by
  induction kvs with
  | nil => simp [knGet]
  | cons p kvs ih =>
    by_cases hs : p.1 = s
    · simp [knGet, List.findIdx?_cons, hs]
    · have h2 : (p.1 == s) = false := by simp [hs]
      simp only [knGet, List.findIdx?_cons, h2, List.find?_cons] at ih ⊢
      rw [← ih]
      simp [Option.map_map, Function.comp_def]
section
variable {P : Program} {w : World} {b : Nat} {kvs : List (Int × Value)}
theorem run_checkKey_strN {k : TypeId} (hk : P.underlying k = some (.int .i64)) (e : Bool) (s : Int) : (Instr.checkKey e 10000 k (.int .i64 s)).run P w = .ok () w := by
  exact MapKept.run_checkKey hk (by simp [MapKept.IsKey]) e 9999
theorem MapN.lookup_ok (h : MapN w b kvs) {t k e : TypeId} (ht : P.underlying t = some (.map k e)) (hk : P.underlying k = some (.int .i64)) {z : Value} (hz : (zeroValue e).run P w = .ok z w) (s : Int) :
    (Instr.lookup t (.map (some b)) (.int .i64 s) true).run P w = .ok (.tuple #[(knGet kvs s).getD z, .bool (knGet kvs s).isSome]) w := by
  obtain ⟨es, clock, hb, hes, _, _⟩ := h.ex
  have h1 := findNow_strN s es.toList kvs 0 hes
  have h2 := findIdx_getN kvs s undef
  simp only [Instr.lookup, Sem.run_bind, run_underlying ht, Result.andThen_ok, MapKept.run_getObj_map hb, run_checkKey_strN hk, MapKept.run_findKey hk h1, Sem.run_pure]
  rw [← h2]
  cases List.findIdx? (fun p => p.1 == s) kvs with
  | none => simp [hz]
  | some j => simp
theorem MapN.lookup (h : MapN w b kvs) {t k e : TypeId} (ht : P.underlying t = some (.map k e)) (hk : P.underlying k = some (.int .i64)) {z : Value} (hz : (zeroValue e).run P w = .ok z w) (s : Int) :
    (Instr.lookup t (.map (some b)) (.int .i64 s) false).run P w = .ok ((knGet kvs s).getD z) w := by
  obtain ⟨es, clock, hb, hes, _, _⟩ := h.ex
  have h1 := findNow_strN s es.toList kvs 0 hes
  have h2 := findIdx_getN kvs s undef
  simp only [Instr.lookup, Sem.run_bind, run_underlying ht, Result.andThen_ok, MapKept.run_getObj_map hb, run_checkKey_strN hk, MapKept.run_findKey hk h1, Sem.run_pure]
  rw [← h2]
  cases List.findIdx? (fun p => p.1 == s) kvs with
  | none => simp [hz]
  | some j => simp
theorem kvSet_memN {α : Type} {l : List (Int × α)} {s : Int} {v : α} {x : Int} : x ∈ (knSet l s v).map Prod.fst ↔ x ∈ l.map Prod.fst ∨ x = s := by
  induction l with
  | nil => simp [knSet]
  | cons p l ih =>
    unfold knSet
    split
    · rename_i h
      simp only [List.map_cons, List.mem_cons, h]
      constructor
      · rintro (h | h)
        · exact .inr h
        · exact .inl (.inr h)
      · rintro ((h | h) | h)
        · exact .inl h
        · exact .inr h
        · exact .inl h
    · simp only [List.map_cons, List.mem_cons, ih, or_assoc]
theorem kvSet_keysN {α : Type} {l : List (Int × α)} {s : Int} {v : α} (h : (l.map Prod.fst).Nodup) : ((knSet l s v).map Prod.fst).Nodup := by
  induction l with
  | nil => simp [knSet]
  | cons p l ih =>
    simp only [List.map_cons, List.nodup_cons] at h
    unfold knSet
    split
    · rename_i e
      simp only [List.map_cons, List.nodup_cons]
      rw [← e]; exact h
    · rename_i e
      simp only [List.map_cons, List.nodup_cons, kvSet_memN]
      refine ⟨?_, ih h.2⟩
      rintro (hm | hm)
      · exact h.1 hm
      · exact e hm
theorem kvGet_consN {α : Type} (p : Int × α) (l : List (Int × α)) (t : Int) : knGet (p :: l) t = if p.1 = t then some p.2 else knGet l t := by
  by_cases h : p.1 = t
  · simp [knGet, h]
  · simp only [knGet, List.find?_cons, beq_eq_false_iff_ne.2 h, if_neg h]
theorem kvSet_noneN {α : Type} {l : List (Int × α)} {s : Int} (v : α) (h : l.findIdx? (fun p => p.1 == s) = none) : knSet l s v = l ++ [(s, v)] := by
  induction l with
  | nil => rfl
  | cons p l ih =>
    rw [List.findIdx?_cons] at h
    by_cases e : p.1 = s
    · simp [e] at h
    · simp only [beq_eq_false_iff_ne.2 e, Bool.false_eq_true, if_false, Option.map_eq_none_iff] at h
      unfold knSet
      rw [if_neg e, ih h]; rfl
theorem kvSet_someN {α : Type} {l : List (Int × α)} {s : Int} (v : α) {j : Nat} (h : l.findIdx? (fun p => p.1 == s) = some j) : knSet l s v = l.set j (s, v) := by
  induction l generalizing j with
  | nil => simp at h
  | cons p l ih =>
    rw [List.findIdx?_cons] at h
    by_cases e : p.1 = s
    · simp [e] at h
      subst h
      unfold knSet
      rw [if_pos e]; rfl
    · simp only [beq_eq_false_iff_ne.2 e, Bool.false_eq_true, if_false, Option.map_eq_some_iff] at h
      obtain ⟨i, hi, rfl⟩ := h
      unfold knSet
      rw [if_neg e, ih hi]; rfl
theorem stamps_modifyN {es : Array MapEntry} (j : Nat) (f : MapEntry → MapEntry) (hf : ∀ e, (f e).born = e.born) : (es.modify j f).toList.map (·.born) = es.toList.map (·.born) := by
  apply List.ext_getElem?
  intro i
  simp only [List.getElem?_map, Array.getElem?_toList, Array.getElem?_modify]
  split
  · cases es[i]? <;> simp [hf]
  · rfl
theorem heap_set_grownN {o : Obj} : w.grownBy { w with heap := w.heap.setIfInBounds b o } (some b) :=
  ⟨rfl, rfl, rfl, by simp, fun k _ hne => by
    show (w.heap.setIfInBounds b o)[k]? = _
    rw [Array.getElem?_setIfInBounds_ne (by intro e; exact hne (by rw [e]))]⟩
theorem findIdx_someN {α : Type} {kvs : List (Int × α)} {s : Int} {j : Nat} (h : kvs.findIdx? (fun p => p.1 == s) = some j) : ∃ v, kvs[j]? = some (s, v) := by
  rw [List.findIdx?_eq_some_iff_getElem] at h
  obtain ⟨hlt, h1, _⟩ := h
  refine ⟨kvs[j].2, ?_⟩
  rw [List.getElem?_eq_getElem hlt]
  simp at h1
  rw [← h1]
theorem MapN.update (h : MapN w b kvs) {t k e : TypeId} (ht : P.underlying t = some (.map k e)) (hk : P.underlying k = some (.int .i64)) (s : Int) (v : Value) :
    ∃ w', (Instr.mapUpdate t (.map (some b)) (.int .i64 s) v).run P w = .ok () w' ∧ MapN w' b (knSet kvs s v) ∧ w.grownBy w' (some b) ∧ w'.heap.size = w.heap.size := by
  obtain ⟨es, clock, hb, hes, hn, hc⟩ := h.ex
  have hlt : b < w.heap.size := (Array.getElem?_eq_some_iff.1 hb).1
  have h1 := findNow_strN s es.toList kvs 0 hes
  have hky : MapKept.IsKey (.int .i64) (.int .i64 s) := by simp [MapKept.IsKey]
  cases hf : kvs.findIdx? (fun p => p.1 == s) with
  | none =>
    rw [hf] at h1
    refine ⟨_, by simp [Instr.mapUpdate, run_underlying ht, MapKept.run_getObj_map hb, run_checkKey_strN hk, MapKept.run_findKey hk h1, MapKept.run_setObj_map _ hb, Result.andThen]; rfl, ?_, heap_set_grownN, by simp⟩
    refine ⟨⟨es.push ⟨.int .i64 s, v, clock⟩, clock + 1, by simp [hlt], ?_, ?_, ?_⟩, kvSet_keysN h.keys⟩
    · rw [kvSet_noneN v hf]
      simp only [Array.toList_push, List.map_append, hes]
      simp
    · simp only [Array.toList_push, List.map_append, List.nodup_append]
      refine ⟨hn, by simp, ?_⟩
      intro a ha b hb'
      simp at hb'
      subst hb'
      simp at ha
      obtain ⟨x, hx, rfl⟩ := ha
      have := hc x (by simpa using hx)
      simp; omega
    · intro x hx
      simp at hx
      rcases hx with hx | rfl
      · have := hc x (by simpa using hx); omega
      · simp
  | some j =>
    rw [hf] at h1
    obtain ⟨v0, hj⟩ := findIdx_someN hf
    have hej : ∃ ej, es[j]? = some ej ∧ ej.key = Value.int .i64 s := by
      have := congrArg (fun l => l[j]?) hes
      simp only [List.getElem?_map, hj, Option.map_some, Array.getElem?_toList] at this
      cases hh : es[j]? with
      | none => rw [hh] at this; simp at this
      | some ej => rw [hh] at this; simp at this; exact ⟨ej, rfl, this.1⟩
    obtain ⟨ej, hej, hkey⟩ := hej
    refine ⟨_, by simp [Instr.mapUpdate, run_underlying ht, MapKept.run_getObj_map hb, run_checkKey_strN hk, MapKept.run_findKey hk h1, hej, hkey, MapKept.run_keyThatStays hky, MapKept.run_setObj_map _ hb, Result.andThen]; rfl, ?_, heap_set_grownN, by simp⟩
    refine ⟨⟨_, clock, by simp [hlt]; rfl, ?_, ?_, ?_⟩, kvSet_keysN h.keys⟩
    · rw [kvSet_someN v hf]
      apply List.ext_getElem?
      intro i
      have hlt' : j < kvs.length := (List.getElem?_eq_some_iff.1 hj).1
      simp only [List.getElem?_map, Array.getElem?_toList, Array.getElem?_modify, List.getElem?_set, hlt', if_true]
      have hi := congrArg (fun l => l[i]?) hes
      simp only [List.getElem?_map, Array.getElem?_toList] at hi
      by_cases hij : j = i
      · subst hij
        simp [hej]
      · rw [if_neg hij, if_neg hij]
        exact hi
    · have := stamps_modifyN (es := es) j (fun e => { key := Value.int .i64 s, val := v, born := e.born }) (fun _ => rfl)
      rw [this]; exact hn
    · intro x hx
      have h2 : x.born ∈ (es.modify j fun e => { key := Value.int .i64 s, val := v, born := e.born }).toList.map (·.born) := List.mem_map.2 ⟨x, hx, rfl⟩
      rw [stamps_modifyN (es := es) j (fun e => { key := Value.int .i64 s, val := v, born := e.born }) (fun _ => rfl)] at h2
      obtain ⟨y, hy, e⟩ := List.mem_map.1 h2
      have := hc y hy
      omega
theorem MapN.made : MapN (w.alloc (.map #[] 0)) w.heap.size [] :=
  ⟨⟨#[], 0, heap_alloc_new w _, rfl, by simp, by simp⟩, by simp⟩
theorem MapN.lt (h : MapN w b kvs) : b < w.heap.size := by
  obtain ⟨es, clock, hb, _⟩ := h.ex
  exact (Array.getElem?_eq_some_iff.1 hb).1
theorem MapN.same {w' : World} (h : MapN w b kvs) (hs : w'.heap[b]? = w.heap[b]?) : MapN w' b kvs := by
  obtain ⟨⟨es, clock, hb, r⟩, k⟩ := h
  exact ⟨⟨es, clock, by rw [hs]; exact hb, r⟩, k⟩
theorem MapN.below {w' : World} {B : Nat} (h : MapN w b kvs) (hb : Below B w w') (hB : b < B) : MapN w' b kvs := h.same (hb.block b hB)
theorem MapN.alloc (h : MapN w b kvs) (o : Obj) : MapN (w.alloc o) b kvs := h.same (Below.heap_alloc w o b h.lt)
theorem MapN.drew (h : MapN w b kvs) : MapN w.drew b kvs := h.same rfl
end
end Go.Proofs.YtgphngjniplonaaGreatDoor

namespace Go.Proofs.YtgphngjniplonaaGreatDoor
open Go.RowKit
section
variable {P : Program} {ops : Array Oper}
def okL (ops : Array Oper) (n : Nat) : Bool := okS ops n && (List.range (ops.size - 1)).all fun i => (ancs ops ops.size (ops.size - 1)).contains i
end
end Go.Proofs.YtgphngjniplonaaGreatDoor

namespace Go.Proofs.YtgphngjniplonaaGreatDoor
open Go.RowKit
theorem order_any (x y : GEdge) (w : World) : Calls Tryz.prog 43 #[x.v, y.v] w (RetInt (ordE x y) w) := by
  rw [← ordE_first]
  have hK := Lib.hid (fun p q w => cmpIE_any p q w)
  have hI := Lib.hid (fun b w => number_any b w)
  have f1 := cmpNE_fits x.a y.a
  have f2 := cmpNE_fits x.b y.b
  have f3 := cmpNE_fits (numbB x.n) (numbB y.n)
  have hO := Lib.hid (fun W => orE_any (some ⟨W.heap.size, 0, none⟩) 3 3 [cmpNE x.a y.a, cmpNE x.b y.b, cmpNE (numbB x.n) (numbB y.n)] (W.alloc (.cells #[.int .i64 (cmpNE x.a y.a), .int .i64 (cmpNE x.b y.b), .int .i64 (cmpNE (numbB x.n) (numbB y.n))] 3)).drew (ints3E (W := W) f1 f2 f3))
  generalize firstNZE [cmpNE x.a y.a, cmpNE x.b y.b, cmpNE (numbB x.n) (numbB y.n)] = res at hO ⊢
  clear f1 f2 f3
  go_enter Tryz.func43, Tryz.ntmps43
  go_wp2_with fail
  have hbw : Below w.heap.size w ((w.alloc (.cells #[.int .i64 x.a, .int .i64 x.b, .bool x.n] 71)).alloc (.cells #[.int .i64 y.a, .int .i64 y.b, .bool y.n] 71)) := belowA (belowA (Below.refl _ _) _) _
  have hg0 : ((w.alloc (.cells #[.int .i64 x.a, .int .i64 x.b, .bool x.n] 71)).alloc (.cells #[.int .i64 y.a, .int .i64 y.b, .bool y.n] 71)).heap[w.heap.size]? = some (.cells #[.int .i64 x.a, .int .i64 x.b, .bool x.n] 71 (0, 0)) := heapOld (heapNew rfl)
  have hg1 : ((w.alloc (.cells #[.int .i64 x.a, .int .i64 x.b, .bool x.n] 71)).alloc (.cells #[.int .i64 y.a, .int .i64 y.b, .bool y.n] 71)).heap[w.heap.size + 1]? = some (.cells #[.int .i64 y.a, .int .i64 y.b, .bool y.n] 71 (0, 0)) := heapNew (by simp)
  generalize (w.alloc (.cells #[.int .i64 x.a, .int .i64 x.b, .bool x.n] 71)).alloc (.cells #[.int .i64 y.a, .int .i64 y.b, .bool y.n] 71) = wb at hbw hg0 hg1 ⊢
  have hl0 := (Array.getElem?_eq_some_iff.1 hg0).1
  have hl1 := (Array.getElem?_eq_some_iff.1 hg1).1
  have Hk := Lib.hid (fun W (h : Below wb.heap.size wb W) => show W.cell? ⟨w.heap.size, 0, none⟩ = some (.int .i64 x.a) ∧ W.cell? ⟨w.heap.size, 1, none⟩ = some (.int .i64 x.b) ∧ W.cell? ⟨w.heap.size, 2, none⟩ = some (.bool x.n) ∧ W.cell? ⟨w.heap.size + 1, 0, none⟩ = some (.int .i64 y.a) ∧ W.cell? ⟨w.heap.size + 1, 1, none⟩ = some (.int .i64 y.b) ∧ W.cell? ⟨w.heap.size + 1, 2, none⟩ = some (.bool y.n) from
    ⟨(cell_of_row _ _ 0 _ _ _ ((h.block _ hl0).trans hg0)).trans rfl, (cell_of_row _ _ 1 _ _ _ ((h.block _ hl0).trans hg0)).trans rfl, (cell_of_row _ _ 2 _ _ _ ((h.block _ hl0).trans hg0)).trans rfl, (cell_of_row _ _ 0 _ _ _ ((h.block _ hl1).trans hg1)).trans rfl, (cell_of_row _ _ 1 _ _ _ ((h.block _ hl1).trans hg1)).trans rfl, (cell_of_row _ _ 2 _ _ _ ((h.block _ hl1).trans hg1)).trans rfl⟩)
  clear hg0 hg1 hl0 hl1
  go_region_held3 (fun w' => w'.cell? ⟨w.heap.size, 0, none⟩ = some (.int .i64 x.a) ∧ w'.cell? ⟨w.heap.size, 1, none⟩ = some (.int .i64 x.b) ∧ w'.cell? ⟨w.heap.size, 2, none⟩ = some (.bool x.n) ∧ w'.cell? ⟨w.heap.size + 1, 0, none⟩ = some (.int .i64 y.a) ∧ w'.cell? ⟨w.heap.size + 1, 1, none⟩ = some (.int .i64 y.b) ∧ w'.cell? ⟨w.heap.size + 1, 2, none⟩ = some (.bool y.n))
    (first
      | (refine Hk.out _ ?_; (repeat (first | with_reducible exact Below.refl _ _ | with_reducible assumption | with_reducible refine Below.drew ?_ | with_reducible refine belowA ?_ _)))
      | go_keep)
    ((first
      | (go_at_call 70
         refine (hK.out _ _ _).mono ?_
         rintro e w1 ⟨rfl, rfl⟩)
      | (go_at_call 71
         refine (hI.out _ _).mono ?_
         rintro e w1 ⟨rfl, rfl⟩)
      | (go_at_call 69
         refine (hO.out _).mono ?_
         rintro e w1 ⟨rfl, rfl⟩)))
  all_goals
    go_wp2_with fail
    go_ret
    refine ⟨by simp, hbw.trans (Below.mono ?_ hbw.size)⟩
    repeat (first | with_reducible exact Below.refl _ _ | with_reducible assumption | with_reducible refine Below.drew ?_ | with_reducible refine belowA ?_ _)
end Go.Proofs.YtgphngjniplonaaGreatDoor
namespace Go.Proofs.YtgphngjniplonaaGreatDoor
end Go.Proofs.YtgphngjniplonaaGreatDoor
namespace Go.Proofs.YtgphngjniplonaaGreatDoor
theorem nodup_lenN : ∀ (N : Nat) (l : List Nat), l.Nodup → (∀ x ∈ l, x < N) → l.length ≤ N
  | 0, l, _, h => by
    cases l with
    | nil => exact Nat.le_refl _
    | cons x l => exact absurd (h x (List.mem_cons_self ..)) (by omega)
  | N + 1, l, hn, h => by
    have h1 : (l.filter (fun x => decide (x ≠ N))).length ≤ N := nodup_lenN N _ (hn.sublist List.filter_sublist) (fun x hx => by
      simp only [List.mem_filter, decide_eq_true_eq] at hx
      have := h x hx.1
      omega)
    have h2 : ∀ (l : List Nat), l.Nodup → l.length ≤ (l.filter (fun x => decide (x ≠ N))).length + 1 := by
      intro l hn
      induction l with
      | nil => simp
      | cons y t ih =>
        rw [List.nodup_cons] at hn
        by_cases hy : y = N
        · have ht : t.filter (fun x => decide (x ≠ N)) = t := List.filter_eq_self.2 (fun x hx => by
            simp only [decide_eq_true_eq]
            intro e
            exact hn.1 (by rw [hy, ← e]; exact hx))
          rw [List.filter_cons_of_neg (by simp [hy]), ht]; simp
        · rw [List.filter_cons_of_pos (by simp [hy])]
          have := ih hn.2
          simp only [List.length_cons]
          omega
    have := h2 l hn
    omega
section
variable {has : Nat → Nat → Bool}
def IsWay (has : Nat → Nat → Bool) : Nat → List Nat → Prop
  | _, [] => True
  | a, x :: l => has a x = true ∧ IsWay has x l
def wayEnd : Nat → List Nat → Nat
  | a, [] => a
  | _, x :: l => wayEnd x l
theorem wayEnd_append : ∀ (a : Nat) (l m : List Nat), wayEnd a (l ++ m) = wayEnd (wayEnd a l) m
  | _, [], _ => rfl
  | _, x :: l, m => wayEnd_append x l m
theorem isWay_append : ∀ (a : Nat) (l m : List Nat), IsWay has a (l ++ m) ↔ IsWay has a l ∧ IsWay has (wayEnd a l) m
  | _, [], _ => by simp [IsWay, wayEnd]
  | a, x :: l, m => by
    simp only [List.cons_append, IsWay, wayEnd, isWay_append x l m, and_assoc]
theorem not_nodupE : ∀ (l : List Nat), ¬ l.Nodup → ∃ p x q r, l = p ++ x :: (q ++ x :: r)
  | [], h => absurd List.nodup_nil h
  | y :: t, h => by
    by_cases hy : y ∈ t
    · obtain ⟨q, r, rfl⟩ := List.append_of_mem hy
      exact ⟨[], y, q, r, rfl⟩
    · have ht : ¬ t.Nodup := fun ht => h (List.nodup_cons.2 ⟨hy, ht⟩)
      obtain ⟨p, x, q, r, rfl⟩ := not_nodupE t ht
      exact ⟨y :: p, x, q, r, rfl⟩
theorem way_short : ∀ (k : Nat) (a : Nat) (l : List Nat), l.length ≤ k → IsWay has a l → l ≠ [] → ∃ m, m ≠ [] ∧ IsWay has a m ∧ wayEnd a m = wayEnd a l ∧ m.Nodup ∧ m.length ≤ l.length
  | 0, a, l, hk, _, hne => absurd (List.length_eq_zero_iff.1 (by omega)) hne
  | k + 1, a, l, hk, hw, hne => by
    by_cases hn : l.Nodup
    · exact ⟨l, hne, hw, rfl, hn, Nat.le_refl _⟩
    · obtain ⟨p, x, q, r, rfl⟩ := not_nodupE l hn
      have e1 : p ++ x :: (q ++ x :: r) = (p ++ [x]) ++ (q ++ [x]) ++ r := by simp
      have e2 : p ++ x :: r = (p ++ [x]) ++ r := by simp
      have ex : ∀ c, wayEnd a (c ++ [x]) = x := fun c => by rw [wayEnd_append]; rfl
      have hw' : IsWay has a (p ++ x :: r) ∧ wayEnd a (p ++ x :: r) = wayEnd a (p ++ x :: (q ++ x :: r)) := by
        rw [e1] at hw
        rw [e1, e2]
        rw [isWay_append] at hw ⊢
        rw [isWay_append] at hw
        have ex2 : wayEnd a (p ++ [x] ++ (q ++ [x])) = x := by rw [← List.append_assoc]; exact ex _
        rw [ex2] at hw
        rw [ex]
        refine ⟨⟨hw.1.1, hw.2⟩, ?_⟩
        rw [wayEnd_append, ex, wayEnd_append, ex2]
      have hlen : (p ++ x :: r).length ≤ k := by simp at hk ⊢; omega
      obtain ⟨m, h1, h2, h3, h4, h5⟩ := way_short k a (p ++ x :: r) hlen hw'.1 (by simp)
      exact ⟨m, h1, h2, h3.trans hw'.2, h4, by simp at h5 ⊢; omega⟩
theorem way_mem : ∀ {a : Nat} {l : List Nat} {N : Nat}, (∀ x y, has x y = true → y < N) → IsWay has a l → ∀ x ∈ l, x < N
  | _, [], _, _, _, x, hx => by cases hx
  | a, y :: l, N, hN, hw, x, hx => by
    rcases List.mem_cons.1 hx with rfl | hx
    · exact hN _ _ hw.1
    · exact way_mem hN hw.2 x hx
def stepsN (N : Nat) (has : Nat → Nat → Bool) (a : Nat) : Nat → Nat → Bool
  | 0 => fun y => decide (y = a)
  | k + 1 => fun y => (List.range N).any fun x => stepsN N has a k x && has x y
theorem steps_iff {N : Nat} (hN : ∀ x y, has x y = true → y < N) {a : Nat} (ha : a < N) : ∀ (k y : Nat), stepsN N has a k y = true ↔ ∃ l, l.length = k ∧ IsWay has a l ∧ wayEnd a l = y
  | 0, y => by
    simp only [stepsN, decide_eq_true_eq]
    constructor
    · rintro rfl; exact ⟨[], rfl, trivial, rfl⟩
    · rintro ⟨l, h1, _, h3⟩
      rw [List.length_eq_zero_iff.1 h1] at h3
      exact h3.symm
  | k + 1, y => by
    simp only [stepsN, List.any_eq_true, List.mem_range, Bool.and_eq_true]
    constructor
    · rintro ⟨x, hx, h1, h2⟩
      obtain ⟨l, rfl, h4, rfl⟩ := (steps_iff hN ha k x).1 h1
      exact ⟨l ++ [y], by simp, (isWay_append _ _ _).2 ⟨h4, h2, trivial⟩, by rw [wayEnd_append]; rfl⟩
    · rintro ⟨l, h1, h2, h3⟩
      have hne : l ≠ [] := by intro e; rw [e] at h1; simp at h1
      have hl := List.dropLast_concat_getLast hne
      rw [← hl] at h2 h3
      rw [isWay_append] at h2
      rw [wayEnd_append] at h3
      have h3' : l.getLast hne = y := h3
      have hlt : wayEnd a l.dropLast < N := by
        cases hd : l.dropLast with
        | nil => exact ha
        | cons z t =>
          have hm : wayEnd a (z :: t) ∈ z :: t := by
            clear hd h2 h3 h3' hl h1 hne
            induction t generalizing z with
            | nil => simp [wayEnd]
            | cons u t ih => exact List.mem_cons_of_mem _ (ih u)
          rw [hd] at h2
          exact way_mem hN h2.1 _ hm
      refine ⟨wayEnd a l.dropLast, hlt, (steps_iff hN ha k _).2 ⟨l.dropLast, by simp [h1], h2.1, rfl⟩, ?_⟩
      rw [← h3']
      exact h2.2.1
def farN (N : Nat) (has : Nat → Nat → Bool) (a b : Nat) : Nat := (((List.range N).find? fun k => stepsN N has a (k + 1) b).map (· + 1)).getD 0
theorem far_pos {N : Nat} (hN : ∀ x y, has x y = true → y < N) {a b : Nat} (ha : a < N) : 0 < farN N has a b ↔ ∃ l, l ≠ [] ∧ IsWay has a l ∧ wayEnd a l = b := by
  unfold farN
  cases hf : (List.range N).find? fun k => stepsN N has a (k + 1) b with
  | some k =>
    have h1 := List.find?_some hf
    obtain ⟨l, h2, h3, h4⟩ := (steps_iff hN ha (k + 1) b).1 h1
    simp only [Option.map_some, Option.getD_some, Nat.zero_lt_succ, true_iff]
    exact ⟨l, by intro e; rw [e] at h2; simp at h2, h3, h4⟩
  | none =>
    rw [List.find?_eq_none] at hf
    simp only [Option.map_none, Option.getD_none, Nat.lt_irrefl, false_iff]
    rintro ⟨l, h1, h2, h3⟩
    obtain ⟨m, m1, m2, m3, m4, m5⟩ := way_short l.length a l (Nat.le_refl _) h2 h1
    have hlen := nodup_lenN N m m4 (way_mem hN m2)
    have hpos : 0 < m.length := List.length_pos_iff.2 m1
    refine hf (m.length - 1) (by simp; omega) ?_
    exact (steps_iff hN ha _ b).2 ⟨m, by omega, m2, m3.trans h3⟩
end
end Go.Proofs.YtgphngjniplonaaGreatDoor
namespace Go.Proofs.YtgphngjniplonaaGreatDoor
open Go.RowKit
structure RowOf {α : Type} (E : Enc α) (w : World) (B e : Nat) (S : List Nat) (A : Option Addr) (n c : Nat) (l : List α) : Prop where
  len : l.length = n
  ex : ∃ xs, w.ownsRow B e E.sz (.slice A n c) n xs ∧ ∀ i x, l[i]? = some x → E.ok (sans w S) w.heap.size ((xs.drop (i * E.sz)).take E.sz) x
section
variable {α : Type} {E : Enc α} {w w' : World} {B e : Nat} {S T U : List Nat} {A : Option Addr} {n c : Nat} {l : List α}
theorem RowOf.nil (w : World) : RowOf E w B e S none 0 0 ([] : List α) := ⟨rfl, [], World.ownsRow_nil _ _ _ _, fun i x h => by simp at h⟩
theorem RowOf.blk (h : RowOf E w B e S A n c l) {b : Nat} (hb : b ∈ blkOf A) : B ≤ b ∧ b < w.heap.size ∧ ∃ cur, w.heap[b]? = some (.cells cur e (0, 0)) := by
  obtain ⟨-, xs, h1, -⟩ := h
  rw [← ownBlock_blk A n c] at hb
  have hb' := Option.mem_toList.1 hb
  exact ⟨(own_blk h1 hb').1, (own_blk h1 hb').2, own_typeR h1 hb'⟩
theorem RowOf.out (h : RowOf E w B e S A n c l) (ho : Out T w w') (hv : ∀ b ∈ blkOf A, b ∉ T) (hT : ∀ b ∈ T, b < w.heap.size → b ∈ S) (hU : ∀ b ∈ U, b < w.heap.size → b ∈ S) : RowOf E w' B e U A n c l := by
  obtain ⟨h0, xs, h1, h2⟩ := h
  refine ⟨h0, xs, own_out' h1 ho (fun b hb => hv b ?_), fun i x hx => E.mono ho.size (ho.kept hT hU) (h2 i x hx)⟩
  rw [← ownBlock_blk A n c]; exact Option.mem_toList.2 hb
theorem RowOf.below (h : RowOf E w B e S A n c l) (hb : Below w.heap.size w w') : RowOf E w' B e S A n c l :=
  h.out (T := []) (Out.of_below hb []) (fun b _ hb => by cases hb) (fun b hb _ => by cases hb) (fun _ hb _ => hb)
theorem RowOf.push {P : Program} {t ty size bytes : Nat} {z : Value} (h : RowOf E w B e S A n c l) (ht : P.underlying t = some (.slice e)) (hi : (P.info? e).map (fun i => (i.zero, i.size, i.bytes)) = some (some z, size, bytes)) (hsE : E.sz = size)
    (hzs : z.cells.size = size) (hsz : 0 < size) (x : α) (g : Nat) (cs : List Value) (hg : w.heap[g]? = some (.cells cs.toArray e (0, 0))) (hok : E.ok (sans w S) w.heap.size cs x) (h1 : ∀ u ∈ cs, u.oneCell' = true)
    (h63 : n + 1 ≤ maxLen) (hbytes : (n + 1) * bytes ≤ 140737488355328) (hbase : B ≤ w.heap.size) (hA : ∀ b ∈ blkOf A, b ∈ S) :
    ∃ A' c' w', (Builtin.append_ #[t, t] ty #[.slice A n c, .slice (some ⟨g, 0, none⟩) 1 1]).run P w = .ok (.slice A' (n + 1) c') w' ∧ (∀ U : List Nat, (∀ b ∈ U, b < w.heap.size → b ∈ S) → RowOf E w' B e U A' (n + 1) c' (l ++ [x])) ∧ Out (blkOf A) w w' ∧
      (∀ b ∈ blkOf A', b ∈ blkOf A ∨ w.heap.size ≤ b) := by
  subst hsE
  obtain ⟨h0, xs, h2, h3⟩ := h
  have hcl := E.len hok
  obtain ⟨A', c', w', q1, q2, q3, q4⟩ := push_more (P := P) (ty := ty) w ht hi hzs hsz h2 g cs hcl hg h1 h63 hbytes hbase
  rw [ownBlock_blk] at q3
  refine ⟨A', c', w', q1, fun U hU => ⟨by simp [h0], xs ++ cs, q2, fun i y hy => ?_⟩, q3, fun b hb => ?_⟩
  · have hk := q3.kept (T := S) (U := U) (fun b hb _ => hA b hb) hU
    have hxl := h2.1
    rcases Nat.lt_trichotomy i l.length with hlt | rfl | hgt
    · rw [List.getElem?_append_left hlt] at hy
      have hle : i * E.sz + E.sz ≤ xs.length := by
        rw [hxl, ← h0]
        calc i * E.sz + E.sz = (i + 1) * E.sz := by rw [Nat.add_mul, Nat.one_mul]
          _ ≤ l.length * E.sz := Nat.mul_le_mul_right _ hlt
      rw [List.drop_append_of_le_length (by omega), List.take_append_of_le_length (by rw [List.length_drop]; omega)]
      exact E.mono q3.size hk (h3 i y hy)
    · rw [List.getElem?_append_right (Nat.le_refl _), Nat.sub_self] at hy
      obtain rfl : x = y := by simpa using hy
      rw [h0, ← hxl, List.drop_append_of_le_length (Nat.le_refl _), List.drop_length, List.nil_append, ← hcl, List.take_length]
      exact E.mono q3.size hk hok
    · rw [List.getElem?_eq_none (by simp; omega)] at hy
      cases hy
  · rw [← ownBlock_blk A' (n + 1) c'] at hb
    rcases q4 b (Option.mem_toList.1 hb) with hh | hh
    · left; rw [← ownBlock_blk A n c]; exact Option.mem_toList.2 hh
    · exact .inr hh
theorem RowOf.slice (h : RowOf E w B e S A n c l) (hr : n ≤ reachN) (hA : ∀ b ∈ blkOf A, b ∉ T) (hT : ∀ b ∈ T, b < w.heap.size → b ∈ S) : SliceFar E w T A n c l := by
  obtain ⟨h0, xs, h1, h2⟩ := h
  have hs : (sans w T).ownsRow B e E.sz (.slice A n c) n xs := by
    refine ⟨h1.1, ?_⟩
    rcases h1.2 with hn | ⟨g, cap, cur, hv, hg, hh, r⟩
    · exact .inl hn
    · refine .inr ⟨g, cap, cur, hv, hg, (sans_out (hA g ?_)).trans hh, r⟩
      simp only [Value.slice.injEq] at hv
      rw [hv.1]; simp [blkOf]
  have := SliceIs.of_own (E := E) hs h0 hr (fun i x hx => by
    rw [sans_size]
    exact E.mono (Nat.le_refl _) ((Out.refl (S := []) w).kept (T := S) (U := T) (fun _ hb _ => by cases hb) hT) (h2 i x hx))
  rw [sans_size] at this
  exact this
end
section
variable {P : Program} {w : World} {g n : Nat} {f : Nat → Nat} {t k e : TypeId}
end
end Go.Proofs.YtgphngjniplonaaGreatDoor
namespace Go.Proofs.YtgphngjniplonaaGreatDoor
open Go.RowKit Go.Sort
theorem own_sorted {α : Type} [Inhabited α] {enc : α → Value} {w : World} {B e b n c k : Nat} {xs : List Value} {d : Array α} {os : Array Obj} (h : w.ownsRow B e 1 (.slice (some ⟨b, 0, none⟩) n c) n xs) (hd : d.size = n) :
    (grow (putRow enc (Sort.ahead w k) b 0 d) os).ownsRow B e 1 (.slice (some ⟨b, 0, none⟩) n c) n (d.toList.map enc) ∧ Out [b] w (grow (putRow enc (Sort.ahead w k) b 0 d) os) := by
  obtain ⟨h1, h2⟩ := h
  rcases h2 with ⟨hv, -⟩ | ⟨g, cap, cur, hv, hg, hh, hnc, hcm, hs, ht⟩
  · cases hv
  simp only [Value.slice.injEq, Option.some.injEq, Addr.mk.injEq, and_true, true_and] at hv
  obtain ⟨rfl, rfl⟩ := hv
  have hbl : b < w.heap.size := (Array.getElem?_eq_some_iff.1 hh).1
  have hget : (grow (putRow enc (Sort.ahead w k) b 0 d) os).heap[b]? = some (.cells (putCells enc 0 d cur) e (0, 0)) := by
    rw [heap_grow_old _ _ (by simpa using hbl)]
    show (w.heap.modify b (onCells (putCells enc 0 d)))[b]? = _
    rw [Array.getElem?_modify, if_pos rfl, hh]
    rfl
  refine ⟨⟨by simp [hd], .inr ⟨b, c, _, rfl, hg, hget, hnc, hcm, by simp [putCells, hs], ?_⟩⟩, ⟨rfl, rfl, rfl, by simp, fun x hx hxb => ?_⟩⟩
  · apply List.ext_getElem?
    intro i
    simp only [Nat.mul_one] at hs ⊢
    rw [List.getElem?_take]
    by_cases hi : i < n
    · rw [if_pos hi, Array.getElem?_toList]
      have hic : i < cur.size := by omega
      simp only [putCells, Array.getElem?_mapIdx, Array.getElem?_eq_getElem hic, Option.map_some, List.getElem?_map, Array.getElem?_toList]
      rw [if_pos ⟨Nat.zero_le _, by omega⟩, Nat.sub_zero, getElem!_pos d i (by omega), Array.getElem?_eq_getElem (by omega)]
      rfl
    · rw [if_neg hi, List.getElem?_eq_none (by simp; omega)]
  · rw [heap_grow_old _ _ (by simpa using hx)]
    show (w.heap.modify b (onCells (putCells enc 0 d)))[x]? = _
    rw [Array.getElem?_modify, if_neg (fun e => hxb (by simp [← e]))]
theorem own_holds {w : World} {B e b n c : Nat} {xs : List Value} {α : Type} [Inhabited α] {enc : α → Value} {d : Array α} (h : w.ownsRow B e 1 (.slice (some ⟨b, 0, none⟩) n c) n xs) (hd : d.toList.map enc = xs) : Holds enc w b 0 d := by
  obtain ⟨h1, h2⟩ := h
  rcases h2 with ⟨hv, -⟩ | ⟨g, cap, cur, hv, hg, hh, hnc, hcm, hs, ht⟩
  · cases hv
  simp only [Value.slice.injEq, Option.some.injEq, Addr.mk.injEq, and_true, true_and] at hv
  obtain ⟨rfl, rfl⟩ := hv
  intro j hj
  refine ⟨?_, frozen_of_row _ _ _ _ _ hh⟩
  rw [cell_of_row _ _ _ _ _ _ hh, Nat.zero_add, getElem!_pos d j hj]
  have hn : n = d.size := by rw [← hd] at h1; simpa using h1.symm
  have e1 : (cur.toList.take (n * 1))[j]? = some (enc d[j]) := by
    rw [ht, ← hd, List.getElem?_map, Array.getElem?_toList, Array.getElem?_eq_getElem hj]; rfl
  rw [List.getElem?_take, if_pos (by omega), Array.getElem?_toList] at e1
  exact e1
end Go.Proofs.YtgphngjniplonaaGreatDoor
