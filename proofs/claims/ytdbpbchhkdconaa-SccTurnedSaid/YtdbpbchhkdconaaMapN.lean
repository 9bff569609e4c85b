/- A map whose keys are numbers (XBase's MapIs, with numbers for texts), for any program. -/
import Derived.Test.YtdbpbchhkdconaaBase
namespace Go.Proofs.Ytdbpbchhkdconaa
open Go.RowKit

def knGet {α : Type} (l : List (Int × α)) (s : Int) : Option α := (l.find? (fun p => p.1 == s)).map (·.2)
def knSet {α : Type} : List (Int × α) → Int → α → List (Int × α)
  | [], s, v => [(s, v)]
  | p :: l, s, v => if p.1 = s then (s, v) :: l else p :: knSet l s v

structure MapN (w : World) (b : Nat) (kvs : List (Int × Value)) : Prop where
  ex : ∃ es clock, w.heap[b]? = some (.map es clock) ∧ es.toList.map (fun e => (e.key, e.val)) = kvs.map (fun p => (Value.int .i64 p.1, p.2)) ∧
    (es.toList.map (·.born)).Nodup ∧ ∀ e ∈ es.toList, e.born < clock
  keys : (kvs.map Prod.fst).Nodup

theorem findNow_strN (s : Int) : ∀ (l : List MapEntry) (kvs : List (Int × Value)) (i : Nat),
    l.map (fun e => (e.key, e.val)) = kvs.map (fun p => (Value.int .i64 p.1, p.2)) →
    Instr.findNow (.int .i64) (.int .i64 s) l i = some ((kvs.findIdx? (fun p => p.1 == s)).map fun j => (i + j, ((kvs[j]?).map (·.2)).getD undef))
  | [], kvs, i, h => by
    cases kvs with
    | nil => simp [Instr.findNow]
    | cons p kvs => simp at h
  | e :: l, kvs, i, h => by
    cases kvs with
    | nil => simp at h
    | cons p kvs =>
      simp only [List.map_cons, List.cons.injEq, Prod.mk.injEq] at h
      obtain ⟨⟨hk, hv⟩, ht⟩ := h
      have ih := findNow_strN s l kvs (i + 1) ht
      simp only [Instr.findNow, hk, Instr.sameNow]
      by_cases hs : p.1 = s
      · subst hs
        simp [List.findIdx?_cons, hv]
      · have h1 : (s == p.1) = false := by simp; exact fun e => hs e.symm
        have h2 : (p.1 == s) = false := by simp [hs]
        rw [h1]
        simp only [ih, List.findIdx?_cons, h2]
        congr 1
        simp [Option.map_map, Function.comp_def]
        cases List.findIdx? (fun p => p.1 == s) kvs <;> simp [Nat.add_assoc, Nat.add_comm 1]

theorem findIdx_getN {α : Type} (kvs : List (Int × α)) (s : Int) (d : α) :
    ((kvs.findIdx? (fun p => p.1 == s)).map fun j => ((kvs[j]?).map (·.2)).getD d) = knGet kvs s := by
  induction kvs with
  | nil => simp [knGet]
  | cons p kvs ih =>
    by_cases hs : p.1 = s
    · simp [knGet, List.findIdx?_cons, hs]
    · have h2 : (p.1 == s) = false := by simp [hs]
      simp only [knGet, List.findIdx?_cons, h2, List.find?_cons] at ih ⊢
      rw [← ih]
      simp [Option.map_map, Function.comp_def]

section
variable {P : Program} {w : World} {b : Nat} {kvs : List (Int × Value)}

theorem run_checkKey_strN {k : TypeId} (hk : P.underlying k = some (.int .i64)) (e : Bool) (s : Int) : (Instr.checkKey e 10000 k (.int .i64 s)).run P w = .ok () w := by
  exact MapKept.run_checkKey hk (by simp [MapKept.IsKey]) e 9999

theorem MapN.lookup_ok (h : MapN w b kvs) {t k e : TypeId} (ht : P.underlying t = some (.map k e)) (hk : P.underlying k = some (.int .i64)) {z : Value} (hz : (zeroValue e).run P w = .ok z w) (s : Int) :
    (Instr.lookup t (.map (some b)) (.int .i64 s) true).run P w = .ok (.tuple #[(knGet kvs s).getD z, .bool (knGet kvs s).isSome]) w := by
  obtain ⟨es, clock, hb, hes, _, _⟩ := h.ex
  have h1 := findNow_strN s es.toList kvs 0 hes
  have h2 := findIdx_getN kvs s undef
  simp only [Instr.lookup, Sem.run_bind, run_underlying ht, Result.andThen_ok, MapKept.run_getObj_map hb, run_checkKey_strN hk, MapKept.run_findKey hk h1, Sem.run_pure]
  rw [← h2]
  cases List.findIdx? (fun p => p.1 == s) kvs with
  | none => simp [hz]
  | some j => simp

theorem MapN.lookup (h : MapN w b kvs) {t k e : TypeId} (ht : P.underlying t = some (.map k e)) (hk : P.underlying k = some (.int .i64)) {z : Value} (hz : (zeroValue e).run P w = .ok z w) (s : Int) :
    (Instr.lookup t (.map (some b)) (.int .i64 s) false).run P w = .ok ((knGet kvs s).getD z) w := by
  obtain ⟨es, clock, hb, hes, _, _⟩ := h.ex
  have h1 := findNow_strN s es.toList kvs 0 hes
  have h2 := findIdx_getN kvs s undef
  simp only [Instr.lookup, Sem.run_bind, run_underlying ht, Result.andThen_ok, MapKept.run_getObj_map hb, run_checkKey_strN hk, MapKept.run_findKey hk h1, Sem.run_pure]
  rw [← h2]
  cases List.findIdx? (fun p => p.1 == s) kvs with
  | none => simp [hz]
  | some j => simp

theorem lookup_nil_okN {t k e : TypeId} (ht : P.underlying t = some (.map k e)) (hk : P.underlying k = some (.int .i64)) {z : Value} (hz : (zeroValue e).run P w = .ok z w) (s : Int) :
    (Instr.lookup t (.map none) (.int .i64 s) true).run P w = .ok (.tuple #[z, .bool false]) w := by
  simp [Instr.lookup, run_underlying ht, run_checkKey_strN hk, MapKept.run_findKey (l := []) (a := none) hk rfl, hz]

theorem MapN.len (h : MapN w b kvs) {t k e : TypeId} (ht : P.underlying t = some (.map k e)) (ty : TypeId) :
    (Builtin.len_ #[t] ty #[.map (some b)]).run P w = .ok (.int .i64 kvs.length) w := by
  obtain ⟨es, clock, hb, hes, _, _⟩ := h.ex
  have hl : es.size = kvs.length := by have := congrArg List.length hes; simpa using this
  simp [Builtin.len_, run_underlying ht, MapKept.run_getObj_map hb, hl, goInt]

theorem kvSet_memN {α : Type} {l : List (Int × α)} {s : Int} {v : α} {x : Int} : x ∈ (knSet l s v).map Prod.fst ↔ x ∈ l.map Prod.fst ∨ x = s := by
  induction l with
  | nil => simp [knSet]
  | cons p l ih =>
    unfold knSet
    split
    · rename_i h
      simp only [List.map_cons, List.mem_cons, h]
      constructor
      · rintro (h | h)
        · exact .inr h
        · exact .inl (.inr h)
      · rintro ((h | h) | h)
        · exact .inl h
        · exact .inr h
        · exact .inl h
    · simp only [List.map_cons, List.mem_cons, ih, or_assoc]

theorem kvSet_keysN {α : Type} {l : List (Int × α)} {s : Int} {v : α} (h : (l.map Prod.fst).Nodup) : ((knSet l s v).map Prod.fst).Nodup := by
  induction l with
  | nil => simp [knSet]
  | cons p l ih =>
    simp only [List.map_cons, List.nodup_cons] at h
    unfold knSet
    split
    · rename_i e
      simp only [List.map_cons, List.nodup_cons]
      rw [← e]; exact h
    · rename_i e
      simp only [List.map_cons, List.nodup_cons, kvSet_memN]
      refine ⟨?_, ih h.2⟩
      rintro (hm | hm)
      · exact h.1 hm
      · exact e hm

theorem kvGet_consN {α : Type} (p : Int × α) (l : List (Int × α)) (t : Int) : knGet (p :: l) t = if p.1 = t then some p.2 else knGet l t := by
  by_cases h : p.1 = t
  · simp [knGet, h]
  · simp only [knGet, List.find?_cons, beq_eq_false_iff_ne.2 h, if_neg h]

theorem kvGet_setN {α : Type} (l : List (Int × α)) (s t : Int) (v : α) : knGet (knSet l s v) t = if s = t then some v else knGet l t := by
  induction l with
  | nil => simp [knSet, kvGet_consN]
  | cons p l ih =>
    unfold knSet
    split
    · rename_i e
      rw [kvGet_consN, kvGet_consN]
      by_cases h : s = t
      · simp [h]
      · simp [h, e]
    · rename_i e
      rw [kvGet_consN, kvGet_consN, ih]
      by_cases h : s = t
      · subst h
        simp [e]
      · simp [h]

theorem kvSet_noneN {α : Type} {l : List (Int × α)} {s : Int} (v : α) (h : l.findIdx? (fun p => p.1 == s) = none) : knSet l s v = l ++ [(s, v)] := by
  induction l with
  | nil => rfl
  | cons p l ih =>
    rw [List.findIdx?_cons] at h
    by_cases e : p.1 = s
    · simp [e] at h
    · simp only [beq_eq_false_iff_ne.2 e, Bool.false_eq_true, if_false, Option.map_eq_none_iff] at h
      unfold knSet
      rw [if_neg e, ih h]; rfl

theorem kvSet_someN {α : Type} {l : List (Int × α)} {s : Int} (v : α) {j : Nat} (h : l.findIdx? (fun p => p.1 == s) = some j) : knSet l s v = l.set j (s, v) := by
  induction l generalizing j with
  | nil => simp at h
  | cons p l ih =>
    rw [List.findIdx?_cons] at h
    by_cases e : p.1 = s
    · simp [e] at h
      subst h
      unfold knSet
      rw [if_pos e]; rfl
    · simp only [beq_eq_false_iff_ne.2 e, Bool.false_eq_true, if_false, Option.map_eq_some_iff] at h
      obtain ⟨i, hi, rfl⟩ := h
      unfold knSet
      rw [if_neg e, ih hi]; rfl

theorem stamps_modifyN {es : Array MapEntry} (j : Nat) (f : MapEntry → MapEntry) (hf : ∀ e, (f e).born = e.born) : (es.modify j f).toList.map (·.born) = es.toList.map (·.born) := by
  apply List.ext_getElem?
  intro i
  simp only [List.getElem?_map, Array.getElem?_toList, Array.getElem?_modify]
  split
  · cases es[i]? <;> simp [hf]
  · rfl

theorem heap_set_grownN {o : Obj} : w.grownBy { w with heap := w.heap.setIfInBounds b o } (some b) :=
  ⟨rfl, rfl, rfl, by simp, fun k _ hne => by
    show (w.heap.setIfInBounds b o)[k]? = _
    rw [Array.getElem?_setIfInBounds_ne (by intro e; exact hne (by rw [e]))]⟩

theorem findIdx_someN {α : Type} {kvs : List (Int × α)} {s : Int} {j : Nat} (h : kvs.findIdx? (fun p => p.1 == s) = some j) : ∃ v, kvs[j]? = some (s, v) := by
  rw [List.findIdx?_eq_some_iff_getElem] at h
  obtain ⟨hlt, h1, _⟩ := h
  refine ⟨kvs[j].2, ?_⟩
  rw [List.getElem?_eq_getElem hlt]
  simp at h1
  rw [← h1]

theorem nodup_idxN {α : Type} {kvs : List (Int × α)} {s : Int} {i j : Nat} {v v' : α} (hn : (kvs.map Prod.fst).Nodup) (hi : kvs[i]? = some (s, v)) (hj : kvs[j]? = some (s, v')) : i = j := by
  have h1 : (kvs.map Prod.fst)[i]? = some s := by simp [hi]
  have h2 : (kvs.map Prod.fst)[j]? = some s := by simp [hj]
  have hl : i < (kvs.map Prod.fst).length := by
    rcases Nat.lt_or_ge i (kvs.map Prod.fst).length with h | h
    · exact h
    · rw [List.getElem?_eq_none h] at h1; cases h1
  exact List.getElem?_inj hl hn |>.1 (by rw [h1, h2])

theorem MapN.update (h : MapN w b kvs) {t k e : TypeId} (ht : P.underlying t = some (.map k e)) (hk : P.underlying k = some (.int .i64)) (s : Int) (v : Value) :
    ∃ w', (Instr.mapUpdate t (.map (some b)) (.int .i64 s) v).run P w = .ok () w' ∧ MapN w' b (knSet kvs s v) ∧ w.grownBy w' (some b) ∧ w'.heap.size = w.heap.size := by
  obtain ⟨es, clock, hb, hes, hn, hc⟩ := h.ex
  have hlt : b < w.heap.size := (Array.getElem?_eq_some_iff.1 hb).1
  have h1 := findNow_strN s es.toList kvs 0 hes
  have hky : MapKept.IsKey (.int .i64) (.int .i64 s) := by simp [MapKept.IsKey]
  cases hf : kvs.findIdx? (fun p => p.1 == s) with
  | none =>
    rw [hf] at h1
    refine ⟨_, by simp [Instr.mapUpdate, run_underlying ht, MapKept.run_getObj_map hb, run_checkKey_strN hk, MapKept.run_findKey hk h1, MapKept.run_setObj_map _ hb, Result.andThen]; rfl, ?_, heap_set_grownN, by simp⟩
    refine ⟨⟨es.push ⟨.int .i64 s, v, clock⟩, clock + 1, by simp [hlt], ?_, ?_, ?_⟩, kvSet_keysN h.keys⟩
    · rw [kvSet_noneN v hf]
      simp only [Array.toList_push, List.map_append, hes]
      simp
    · simp only [Array.toList_push, List.map_append, List.nodup_append]
      refine ⟨hn, by simp, ?_⟩
      intro a ha b hb'
      simp at hb'
      subst hb'
      simp at ha
      obtain ⟨x, hx, rfl⟩ := ha
      have := hc x (by simpa using hx)
      simp; omega
    · intro x hx
      simp at hx
      rcases hx with hx | rfl
      · have := hc x (by simpa using hx); omega
      · simp
  | some j =>
    rw [hf] at h1
    obtain ⟨v0, hj⟩ := findIdx_someN hf
    have hej : ∃ ej, es[j]? = some ej ∧ ej.key = Value.int .i64 s := by
      have := congrArg (fun l => l[j]?) hes
      simp only [List.getElem?_map, hj, Option.map_some, Array.getElem?_toList] at this
      cases hh : es[j]? with
      | none => rw [hh] at this; simp at this
      | some ej => rw [hh] at this; simp at this; exact ⟨ej, rfl, this.1⟩
    obtain ⟨ej, hej, hkey⟩ := hej
    refine ⟨_, by simp [Instr.mapUpdate, run_underlying ht, MapKept.run_getObj_map hb, run_checkKey_strN hk, MapKept.run_findKey hk h1, hej, hkey, MapKept.run_keyThatStays hky, MapKept.run_setObj_map _ hb, Result.andThen]; rfl, ?_, heap_set_grownN, by simp⟩
    refine ⟨⟨_, clock, by simp [hlt]; rfl, ?_, ?_, ?_⟩, kvSet_keysN h.keys⟩
    · rw [kvSet_someN v hf]
      apply List.ext_getElem?
      intro i
      have hlt' : j < kvs.length := (List.getElem?_eq_some_iff.1 hj).1
      simp only [List.getElem?_map, Array.getElem?_toList, Array.getElem?_modify, List.getElem?_set, hlt', if_true]
      have hi := congrArg (fun l => l[i]?) hes
      simp only [List.getElem?_map, Array.getElem?_toList] at hi
      by_cases hij : j = i
      · subst hij
        simp [hej]
      · rw [if_neg hij, if_neg hij]
        exact hi
    · have := stamps_modifyN (es := es) j (fun e => { key := Value.int .i64 s, val := v, born := e.born }) (fun _ => rfl)
      rw [this]; exact hn
    · intro x hx
      have h2 : x.born ∈ (es.modify j fun e => { key := Value.int .i64 s, val := v, born := e.born }).toList.map (·.born) := List.mem_map.2 ⟨x, hx, rfl⟩
      rw [stamps_modifyN (es := es) j (fun e => { key := Value.int .i64 s, val := v, born := e.born }) (fun _ => rfl)] at h2
      obtain ⟨y, hy, e⟩ := List.mem_map.1 h2
      have := hc y hy
      omega

theorem MapN.made : MapN (w.alloc (.map #[] 0)) w.heap.size [] :=
  ⟨⟨#[], 0, heap_alloc_new w _, rfl, by simp, by simp⟩, by simp⟩
theorem MapN.lt (h : MapN w b kvs) : b < w.heap.size := by
  obtain ⟨es, clock, hb, _⟩ := h.ex
  exact (Array.getElem?_eq_some_iff.1 hb).1
theorem MapN.same {w' : World} (h : MapN w b kvs) (hs : w'.heap[b]? = w.heap[b]?) : MapN w' b kvs := by
  obtain ⟨⟨es, clock, hb, r⟩, k⟩ := h
  exact ⟨⟨es, clock, by rw [hs]; exact hb, r⟩, k⟩
theorem MapN.below {w' : World} {B : Nat} (h : MapN w b kvs) (hb : Below B w w') (hB : b < B) : MapN w' b kvs := h.same (hb.block b hB)
theorem MapN.alloc (h : MapN w b kvs) (o : Obj) : MapN (w.alloc o) b kvs := h.same (Below.heap_alloc w o b h.lt)
theorem MapN.drewN (h : MapN w b kvs) (n : Nat) : MapN (w.drewN n) b kvs := h.same rfl
theorem MapN.drew (h : MapN w b kvs) : MapN w.drew b kvs := h.same rfl
theorem MapN.grown {w' : World} {row : Option Nat} (h : MapN w b kvs) (hg : w.grownBy w' row) (hne : some b ≠ row) : MapN w' b kvs := h.same (hg.block b h.lt hne)
/-- what is left of a key's entries -/
def knDel {α : Type} (l : List (Int × α)) (s : Int) : List (Int × α) := l.filter (fun p => !(p.1 == s))
theorem knDel_get {α : Type} (l : List (Int × α)) (s t : Int) : knGet (knDel l s) t = if s = t then none else knGet l t := by
  induction l with
  | nil => simp [knDel, knGet]
  | cons p l ih =>
    unfold knDel at ih ⊢
    by_cases hp : p.1 = s
    · rw [List.filter_cons_of_neg (by simp [hp]), ih, kvGet_consN]
      by_cases h : s = t
      · rw [if_pos h, if_pos h]
      · rw [if_neg h, if_neg h, if_neg (by rw [hp]; exact h)]
    · rw [List.filter_cons_of_pos (by simp [hp]), kvGet_consN, kvGet_consN, ih]
      by_cases h : s = t
      · subst h
        rw [if_neg hp, if_pos rfl, if_pos rfl]
      · rw [if_neg h, if_neg h]
theorem knDel_none {α : Type} {l : List (Int × α)} {s : Int} (h : l.findIdx? (fun p => p.1 == s) = none) : knDel l s = l := by
  unfold knDel
  rw [List.filter_eq_self]
  intro p hp
  rw [List.findIdx?_eq_none_iff] at h
  simpa using h p hp
theorem knDel_some {α : Type} : ∀ {l : List (Int × α)} {s : Int} {j : Nat}, (l.map Prod.fst).Nodup → l.findIdx? (fun p => p.1 == s) = some j → knDel l s = l.eraseIdx j
  | [], s, j, _, h => by simp at h
  | p :: l, s, j, hn, h => by
    rw [List.map_cons, List.nodup_cons] at hn
    rw [List.findIdx?_cons] at h
    by_cases hp : p.1 = s
    · rw [if_pos (by simp [hp])] at h
      obtain rfl : 0 = j := by simpa using h
      unfold knDel
      rw [List.filter_cons_of_neg (by simp [hp]), List.eraseIdx_cons_zero, List.filter_eq_self]
      intro q hq
      have : q.1 ≠ s := fun e => hn.1 (by rw [hp, ← e]; exact List.mem_map.2 ⟨q, hq, rfl⟩)
      simp [this]
    · rw [if_neg (by simp [hp])] at h
      cases hf : l.findIdx? (fun p => p.1 == s) with
      | none => rw [hf] at h; cases h
      | some i =>
        rw [hf] at h
        obtain rfl : i + 1 = j := by simpa using h
        have ih := knDel_some hn.2 hf
        unfold knDel at ih ⊢
        rw [List.filter_cons_of_pos (by simp [hp]), ih, List.eraseIdx_cons_succ]
theorem map_erase {α β : Type} (f : α → β) : ∀ (l : List α) (j : Nat), (l.eraseIdx j).map f = (l.map f).eraseIdx j
  | [], _ => rfl
  | _ :: _, 0 => rfl
  | x :: l, j + 1 => by
    rw [List.eraseIdx_cons_succ, List.map_cons, List.map_cons, List.eraseIdx_cons_succ, map_erase f l j]
theorem MapN.del (h : MapN w b kvs) {t k e : TypeId} (ht : P.underlying t = some (.map k e)) (hk : P.underlying k = some (.int .i64)) (ty : TypeId) (s : Int) :
    ∃ v w', (Builtin.delete_ #[t, k] ty #[.map (some b), .int .i64 s]).run P w = .ok v w' ∧ MapN w' b (knDel kvs s) ∧ w.grownBy w' (some b) ∧ w'.heap.size = w.heap.size := by
  obtain ⟨es, clock, hb, hes, hn, hc⟩ := h.ex
  have hlt : b < w.heap.size := (Array.getElem?_eq_some_iff.1 hb).1
  have h1 := findNow_strN s es.toList kvs 0 hes
  cases hf : kvs.findIdx? (fun p => p.1 == s) with
  | none =>
    rw [hf] at h1
    refine ⟨_, _, by simp [Builtin.delete_, run_underlying ht, MapKept.run_getObj_map hb, run_checkKey_strN hk, MapKept.run_findKey hk h1, MapKept.run_setObj_map _ hb, Result.andThen]; exact ⟨rfl, rfl⟩, ?_, heap_set_grownN, by simp⟩
    rw [knDel_none hf]
    exact ⟨⟨es, clock, by simp [hlt], hes, hn, hc⟩, h.keys⟩
  | some j =>
    rw [hf] at h1
    refine ⟨_, _, by simp [Builtin.delete_, run_underlying ht, MapKept.run_getObj_map hb, run_checkKey_strN hk, MapKept.run_findKey hk h1, MapKept.run_setObj_map _ hb, Result.andThen]; exact ⟨rfl, rfl⟩, ?_, heap_set_grownN, by simp⟩
    rw [knDel_some h.keys hf]
    obtain ⟨v0, hj⟩ := findIdx_someN hf
    have hsz : es.size = kvs.length := by have := congrArg List.length hes; simpa using this
    have hjs : j < es.size := by rw [hsz]; exact (List.getElem?_eq_some_iff.1 hj).1
    have hto : (es.eraseIdxIfInBounds j).toList = es.toList.eraseIdx j := by
      unfold Array.eraseIdxIfInBounds
      rw [dif_pos hjs]
      exact Array.toList_eraseIdx ..
    have hsub := List.eraseIdx_sublist es.toList j
    refine ⟨⟨es.eraseIdxIfInBounds j, clock, by simp [hlt], ?_, ?_, ?_⟩, ?_⟩
    · rw [hto, map_erase, hes, map_erase]
    · rw [hto]; exact hn.sublist (hsub.map _)
    · intro x hx
      rw [hto] at hx
      exact hc x (hsub.subset hx)
    · exact h.keys.sublist ((List.eraseIdx_sublist kvs j).map _)
end
end Go.Proofs.Ytdbpbchhkdconaa
