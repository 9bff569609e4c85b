/- A map from numbers to numbers that are not 0, as a function (scc's index, low, onStack), for any program. -/
import Derived.Test.YtdbpbchhkdconaaMapN
namespace Go.Proofs.Ytdbpbchhkdconaa
open Go.RowKit

def invs (l : List (Int × Int)) : List (Int × Value) := l.map fun p => (p.1, .int .i64 p.2)
theorem invs_get (l : List (Int × Int)) (s : Int) : knGet (invs l) s = (knGet l s).map (Value.int .i64) := by
  induction l with
  | nil => rfl
  | cons p l ih =>
    show knGet ((p.1, Value.int .i64 p.2) :: invs l) s = _
    rw [kvGet_consN, kvGet_consN, ih]
    split <;> rfl
theorem invs_set (l : List (Int × Int)) (s : Int) (v : Int) : knSet (invs l) s (.int .i64 v) = invs (knSet l s v) := by
  induction l with
  | nil => rfl
  | cons p l ih =>
    show knSet ((p.1, Value.int .i64 p.2) :: invs l) s (.int .i64 v) = _
    unfold knSet
    split
    · rfl
    · rw [ih]; rfl
theorem invs_del (l : List (Int × Int)) (s : Int) : knDel (invs l) s = invs (knDel l s) := by
  unfold knDel invs
  rw [List.filter_map]
  rfl
def numOf (l : List (Int × Int)) (s : Int) : Int := (knGet l s).getD 0
theorem numOf_set (l : List (Int × Int)) (s t : Int) (v : Int) : numOf (knSet l s v) t = if s = t then v else numOf l t := by
  unfold numOf
  rw [kvGet_setN]
  split <;> rfl
theorem numOf_del (l : List (Int × Int)) (s t : Int) : numOf (knDel l s) t = if s = t then 0 else numOf l t := by
  unfold numOf
  rw [knDel_get]
  split <;> rfl
theorem invs_getD (l : List (Int × Int)) (s : Int) : (knGet (invs l) s).getD (.int .i64 0) = .int .i64 (numOf l s) := by
  rw [invs_get, numOf]
  cases knGet l s <;> rfl
theorem knGet_in {α : Type} {l : List (Int × α)} {s : Int} {v : α} (h : knGet l s = some v) : (s, v) ∈ l := by
  unfold knGet at h
  cases hf : l.find? (fun p => p.1 == s) with
  | none => rw [hf] at h; cases h
  | some p =>
    rw [hf] at h
    have h1 := List.mem_of_find?_eq_some hf
    have h2 := List.find?_some hf
    have h3 : p.1 = s := by simpa using h2
    have h4 : p.2 = v := by simpa using h
    rw [← h3, ← h4]
    exact h1
theorem knSet_len {α : Type} (l : List (Int × α)) (s : Int) (v : α) : (knSet l s v).length = if (knGet l s).isSome then l.length else l.length + 1 := by
  induction l with
  | nil => rfl
  | cons p l ih =>
    unfold knSet
    rw [kvGet_consN]
    by_cases h : p.1 = s
    · rw [if_pos h, if_pos h]; rfl
    · rw [if_neg h, if_neg h, List.length_cons, ih, List.length_cons]
      split <;> omega
theorem knSet_in {α : Type} {l : List (Int × α)} {s : Int} {v : α} {p : Int × α} (h : p ∈ knSet l s v) : p ∈ l ∨ p = (s, v) := by
  induction l with
  | nil => exact .inr (by simpa [knSet] using h)
  | cons q l ih =>
    unfold knSet at h
    split at h
    · rcases List.mem_cons.1 h with h | h
      · exact .inr h
      · exact .inl (List.mem_cons_of_mem _ h)
    · rcases List.mem_cons.1 h with h | h
      · exact .inl (by rw [h]; exact List.mem_cons_self ..)
      · rcases ih h with h | h
        · exact .inl (List.mem_cons_of_mem _ h)
        · exact .inr h

/-- a map tells the function f, which is not 0 at n keys -/
def NumM (w : World) (g : Nat) (f : Int → Int) (n : Nat) : Prop := ∃ kvs, MapN w g (invs kvs) ∧ (∀ s, numOf kvs s = f s) ∧ (∀ p ∈ kvs, p.2 ≠ 0) ∧ kvs.length = n
def updI (f : Int → Int) (s v : Int) : Int → Int := fun t => if s = t then v else f t
theorem NumM.made {w : World} : NumM (w.alloc (.map #[] 0)) w.heap.size (fun _ => 0) 0 := ⟨[], MapN.made, fun _ => rfl, fun p h => absurd h (by simp), rfl⟩
theorem NumM.same {w w' : World} {g n : Nat} {f : Int → Int} (h : NumM w g f n) (hs : w'.heap[g]? = w.heap[g]?) : NumM w' g f n := by
  obtain ⟨kvs, h1, h2⟩ := h
  exact ⟨kvs, h1.same hs, h2⟩
theorem NumM.lt {w : World} {g n : Nat} {f : Int → Int} (h : NumM w g f n) : g < w.heap.size := by
  obtain ⟨kvs, h1, _⟩ := h
  exact h1.lt
theorem NumM.below {w w' : World} {g n : Nat} {f : Int → Int} (h : NumM w g f n) (hb : Below w.heap.size w w') : NumM w' g f n := h.same (hb.block g h.lt)
theorem NumM.alloc {w : World} {g n : Nat} {f : Int → Int} (h : NumM w g f n) (o : Obj) : NumM (w.alloc o) g f n := h.same (Below.heap_alloc w o g h.lt)
section
variable {P : Program} {w : World} {g n : Nat} {f : Int → Int} {t k e : TypeId}
theorem NumM.look (h : NumM w g f n) (ht : P.underlying t = some (.map k e)) (hk : P.underlying k = some (.int .i64)) (hz : (zeroValue e).run P w = .ok (.int .i64 0) w) (s : Int) : (Instr.lookup t (.map (some g)) (.int .i64 s) false).run P w = .ok (.int .i64 (f s)) w := by
  obtain ⟨kvs, h1, h2, _⟩ := h
  rw [h1.lookup ht hk hz s, invs_getD, h2]
theorem NumM.len (h : NumM w g f n) (ht : P.underlying t = some (.map k e)) (ty : TypeId) : (Builtin.len_ #[t] ty #[.map (some g)]).run P w = .ok (.int .i64 n) w := by
  obtain ⟨kvs, h1, _, _, h4⟩ := h
  rw [h1.len ht ty]
  simp [invs, h4]
theorem NumM.put (h : NumM w g f n) (ht : P.underlying t = some (.map k e)) (hk : P.underlying k = some (.int .i64)) (s v : Int) (hv : v ≠ 0) :
    ∃ w', (Instr.mapUpdate t (.map (some g)) (.int .i64 s) (.int .i64 v)).run P w = .ok () w' ∧ NumM w' g (updI f s v) (if f s = 0 then n + 1 else n) ∧ w.grownBy w' (some g) ∧ w'.heap.size = w.heap.size := by
  obtain ⟨kvs, h1, h2, h3, h4⟩ := h
  obtain ⟨w', u1, u2, u3, u4⟩ := h1.update ht hk s (.int .i64 v)
  refine ⟨w', u1, ⟨knSet kvs s v, by rw [← invs_set]; exact u2, fun x => ?_, fun p hp => ?_, ?_⟩, u3, u4⟩
  · rw [numOf_set, updI, h2]
  · rcases knSet_in hp with hp | rfl
    · exact h3 p hp
    · exact hv
  · rw [knSet_len, h4, ← h2 s]
    cases hg : knGet kvs s with
    | none =>
      have : numOf kvs s = 0 := by unfold numOf; rw [hg]; rfl
      rw [this, if_pos rfl]; rfl
    | some x =>
      have hx := h3 _ (knGet_in hg)
      have : numOf kvs s = x := by unfold numOf; rw [hg]; rfl
      rw [this, if_neg hx]; rfl
theorem NumM.del (h : NumM w g f n) (ht : P.underlying t = some (.map k e)) (hk : P.underlying k = some (.int .i64)) (ty : TypeId) (s : Int) :
    ∃ v w' m, (Builtin.delete_ #[t, k] ty #[.map (some g), .int .i64 s]).run P w = .ok v w' ∧ NumM w' g (updI f s 0) m ∧ w.grownBy w' (some g) ∧ w'.heap.size = w.heap.size := by
  obtain ⟨kvs, h1, h2, h3, h4⟩ := h
  obtain ⟨v, w', u1, u2, u3, u4⟩ := h1.del ht hk ty s
  refine ⟨v, w', _, u1, ⟨knDel kvs s, by rw [← invs_del]; exact u2, fun x => ?_, fun p hp => ?_, rfl⟩, u3, u4⟩
  · rw [numOf_del, updI, h2]
  · exact h3 p (List.mem_filter.1 hp).1
end
end Go.Proofs.Ytdbpbchhkdconaa
