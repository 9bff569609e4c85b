/- Merged by my own program of: Open, Exp, Num, Keep0, ExpSize, ExpTerms, TSmall, Pgm, Wide, CpExp, RefTerms, TTerms, TColl, Has, TPut, TConcat, TIn. -/
import Derived.Test.YtiffmiabhapfnaaGreatDoorMg1
import Derived.SizedLaws
import Derived.ProofKit
import Derived.Deep.Slices
import Derived.Test.YtiffmiabhapfnaaGreatDoorProg
import Derived.Deep.MidRow
import Derived.Great.Walk
import Derived.Great.BuildSlice
import Derived.OwnWalkIn
import Derived.TacticsInMore
import Derived.RegionIn
import Derived.LoopNIn
import Derived.LoopIn
import Derived.Shelf.Abstract
import Derived.Lib.AppendZerosOnto
import Derived.Lib.Walk
import Derived.Lib.SliceRun
import Derived.Deep.RegionHeld3
/- My own: from the reading of an argument ('trod' and its weights) to the lists of XBase. Nothing of any program. -/
namespace Go.Proofs.YtiffmiabhapfnaaGreatDoor
open Go.RowKit

/-- what is read at type t lies in cells as E says -/
def Opens {α : Type} (P : Program) (t : TypeId) (E : Enc α) : Prop :=
  ∀ (H : Type) (enc : TypeId × Value → H) (w : World) (fuel : Nat) (cs : List Value) (x : DataW H × List MemPlace),
    DataW.trod enc P w 0 (fun _ => true) true fuel t cs = some x → (∀ n ∈ x.1.weights P t, n ≤ reachBytes) → ∃ y : α, E.ok w w.heap.size cs y

theorem reach_eq : reachBytes = reachN := by decide
def fieldsOf (P : Program) (t : TypeId) : List (TypeId × Nat × Nat) := match P.underlying t with
  | some (.struct fs) => fs.toList.map fun f => (f.type, f.offset, P.cellsOf f.type)
  | _ => []

theorem opens_int {P : Program} {t : TypeId} (h : P.underlying t = some (.int .i64)) : Opens P t Enc.int := by
  intro H enc w fuel cs x hx _
  obtain ⟨n, rfl, _, hw⟩ := DataW.trod_int h hx
  exact ⟨n, rfl, hw⟩
theorem opens_str {P : Program} {t : TypeId} (h : P.underlying t = some .string) : Opens P t Enc.str := by
  intro H enc w fuel cs x hx hwt
  obtain ⟨s, rfl, rfl, _⟩ := DataW.trod_string h hx
  refine ⟨s, rfl, ?_⟩
  have := hwt s.data.toList.length (by simp [DataW.weights])
  rw [reach_eq] at this
  simpa using this

theorem choose_list {α : Type} {Q : Nat → α → Prop} : ∀ n : Nat, (∀ i, i < n → ∃ x, Q i x) → ∃ l : List α, l.length = n ∧ ∀ i x, l[i]? = some x → Q i x
  | 0, _ => ⟨[], rfl, fun i x h => by simp at h⟩
  | n + 1, h => by
    obtain ⟨l, hl, hq⟩ := choose_list n (fun i hi => h i (by omega))
    obtain ⟨x, hx⟩ := h n (by omega)
    refine ⟨l ++ [x], by simp [hl], fun i y hy => ?_⟩
    by_cases hi : i < l.length
    · rw [List.getElem?_append_left hi] at hy
      exact hq i y hy
    · have hil : i < (l ++ [x]).length := (List.getElem?_eq_some_iff.1 hy).1
      simp at hil
      obtain rfl : i = n := by omega
      rw [List.getElem?_append_right (by omega)] at hy
      simp [hl] at hy
      exact hy ▸ hx

theorem weights_all {H : Type} {P : Program} {e : TypeId} {l : List (DataW H)} {d : DataW H} (h : d ∈ l) : ∀ n ∈ d.weights P e, n ∈ DataW.weightsAll P e l := by
  induction l with
  | nil => cases h
  | cons a l ih =>
    intro n hn
    simp only [DataW.weightsAll, List.mem_append]
    rcases List.mem_cons.1 h with rfl | h
    · exact .inl hn
    · exact .inr (ih h n hn)

theorem opens_slice {α : Type} {P : Program} {t e : TypeId} {E : Enc α} (h : P.underlying t = some (.slice e)) (he : Opens P e E) (hc : P.cellsOf e = E.sz) (hz : 0 < E.sz) (hb : 0 < P.bytesOf e) : Opens P t (Enc.slice E) := by
  intro H enc w fuel cs x hx hwt
  rcases Go.Deep.open_slice h hx with ⟨rfl, _⟩ | ⟨a, len, cap, m, n, D, Pl, rfl, _, hl, hm, hmm, rfl, hi⟩
  · exact ⟨[], none, 0, 0, rfl, SliceIs.nil⟩
  · simp only [if_true] at hmm
    subst hmm
    have hw0 := hwt ((len + (m - len)) * P.bytesOf e) (by simp [DataW.weights, h])
    have hle : len ≤ reachN := by
      rw [reach_eq] at hw0
      have : len + (m - len) ≤ (len + (m - len)) * P.bytesOf e := Nat.le_mul_of_pos_right _ hb
      omega
    obtain ⟨l, hll, hq⟩ := choose_list (Q := fun i y => ∃ cs', w.cells? 0 (a.add (i * P.cellsOf e)) (P.cellsOf e) = some cs' ∧ E.ok w w.heap.size cs' y) len (fun i hil => by
      obtain ⟨cs', h1, h2⟩ := hi i (by omega)
      obtain ⟨y, hy⟩ := he H enc w n cs' _ h2 (fun q hq => hwt q (by
        simp only [DataW.weights, h, List.mem_cons, List.mem_append]
        exact .inr (.inl (weights_all (List.mem_map.2 ⟨i, List.mem_range.2 hil, rfl⟩) q hq))))
      exact ⟨y, cs', h1, hy⟩)
    refine ⟨l, some a, len, m, rfl, hll, hl, hm, hle, ?_⟩
    by_cases h0 : len = 0
    · exact .inl (List.eq_nil_of_length_eq_zero (by omega))
    · right
      have hcell : ∀ i y, l[i]? = some y → ∃ cs', E.ok w w.heap.size cs' y ∧ ∀ j v, cs'[j]? = some v → w.cell? (a.add (i * E.sz + j)) = some v := by
        intro i y hy
        obtain ⟨cs', h1, h2⟩ := hq i y hy
        refine ⟨cs', h2, fun j v hj => ?_⟩
        obtain ⟨_, hcl, hat⟩ := World.cells?_some h1
        have hjl : j < P.cellsOf e := by rw [← hcl]; exact (List.getElem?_eq_some_iff.1 hj).1
        have := hat j hjl
        rw [hj, Go.Deep.add_add, hc] at this
        exact this
      have hex : ∃ y, l[0]? = some y := by
        rw [List.getElem?_eq_getElem (by omega)]
        exact ⟨_, rfl⟩
      obtain ⟨y, hy⟩ := hex
      obtain ⟨cs', h1, h2⟩ := hcell 0 y hy
      have hlen := E.len h1
      obtain ⟨v, hv⟩ : ∃ v, cs'[0]? = some v := by
        rw [List.getElem?_eq_getElem (by omega)]
        exact ⟨_, rfl⟩
      have hc0 := h2 0 v hv
      obtain ⟨b, off, spot⟩ := a
      obtain rfl : spot = none := by simpa [Addr.add] using World.cell?_spot hc0
      refine ⟨b, off, rfl, ?_, fun i y hy => ?_⟩
      · exact World.block_lt_of_cell? w _ (by simpa [Addr.add] using hc0)
      · obtain ⟨cs', h1, h2⟩ := hcell i y hy
        refine ⟨cs', h1, fun j v hj => ?_⟩
        have h3 := h2 j v hj
        rw [Nat.add_assoc]
        unfold Addr.add at h3
        split at h3
        · rename_i h0
          rw [h0]
          exact h3
        · exact h3

/-- a struct read: its fields, each by itself -/
theorem open_fields {H : Type} {enc : TypeId × Value → H} {P : Program} {w : World} {t : TypeId} {fuel : Nat} {cs : List Value} {x : DataW H × List MemPlace} {fl : List (TypeId × Nat × Nat)} (hf : fieldsOf P t = fl) (h0 : fl ≠ [])
    (hx : DataW.trod enc P w 0 (fun _ => true) true fuel t cs = some x) (hwt : ∀ n ∈ x.1.weights P t, n ≤ reachBytes) :
    cs.length = P.cellsOf t ∧ ∀ (j : Nat) (f : TypeId × Nat × Nat), fl[j]? = some f → ∃ y n, DataW.trod enc P w 0 (fun _ => true) true n f.1 ((cs.drop f.2.1).take f.2.2) = some y ∧ ∀ n ∈ y.1.weights P f.1, n ≤ reachBytes := by
  unfold fieldsOf at hf
  split at hf
  · rename_i fs hs
    obtain ⟨xs, n, _, rfl, hl, hlen, hat⟩ := DataW.trod_struct hs hx
    refine ⟨hl, fun j f hj => ?_⟩
    subst hf
    rw [List.getElem?_map, Option.map_eq_some_iff] at hj
    obtain ⟨fd, hfd, rfl⟩ := hj
    have hfd' : fs[j]? = some fd := by simpa using hfd
    have h1 := hat j fd hfd'
    have hjl : j < fs.size := (Array.getElem?_eq_some_iff.1 hfd').1
    have hxj : xs[j]? = some (xs[j]'(by omega)) := List.getElem?_eq_getElem (by omega)
    refine ⟨_, n, h1.trans hxj, fun q hq => hwt q ?_⟩
    simp only [DataW.weights, hs]
    exact DataW.weights_mem_each (j := j) (t := fd.type) (d := (xs[j]'(by omega)).1) (by simp [hfd']) (by simp [hxj]) q hq
  · exact absurd hf.symm h0

theorem opens_val {P : Program} {t a b c : TypeId} (hf : fieldsOf P t = [(a, 0, 1), (b, 1, 1), (c, 2, 1)]) (hz : P.cellsOf t = 3) (ha : P.underlying a = some (.int .i64)) (hb : P.underlying b = some (.int .i64)) (hc : P.underlying c = some .string) : Opens P t Enc.val := by
  intro H enc w fuel cs x hx hwt
  obtain ⟨hl, hat⟩ := open_fields hf (by simp) hx hwt
  rw [hz] at hl
  match cs, hl with
  | [u0, u1, u2], _ =>
    obtain ⟨y, n, h, hw⟩ := hat 0 _ rfl
    obtain ⟨k, e0, f0⟩ := opens_int ha _ _ _ _ _ _ h hw
    obtain ⟨y, n, h, hw⟩ := hat 1 _ rfl
    obtain ⟨i, e1, f1⟩ := opens_int hb _ _ _ _ _ _ h hw
    obtain ⟨y, n, h, hw⟩ := hat 2 _ rfl
    obtain ⟨s, e2, f2⟩ := opens_str hc _ _ _ _ _ _ h hw
    simp at e0 e1 e2
    subst e0 e1 e2
    exact ⟨⟨k, i, s⟩, rfl, f0, f1, f2⟩

theorem opens_told {P : Program} {t a b : TypeId} (hf : fieldsOf P t = [(a, 0, 1), (b, 1, 3)]) (hz : P.cellsOf t = 4) (ha : P.underlying a = some .string) (hb : Opens P b Enc.val) : Opens P t Enc.told := by
  intro H enc w fuel cs x hx hwt
  obtain ⟨hl, hat⟩ := open_fields hf (by simp) hx hwt
  rw [hz] at hl
  match cs, hl with
  | [u0, u1, u2, u3], _ =>
    obtain ⟨y, n, h, hw⟩ := hat 0 _ rfl
    obtain ⟨s, e0, f0⟩ := opens_str ha _ _ _ _ _ _ h hw
    obtain ⟨y, n, h, hw⟩ := hat 1 _ rfl
    obtain ⟨v, e1, f1⟩ := hb _ _ _ _ _ _ h hw
    simp at e0 e1
    obtain ⟨rfl, rfl, rfl⟩ := e1
    subst e0
    exact ⟨⟨s, v⟩, rfl, f0, f1⟩

/-- an argument that is a slice -/
theorem open_arg {α : Type} {H : Type} {enc : TypeId × Value → H} {P : Program} {w : World} {E : Enc α} {t : TypeId} {A : Option Addr} {n c : Nat} {d : DataW H} {p : List MemPlace} (ho : Opens P t (Enc.slice E))
    (h : DataW.Trod enc P w 0 (fun _ => true) true t (.slice A n c) d p) (hwt : ∀ n ∈ d.weights P t, n ≤ reachBytes) : ∃ l, SliceIs E w w.heap.size A n c l := by
  obtain ⟨fuel, hf⟩ := h
  obtain ⟨l, A', n', c', e, hs⟩ := ho H enc w fuel _ _ hf hwt
  simp [Value.cells] at e
  obtain ⟨rfl, rfl, rfl⟩ := e
  exact ⟨l, hs⟩
end Go.Proofs.YtiffmiabhapfnaaGreatDoor

/- Expressions: a tree in memory, by its depth; how such an argument is read. Nothing of any program. -/
namespace Go.Proofs.YtiffmiabhapfnaaGreatDoor
open Go.RowKit

/-- an expression -/
inductive GExp where
  | mk (op : Int) (t : GTold) (kids : List GExp)
def GExp.op : GExp → Int | .mk o _ _ => o
def GExp.t : GExp → GTold | .mk _ t _ => t
def GExp.kids : GExp → List GExp | .mk _ _ k => k

/-- an expression over kids that lie as E says -/
def Enc.expStep (E : Enc GExp) : Enc GExp where
  sz := 6
  ok := fun w B cs e => ∃ A n c, cs = [.int .i64 e.op, .string e.t.x, .int .i64 e.t.v.k, .int .i64 e.t.v.n, .string e.t.v.s, .slice A n c] ∧ fits e.op ∧ e.t.x.size ≤ reachN ∧ e.t.v.ok ∧ SliceIs E w B A n c e.kids
  mono := fun hB hk ⟨A, n, c, h1, h2, h3, h4, h5⟩ => ⟨A, n, c, h1, h2, h3, h4, h5.mono' hB hk⟩
  len := fun ⟨_, _, _, h, _⟩ => by rw [h]; rfl
def Enc.expNone : Enc GExp where
  sz := 6
  ok := fun _ _ _ _ => False
  mono := fun _ _ h => h
  len := fun h => h.elim
/-- an expression of a depth below d -/
def Enc.exp : Nat → Enc GExp
  | 0 => Enc.expNone
  | d + 1 => Enc.expStep (Enc.exp d)
theorem Enc.exp_sz : ∀ d, (Enc.exp d).sz = 6
  | 0 => rfl
  | _ + 1 => rfl
/-- the cells of the i-th of a list of expressions -/
theorem SliceIs.exp_at {w : World} {B : Nat} {A : Option Addr} {n c d : Nat} {l : List GExp} (h : SliceIs (Enc.exp d) w B A n c l) {i : Nat} (hi : i < n) :
    ∃ b o e A' n' c' d', A = some ⟨b, o, none⟩ ∧ b < B ∧ Hid (l[i]? = some e) ∧ d = d' + 1 ∧ w.cell? ⟨b, o + i * 6, none⟩ = some (.int .i64 e.op) ∧ w.cell? ⟨b, o + i * 6 + 1, none⟩ = some (.string e.t.x) ∧ w.cell? ⟨b, o + i * 6 + 2, none⟩ = some (.int .i64 e.t.v.k) ∧
      w.cell? ⟨b, o + i * 6 + 3, none⟩ = some (.int .i64 e.t.v.n) ∧ w.cell? ⟨b, o + i * 6 + 4, none⟩ = some (.string e.t.v.s) ∧ w.cell? ⟨b, o + i * 6 + 5, none⟩ = some (.slice A' n' c') ∧
      fits e.op ∧ e.t.x.size ≤ reachN ∧ e.t.v.ok ∧ SliceIs (Enc.exp d') w B A' n' c' e.kids := by
  obtain ⟨b, o, e, cs, hA, hb, hx, hok, hc⟩ := h.at_ hi
  cases d with
  | zero => exact hok.elim
  | succ d =>
    obtain ⟨A', n', c', rfl, h1, h2, h3, h4⟩ := hok
    rw [Enc.exp_sz] at hc
    exact ⟨b, o, e, A', n', c', d, hA, hb, hx, rfl, by simpa using hc 0 _ rfl, by simpa using hc 1 _ rfl, by simpa using hc 2 _ rfl, by simpa using hc 3 _ rfl, by simpa using hc 4 _ rfl, by simpa using hc 5 _ rfl, h1, h2, h3, h4⟩

/-! ### reading it -/
/-- 'Opens', for readings of at most N steps -/
def OpensB {α : Type} (N : Nat) (P : Program) (t : TypeId) (E : Enc α) : Prop :=
  ∀ (H : Type) (enc : TypeId × Value → H) (w : World) (fuel : Nat) (cs : List Value) (x : DataW H × List MemPlace), fuel ≤ N →
    DataW.trod enc P w 0 (fun _ => true) true fuel t cs = some x → (∀ n ∈ x.1.weights P t, n ≤ reachBytes) → ∃ y : α, E.ok w w.heap.size cs y
theorem Opens.bound {α : Type} {P : Program} {t : TypeId} {E : Enc α} (h : Opens P t E) (N : Nat) : OpensB N P t E := fun H enc w fuel cs x _ hx hw => h H enc w fuel cs x hx hw
theorem opensB_slice {α : Type} {N : Nat} {P : Program} {t e : TypeId} {E : Enc α} (h : P.underlying t = some (.slice e)) (he : OpensB N P e E) (hc : P.cellsOf e = E.sz) (hz : 0 < E.sz) (hb : 0 < P.bytesOf e) : OpensB (N + 1) P t (Enc.slice E) := by
  intro H enc w fuel cs x hfu hx hwt
  rcases DataW.trod_slice h hx with ⟨rfl, _⟩ | ⟨a, len, cap, elems, rest, n, rfl, rfl, rfl, -, hl, hm, hel, hi, -, -⟩
  · exact ⟨[], none, 0, 0, rfl, SliceIs.nil⟩
  · have hw0 := hwt ((elems.length + rest.length) * P.bytesOf e) (by simp [DataW.weights, h])
    have hle : len ≤ reachN := by
      rw [reach_eq] at hw0
      have : elems.length + rest.length ≤ (elems.length + rest.length) * P.bytesOf e := Nat.le_mul_of_pos_right _ hb
      omega
    obtain ⟨l, hll, hq⟩ := choose_list (Q := fun i y => ∃ cs', w.cells? 0 (a.add (i * P.cellsOf e)) (P.cellsOf e) = some cs' ∧ E.ok w w.heap.size cs' y) len (fun i hil => by
      have h1 := hi i hil
      rw [List.getElem?_eq_getElem (by omega)] at h1
      obtain ⟨cs', h2, h3⟩ := Option.bind_eq_some_iff.1 h1
      obtain ⟨y, hy⟩ := he H enc w n cs' _ (by omega) h3 (fun q hq => hwt q (by
        simp only [DataW.weights, h, List.mem_cons, List.mem_append]
        exact .inr (.inl (weights_all (List.mem_map.2 ⟨elems[i]'(by omega), List.getElem_mem _, rfl⟩) q hq))))
      exact ⟨y, cs', h2, hy⟩)
    refine ⟨l, some a, len, cap, rfl, hll, hl, hm, hle, ?_⟩
    by_cases h0 : len = 0
    · exact .inl (List.eq_nil_of_length_eq_zero (by omega))
    · right
      have hcell : ∀ i y, l[i]? = some y → ∃ cs', E.ok w w.heap.size cs' y ∧ ∀ j v, cs'[j]? = some v → w.cell? (a.add (i * E.sz + j)) = some v := by
        intro i y hy
        obtain ⟨cs', h1, h2⟩ := hq i y hy
        refine ⟨cs', h2, fun j v hj => ?_⟩
        obtain ⟨_, hcl, hat⟩ := World.cells?_some h1
        have hjl : j < P.cellsOf e := by rw [← hcl]; exact (List.getElem?_eq_some_iff.1 hj).1
        have := hat j hjl
        rw [hj, Go.Deep.add_add, hc] at this
        exact this
      have hex : ∃ y, l[0]? = some y := by
        rw [List.getElem?_eq_getElem (by omega)]
        exact ⟨_, rfl⟩
      obtain ⟨y, hy⟩ := hex
      obtain ⟨cs', h1, h2⟩ := hcell 0 y hy
      have hlen := E.len h1
      obtain ⟨v, hv⟩ : ∃ v, cs'[0]? = some v := by
        rw [List.getElem?_eq_getElem (by omega)]
        exact ⟨_, rfl⟩
      have hc0 := h2 0 v hv
      obtain ⟨b, off, spot⟩ := a
      obtain rfl : spot = none := by simpa [Addr.add] using World.cell?_spot hc0
      refine ⟨b, off, rfl, ?_, fun i y hy => ?_⟩
      · exact World.block_lt_of_cell? w _ (by simpa [Addr.add] using hc0)
      · obtain ⟨cs', h1, h2⟩ := hcell i y hy
        refine ⟨cs', h1, fun j v hj => ?_⟩
        have h3 := h2 j v hj
        rw [Nat.add_assoc]
        unfold Addr.add at h3
        split at h3
        · rename_i h0
          rw [h0]
          exact h3
        · exact h3
theorem open_fieldsB {H : Type} {enc : TypeId × Value → H} {P : Program} {w : World} {t : TypeId} {fuel : Nat} {cs : List Value} {x : DataW H × List MemPlace} {fl : List (TypeId × Nat × Nat)} (hf : fieldsOf P t = fl) (h0 : fl ≠ [])
    (hx : DataW.trod enc P w 0 (fun _ => true) true fuel t cs = some x) (hwt : ∀ n ∈ x.1.weights P t, n ≤ reachBytes) :
    cs.length = P.cellsOf t ∧ ∃ n, fuel = n + 1 ∧ ∀ (j : Nat) (f : TypeId × Nat × Nat), fl[j]? = some f → ∃ y, DataW.trod enc P w 0 (fun _ => true) true n f.1 ((cs.drop f.2.1).take f.2.2) = some y ∧ ∀ n ∈ y.1.weights P f.1, n ≤ reachBytes := by
  unfold fieldsOf at hf
  split at hf
  · rename_i fs hs
    obtain ⟨xs, n, rfl, rfl, hl, hlen, hat⟩ := DataW.trod_struct hs hx
    refine ⟨hl, n, rfl, fun j f hj => ?_⟩
    subst hf
    rw [List.getElem?_map, Option.map_eq_some_iff] at hj
    obtain ⟨fd, hfd, rfl⟩ := hj
    have hfd' : fs[j]? = some fd := by simpa using hfd
    have h1 := hat j fd hfd'
    have hjl : j < fs.size := (Array.getElem?_eq_some_iff.1 hfd').1
    have hxj : xs[j]? = some (xs[j]'(by omega)) := List.getElem?_eq_getElem (by omega)
    refine ⟨_, h1.trans hxj, fun q hq => hwt q ?_⟩
    simp only [DataW.weights, hs]
    exact DataW.weights_mem_each (j := j) (t := fd.type) (d := (xs[j]'(by omega)).1) (by simp [hfd']) (by simp [hxj]) q hq
  · exact absurd hf.symm h0
theorem opens_exp {P : Program} {t a b c : TypeId} (hf : fieldsOf P t = [(a, 0, 1), (b, 1, 4), (c, 5, 1)]) (hz : P.cellsOf t = 6) (hby : 0 < P.bytesOf t) (ha : P.underlying a = some (.int .i64)) (hb : Opens P b Enc.told) (hc : P.underlying c = some (.slice t)) :
    ∀ N, OpensB N P t (Enc.exp (N + 1))
  | 0 => fun H enc w fuel cs x hfu hx _ => by
    obtain rfl : fuel = 0 := by omega
    simp [DataW.trod] at hx
  | N + 1 => by
    have ih := opens_exp hf hz hby ha hb hc N
    have ihs := opensB_slice hc ih (by rw [hz, Enc.exp_sz]) (by rw [Enc.exp_sz]; omega) hby
    intro H enc w fuel cs x hfu hx hwt
    obtain ⟨hl, n, rfl, hat⟩ := open_fieldsB hf (by simp) hx hwt
    rw [hz] at hl
    match cs, hl with
    | [u0, u1, u2, u3, u4, u5], _ =>
      obtain ⟨y, h, hw⟩ := hat 0 _ rfl
      obtain ⟨k, e0, f0⟩ := opens_int ha _ _ _ _ _ _ h hw
      obtain ⟨y, h, hw⟩ := hat 1 _ rfl
      obtain ⟨tt, e1, f1, f2⟩ := hb _ _ _ _ _ _ h hw
      obtain ⟨y, h, hw⟩ := hat 2 _ rfl
      obtain ⟨ks, A, m, d, e2, f3⟩ := ihs _ _ _ _ _ _ (by omega) h hw
      simp at e0 e1 e2
      obtain ⟨rfl, rfl, rfl, rfl⟩ := e1
      subst e0 e2
      exact ⟨.mk k tt ks, A, m, d, rfl, f0, f1, f2, f3⟩
end Go.Proofs.YtiffmiabhapfnaaGreatDoor

/- corollarynum: errors as numbers, lists side by side (where they are alike). -/
namespace Go.Proofs.YtiffmiabhapfnaaGreatDoor
open Go.RowKit

def RetInt (n : Int) (w : World) (e : Ending) (w' : World) : Prop := e = .returned (.int .i64 n) ∧ Below w.heap.size w w'
def RetBool (b : Bool) (w : World) (e : Ending) (w' : World) : Prop := e = .returned (.bool b) ∧ Below w.heap.size w w'


theorem GV.beq_iff (x y : GV) : x.beq y = true ↔ x = y := by
  cases x; cases y
  simp [GV.beq, toList_inj]
theorem GV.beq_self (x : GV) : x.beq x = true := (GV.beq_iff x x).2 rfl
instance : DecidableEq GV := fun x y => if h : x.beq y = true then isTrue ((GV.beq_iff x y).1 h) else isFalse (fun e => h ((GV.beq_iff x y).2 e))
theorem GV.beq_dec (x y : GV) : x.beq y = decide (x = y) := by
  rw [Bool.eq_iff_iff]; simp [GV.beq_iff]

theorem run_eql_value (x y : GV) (w : World) : (binOp .eql 24 x.v y.v).run Tryz.prog w = .ok (.bool (x.beq y)) w := by
  rw [run_eql_struct, run_equalIn_agg (ht := by kernel_rfl) (hp := by kernel_rfl)]
  simp [go_sem, GV.beq]
  by_cases h1 : x.k = y.k <;> by_cases h2 : x.n = y.n <;> by_cases h3 : x.s.toList = y.s.toList <;> simp [h1, h2, h3]
theorem run_neq_value (x y : GV) (w : World) : (binOp .neq 24 x.v y.v).run Tryz.prog w = .ok (.bool (!x.beq y)) w := by
  rw [run_neq_struct, run_equalIn_agg (ht := by kernel_rfl) (hp := by kernel_rfl)]
  simp [go_sem, GV.beq]
  by_cases h1 : x.k = y.k <;> by_cases h2 : x.n = y.n <;> by_cases h3 : x.s.toList = y.s.toList <;> simp [h1, h2, h3]

set_option maxRecDepth 100000 in
set_option maxHeartbeats 400000 in
theorem texts_eq (A B : Option Addr) (n m c d : Nat) (xs : List ByteArray) (w : World) (hx : SliceIs Enc.str w w.heap.size A n c xs) (hy : SliceIs Enc.str w w.heap.size B m d xs) :
    Calls Tryz.prog 24 #[.slice A n c, .slice B m d] w (RetBool true w) := by
  have hn := hx.bound
  have hmn : m = n := by rw [← hx.1, ← hy.1]
  subst hmn
  go_enter Tryz.func24, Tryz.ntmps24
  go_wp2
  go_loopw [5, 13] (fun _ i wr => ∃ k : Nat, k ≤ m ∧ i = .int .i64 k ∧ (∃ q, wr = w.drewN q)) (fun _ i _ => m - (intOf i).toNat)
  case atStart => exact ⟨0, by omega, rfl, ⟨0, rfl⟩⟩
  case round =>
    obtain ⟨k, hk, rfl, ⟨q, rfl⟩⟩ := hrel
    by_cases hlt : k < m
    · obtain ⟨b1, o1, v1, rfl, _, h1, x1, _⟩ := hx.str_at hlt
      obtain ⟨b2, o2, v2, rfl, _, h2, y1, _⟩ := hy.str_at hlt
      have hv : v1 = v2 := by have := h1.out.symm.trans h2.out; injection this
      subst hv
      have i0 : (0:Int) ≤ (k : Int) := by omega
      have i1 : (k:Int) < (m : Int) := by omega
      have rn : (v1.toList == v1.toList) = true := by simp
      clear hx hy
      go_wp2
      go_quiet (fail)
      go_wp2
      go_roundw
      case rel => exact ⟨k + 1, by omega, by go_num, ⟨q + nq, rfl⟩⟩
      case measure => simp [intOf]; omega
    · go_wp2
      go_ret
      exact ⟨rfl, below_drewN _ _ _⟩

end Go.Proofs.YtiffmiabhapfnaaGreatDoor

/- Facts kept from world to world (a seat without environments). -/
namespace Go.Proofs.YtiffmiabhapfnaaGreatDoor
open Go.RowKit
theorem SliceIs.keep {α : Type} {E : Enc α} {w w' : World} {A : Option Addr} {n c : Nat} {l : List α} (h : SliceIs E w w.heap.size A n c l) (hb : Below w.heap.size w w') : SliceIs E w' w'.heap.size A n c l :=
  (h.below hb).mono hb.size (fun _ _ => rfl)
theorem below_next {w W W' : World} (h : Below w.heap.size w W) (h' : Below W.heap.size W W') : Below w.heap.size w W' := h.trans (h'.mono h.size)
end Go.Proofs.YtiffmiabhapfnaaGreatDoor

/- corollarylaw05.exp: how much more there may be. -/
namespace Go.Proofs.YtiffmiabhapfnaaGreatDoor
open Go.RowKit

mutual
def szE : GExp → Int → Int
  | .mk _ t ks, left => szL ks (left - (1 + (((t.x.size + t.v.s.size) / 50 : Nat) : Int)))
def szL : List GExp → Int → Int
  | [], l => l
  | k :: ks, l => if l < 0 then -1 else szL ks (szE k l)
end
theorem szE_def (e : GExp) (l : Int) : szE e l = szL e.kids (l - (1 + (((e.t.x.size + e.t.v.s.size) / 50 : Nat) : Int))) := by
  cases e; rw [szE]; rfl
mutual
theorem szE_le : ∀ (e : GExp) (l : Int), 0 ≤ l → szE e l ≤ l
  | .mk _ t ks, l, h => by
    rw [szE]
    have := szL_le ks (l - (1 + (((t.x.size + t.v.s.size) / 50 : Nat) : Int)))
    omega
theorem szL_le : ∀ (ks : List GExp) (l : Int), szL ks l ≤ max l (-1)
  | [], l => by rw [szL]; omega
  | k :: ks, l => by
    rw [szL]
    split
    · omega
    · have h1 := szE_le k l (by omega)
      have h2 := szL_le ks (szE k l)
      omega
end
abbrev expV (e : GExp) (A : Option Addr) (n c : Nat) : Value := .agg #[.int .i64 e.op, .string e.t.x, .int .i64 e.t.v.k, .int .i64 e.t.v.n, .string e.t.v.s, .slice A n c]

set_option maxRecDepth 100000 in
set_option maxHeartbeats 2000000 in
theorem exp_any : ∀ (d : Nat) (e : GExp) (A : Option Addr) (n c : Nat) (left : Int) (w : World), SliceIs (Enc.exp d) w w.heap.size A n c e.kids → e.t.x.size ≤ reachN → e.t.v.s.size ≤ reachN → -1000000000000000 ≤ left → left ≤ 100000 →
    Calls Tryz.prog 7 #[expV e A n c, .int .i64 left] w (RetInt (szE e left) w) := by
  intro d
  induction d using Nat.strongRecOn with
  | ind d ih =>
    intro e A n c left w hk hx hs h0 h1
    have IH := Lib.hid ih
    have hn := hk.bound
    have HK := Lib.hid hk
    have Hlen := Lib.hid hk.1
    obtain ⟨R, HR⟩ : ∃ R, Hid (R = szE e left) := ⟨_, rfl⟩
    rw [← HR.out]
    have hx' : e.t.x.size ≤ 140737488351232 := hx
    have hs' : e.t.v.s.size ≤ 140737488351232 := hs
    obtain ⟨c0, hc0, hc1⟩ : ∃ c0 : Nat, ((e.t.x.size : Int) + (e.t.v.s.size : Int)).tdiv 50 = (c0 : Int) ∧ c0 = (e.t.x.size + e.t.v.s.size) / 50 := ⟨(e.t.x.size + e.t.v.s.size) / 50, by rw [Int.tdiv_eq_ediv_of_nonneg (by omega)]; omega, rfl⟩
    have HR2 : Hid (R = szL (e.kids.drop 0) (left - (1 + (c0 : Int)))) := by
      show _ = _
      rw [HR.out, szE_def, hc1]; rfl
    have hc2 : c0 ≤ 281474976710656 := by omega
    have hrb : (w.alloc (.cells #[.int .i64 e.op, .string e.t.x, .int .i64 e.t.v.k, .int .i64 e.t.v.n, .string e.t.v.s, .slice A n c] 29)).heap[w.heap.size]? = some (.cells #[.int .i64 e.op, .string e.t.x, .int .i64 e.t.v.k, .int .i64 e.t.v.n, .string e.t.v.s, .slice A n c] 29 (0, 0)) := heapNew rfl
    have b1 : (w.alloc (.cells #[.int .i64 e.op, .string e.t.x, .int .i64 e.t.v.k, .int .i64 e.t.v.n, .string e.t.v.s, .slice A n c] 29)).cell? ⟨w.heap.size, 1, none⟩ = some (.string e.t.x) := (cell_of_row _ _ 1 _ _ _ hrb).trans rfl
    have b4 : (w.alloc (.cells #[.int .i64 e.op, .string e.t.x, .int .i64 e.t.v.k, .int .i64 e.t.v.n, .string e.t.v.s, .slice A n c] 29)).cell? ⟨w.heap.size, 4, none⟩ = some (.string e.t.v.s) := (cell_of_row _ _ 4 _ _ _ hrb).trans rfl
    have b5 : (w.alloc (.cells #[.int .i64 e.op, .string e.t.x, .int .i64 e.t.v.k, .int .i64 e.t.v.n, .string e.t.v.s, .slice A n c] 29)).cell? ⟨w.heap.size, 5, none⟩ = some (.slice A n c) := (cell_of_row _ _ 5 _ _ _ hrb).trans rfl
    have hb0 : Below w.heap.size w (w.alloc (.cells #[.int .i64 e.op, .string e.t.x, .int .i64 e.t.v.k, .int .i64 e.t.v.n, .string e.t.v.s, .slice A n c] 29)) := belowA (Below.refl _ _) _
    clear ih hk hrb hc1 HR
    go_enter Tryz.func7, Tryz.ntmps7
    go_wp2_with fail
    go_loopw [1, 6, 24] (fun lv _ i wr => ∃ (j : Nat) (l : Int), j ≤ n ∧ i = .int .i64 j ∧ lv = .int .i64 l ∧ l ≤ 100000 ∧ Hid (R = szL (e.kids.drop j) l) ∧ Below w.heap.size w wr) (fun _ _ i _ => n - (intOf i).toNat)
    case atStart => exact ⟨0, left - (1 + (c0 : Int)), by omega, rfl, by go_num, by omega, HR2, hb0⟩
    case round =>
      obtain ⟨j, l, hj, rfl, rfl, hl, HRj, hbr⟩ := hrel
      have i0 : (0 : Int) ≤ (j : Int) := by omega
      by_cases hlt : j < n
      · have i1 : (j : Int) < (n : Int) := by omega
        obtain ⟨b, o, k, A', n', c', d', rfl, hb, hk', hd, x0, x1, x2, x3, x4, x5, -, f1, f2, hkk⟩ := (HK.out.below hbr).exp_at hlt
        have HRk : Hid (R = if l < 0 then -1 else szL (e.kids.drop (j + 1)) (szE k l)) := by
          show _ = _
          rw [HRj.out]
          obtain ⟨g1, g2⟩ := List.getElem?_eq_some_iff.1 hk'.out
          rw [List.drop_eq_getElem_cons g1, g2, szL]
        by_cases hneg : l < 0
        · have HR1 : Hid (R = -1) := by show _ = _; rw [HRk.out, if_pos hneg]
          clear HRk HRj hk' hd
          go_wp2_with fail
          go_ret
          exact ⟨by rw [HR1.out]; rfl, belowA hbr _⟩
        · have HR1 : Hid (R = szL (e.kids.drop (j + 1)) (szE k l)) := by show _ = _; rw [HRk.out, if_neg hneg]
          have hle := szE_le k l (by omega)
          have hba : Below w.heap.size w (wr.alloc (.cells #[.int .i64 k.op, .string k.t.x, .int .i64 k.t.v.k, .int .i64 k.t.v.n, .string k.t.v.s, .slice A' n' c'] 29)) := belowA hbr _
          have HC := Lib.hid (IH.out d' (by omega) k A' n' c' l (wr.alloc (.cells #[.int .i64 k.op, .string k.t.x, .int .i64 k.t.v.k, .int .i64 k.t.v.n, .string k.t.v.s, .slice A' n' c'] 29)) (hkk.mono hba.size (fun bb hbb => (belowA (Below.refl _ _) _).block bb (by have := hbr.size; omega))) f1 f2.2.2 (by omega) hl)
          generalize szE k l = lk at *
          clear HRk HRj hk' hd
          go_wp2_with fail
          refine HC.out.mono ?_
          rintro e2 w2 ⟨rfl, hb2⟩
          go_wp2_with fail
          go_roundw
          case rel => exact ⟨j + 1, lk, by omega, by go_num, rfl, by omega, HR1, below_next hba hb2⟩
          case measure => simp [intOf]; omega
      · have i1 : ¬ (j : Int) < (n : Int) := by omega
        have HR1 : Hid (R = l) := by
          show _ = _
          rw [HRj.out, List.drop_eq_nil_of_le (by rw [Hlen.out]; omega), szL]
        clear HRj
        go_wp2_with fail
        go_ret
        exact ⟨by rw [HR1.out]; rfl, hbr⟩
end Go.Proofs.YtiffmiabhapfnaaGreatDoor

/- The document's Terms: an expression's terms, behind others. -/
namespace Go.Proofs.YtiffmiabhapfnaaGreatDoor
open Go.RowKit

mutual
/-- an expression's terms -/
def leavesE : GExp → List GTold
  | .mk _ t [] => [t]
  | .mk _ _ (k :: ks) => leavesE k ++ leavesL ks
def leavesL : List GExp → List GTold
  | [] => []
  | k :: ks => leavesE k ++ leavesL ks
end
theorem leavesE_nil {e : GExp} (h : e.kids = []) : leavesE e = [e.t] := by
  cases e with
  | mk o t ks => cases ks with
    | nil => rw [leavesE]; rfl
    | cons k ks => cases h
theorem leavesE_kids {e : GExp} (h : e.kids ≠ []) : leavesE e = leavesL e.kids := by
  cases e with
  | mk o t ks => cases ks with
    | nil => exact absurd rfl h
    | cons k ks => rw [leavesE]; show _ = leavesL (k :: ks); rw [leavesL]
/-- old rows of other types than T stay -/
def KeepsT (T : TypeId) (w w' : World) : Prop := ∀ (b : Nat) (cs : Array Value) (t : TypeId) (fr : Nat × Nat), w.heap[b]? = some (Obj.cells cs t fr) → t ≠ T → w'.heap[b]? = some (Obj.cells cs t fr)
theorem KeepsT.refl (T : TypeId) (w : World) : KeepsT T w w := fun _ _ _ _ h _ => h
theorem KeepsT.trans {T : TypeId} {w w1 w2 : World} (h : KeepsT T w w1) (k : KeepsT T w1 w2) : KeepsT T w w2 := fun b cs t fr hb ht => k b cs t fr (h b cs t fr hb ht) ht
theorem KeepsT.of_below {T : TypeId} {w w' : World} (h : Below w.heap.size w w') : KeepsT T w w' := fun b _ _ _ hb _ => (h.block b (Array.getElem?_eq_some_iff.1 hb).1).trans hb
theorem own_type {w : World} {base e sz : Nat} {v : Value} {n : Nat} {xs : List Value} (h : w.ownsRow base e sz v n xs) {b : Nat} (hb : v.ownBlock = some b) : ∃ cur, w.heap[b]? = some (.cells cur e (0, 0)) := by
  rcases h.2 with ⟨hn, _⟩ | ⟨g, cap, cur, rfl, hg, hh, r⟩
  · rw [hn] at hb; cases hb
  · injection hb with hb; subst hb; exact ⟨cur, hh⟩
theorem term5_info : (Tryz.prog.info? 34).map (fun i => (i.zero, i.size, i.bytes)) = some (some (.agg #[.string ⟨#[]⟩, .int .i64 0, .int .i64 0, .string ⟨#[]⟩]), 4, 48) := by kernel_rfl
theorem term5_push {W : World} {base : Nat} {A : Option Addr} {c k : Nat} {xs : List GTold} (hown : W.ownsRow base 34 4 (.slice A k c) k (xs.flatMap GTold.cells)) (q : GTold) (hn : k + 1 ≤ 1000000) (hb : base ≤ W.heap.size) :
    ∃ A' c' w', (∀ ty, (Builtin.append_ #[32, 32] ty #[.slice A k c, .slice (some ⟨W.heap.size, 0, none⟩) 1 1]).run Tryz.prog (W.alloc (.cells #[.string q.x, .int .i64 q.v.k, .int .i64 q.v.n, .string q.v.s] 34)) = .ok (.slice A' (k + 1) c') w') ∧
      w'.ownsRow base 34 4 (.slice A' (k + 1) c') (k + 1) ((xs ++ [q]).flatMap GTold.cells) ∧ Below base W w' ∧ KeepsT 34 W w' := by
  have ho : (W.alloc (.cells #[.string q.x, .int .i64 q.v.k, .int .i64 q.v.n, .string q.v.s] 34)).ownsRow base 34 4 (.slice A k c) k (xs.flatMap GTold.cells) := own_below hown (belowA (Below.refl _ _) _)
  obtain ⟨v', w', h1, h2, h3, h4⟩ := run_push_at (P := Tryz.prog) (ty := 32) (W.alloc (.cells #[.string q.x, .int .i64 q.v.k, .int .i64 q.v.n, .string q.v.s] 34)) (base := base) Tryz.underlying32 term5_info rfl (by decide) ho W.heap.size (GTold.cells q) rfl (heapNew rfl) (by intro u hu; simp [GTold.cells] at hu; rcases hu with rfl | rfl | rfl | rfl <;> rfl)
    (by simp [maxLen]; omega) (by omega) (by simp; omega)
  obtain ⟨A', c', rfl⟩ := own_form h2
  refine ⟨A', c', w', fun _ => h1, ?_, ?_, ?_⟩
  · rw [List.flatMap_append]; simpa using h2
  · exact ((Below.refl base W).alloc hb _).trans h4
  · have k1 : KeepsT 34 W (W.alloc (.cells #[.string q.x, .int .i64 q.v.k, .int .i64 q.v.n, .string q.v.s] 34)) := KeepsT.of_below (belowA (Below.refl _ _) _)
    refine k1.trans ?_
    intro b cs t fr hbb ht
    refine ((grown_out h3).block b (Array.getElem?_eq_some_iff.1 hbb).1 (fun hbo => ?_)).trans hbb
    obtain ⟨cur, hc⟩ := own_type ho (b := b) (by simpa using hbo)
    rw [hc] at hbb
    injection hbb with hbb; injection hbb with _ h5 _; exact ht h5.symm
end Go.Proofs.YtiffmiabhapfnaaGreatDoor

/- Expressions that are not too large: how many kids and terms there are. Nothing of any program. -/
namespace Go.Proofs.YtiffmiabhapfnaaGreatDoor
open Go.RowKit

theorem szL_pos : ∀ (ks : List GExp) (l : Int), 0 ≤ szL ks l → 0 ≤ l
  | [], l, h => by rw [szL] at h; exact h
  | k :: ks, l, h => by
    rw [szL] at h
    split at h
    · omega
    · omega
theorem szE_pos (e : GExp) (l : Int) (h : 0 ≤ szE e l) : 1 ≤ l := by
  rw [szE_def] at h
  have := szL_pos _ _ h
  omega
theorem szL_mem : ∀ (ks : List GExp) (l : Int), 0 ≤ szL ks l → ∀ k ∈ ks, ∃ l', 0 ≤ l' ∧ l' ≤ l ∧ 0 ≤ szE k l'
  | [], l, h, k, hk => by cases hk
  | q :: ks, l, h, k, hk => by
    rw [szL] at h
    split at h
    · omega
    · have h1 := szL_pos _ _ h
      rcases List.mem_cons.1 hk with rfl | hk
      · exact ⟨l, by omega, by omega, h1⟩
      · obtain ⟨l', a, b, c⟩ := szL_mem ks _ h k hk
        have := szE_le q l (by omega)
        exact ⟨l', a, by omega, c⟩
theorem szL_len : ∀ (ks : List GExp) (l : Int), 0 ≤ szL ks l → (ks.length : Int) ≤ l - szL ks l
  | [], l, h => by rw [szL]; simp
  | k :: ks, l, h => by
    rw [szL] at h ⊢
    split at h
    · omega
    · rename_i hl
      rw [if_neg hl]
      have h1 := szL_pos _ _ h
      have h2 := szL_len ks _ h
      have h3 := szL_pos _ _ (by rw [szE_def] at h1; exact h1)
      have h4 : szE k l ≤ l - 1 := by
        rw [szE_def]
        have := szL_le k.kids (l - (1 + (((k.t.x.size + k.t.v.s.size) / 50 : Nat) : Int)))
        omega
      simp only [List.length_cons]
      omega
mutual
theorem leavesE_len : ∀ (e : GExp) (l : Int), 0 ≤ szE e l → ((leavesE e).length : Int) ≤ l - szE e l
  | .mk o t [], l, h => by rw [szE, szL, leavesE]; simp; omega
  | .mk o t (k :: ks), l, h => by
    rw [szE, szL] at h ⊢
    split at h
    · omega
    · rename_i hl
      rw [if_neg hl]
      have h1 := szL_pos _ _ h
      have h2 := leavesE_len k _ h1
      have h3 := leavesL_len ks _ h
      rw [leavesE]
      simp only [List.length_append]
      omega
theorem leavesL_len : ∀ (ks : List GExp) (l : Int), 0 ≤ szL ks l → ((leavesL ks).length : Int) ≤ l - szL ks l
  | [], l, h => by rw [szL, leavesL]; simp
  | k :: ks, l, h => by
    rw [szL] at h ⊢
    split at h
    · omega
    · rename_i hl
      rw [if_neg hl]
      have h1 := szL_pos _ _ h
      have h2 := leavesE_len k _ h1
      have h3 := leavesL_len ks _ h
      rw [leavesL]
      simp only [List.length_append]
      omega
end
/-- an expression of at most 1500 things -/
def Sm (e : GExp) : Prop := ∃ l : Int, 0 ≤ l ∧ l ≤ 1500 ∧ 0 ≤ szE e l
theorem Sm.of {e : GExp} {l : Int} (h : 0 ≤ szE e l) (hl : l ≤ 1500) : Sm e := ⟨l, by have := szE_pos e l h; omega, hl, h⟩
theorem Sm.kids {e : GExp} (h : Sm e) : ∀ k ∈ e.kids, Sm k := by
  obtain ⟨l, h0, h1, h2⟩ := h
  rw [szE_def] at h2
  intro k hk
  obtain ⟨l', a, b, c⟩ := szL_mem _ _ h2 k hk
  exact ⟨l', a, by omega, c⟩
theorem Sm.len {e : GExp} (h : Sm e) : e.kids.length ≤ 1500 := by
  obtain ⟨l, h0, h1, h2⟩ := h
  rw [szE_def] at h2
  have := szL_len _ _ h2
  omega
theorem Sm.leaves {e : GExp} (h : Sm e) : (leavesE e).length ≤ 1500 := by
  obtain ⟨l, h0, h1, h2⟩ := h
  have := leavesE_len _ _ h2
  omega
theorem leavesL_take {l : List GExp} {k : Nat} {e : GExp} (hx : l[k]? = some e) : leavesL (l.take (k + 1)) = leavesL (l.take k) ++ leavesE e := by
  have ha : ∀ a b : List GExp, leavesL (a ++ b) = leavesL a ++ leavesL b := by
    intro a
    induction a with
    | nil => intro b; rw [leavesL]; rfl
    | cons x a ih => intro b; rw [List.cons_append, leavesL, leavesL, ih, List.append_assoc]
  rw [List.take_add_one, hx, ha]
  simp only [Option.toList_some]
  rw [show leavesL [e] = leavesE e by rw [leavesL, leavesL, List.append_nil]]
theorem leavesL_drop {l : List GExp} {k : Nat} {e : GExp} (hx : l[k]? = some e) : leavesL (l.drop k) = leavesE e ++ leavesL (l.drop (k + 1)) := by
  obtain ⟨hk, he⟩ := List.getElem?_eq_some_iff.1 hx
  rw [List.drop_eq_getElem_cons hk, he, leavesL]
theorem leavesL_full (l : List GExp) (k : Nat) : leavesL l = leavesL (l.take k) ++ leavesL (l.drop k) := by
  have ha : ∀ a b : List GExp, leavesL (a ++ b) = leavesL a ++ leavesL b := by
    intro a
    induction a with
    | nil => intro b; rw [leavesL]; rfl
    | cons x a ih => intro b; rw [List.cons_append, leavesL, leavesL, ih, List.append_assoc]
  rw [← ha, List.take_append_drop]
end Go.Proofs.YtiffmiabhapfnaaGreatDoor

/- Atoms, literals, rules, declarations, programs in memory, and how such arguments are read. Nothing of any program. -/
namespace Go.Proofs.YtiffmiabhapfnaaGreatDoor
open Go.RowKit

/-- a slice's header -/
structure Hd where
  A : Option Addr
  n : Nat
  c : Nat
abbrev Hd.v (h : Hd) : Value := .slice h.A h.n h.c
structure GAtom where
  rel : ByteArray
  args : List GTold
structure GLit where
  k : Int
  atom : GAtom
  op : Int
  l : GExp
  r : GExp
  pos : Int
structure GRule where
  head : GAtom
  agg : Int
  col : Int
  body : List GLit
  pos : Int
structure GDecl where
  rel : ByteArray
  kinds : List Int
  pos : Int
structure GProg where
  decls : List GDecl
  rules : List GRule

abbrev litC (x : GLit) (a p q : Hd) : List Value := [.int .i64 x.k, .string x.atom.rel, a.v, .int .i64 x.op, .int .i64 x.l.op, .string x.l.t.x, .int .i64 x.l.t.v.k, .int .i64 x.l.t.v.n, .string x.l.t.v.s, p.v, .int .i64 x.r.op, .string x.r.t.x, .int .i64 x.r.t.v.k, .int .i64 x.r.t.v.n, .string x.r.t.v.s, q.v, .int .i64 x.pos]
abbrev ruleC (x : GRule) (a b : Hd) : List Value := [.string x.head.rel, a.v, .int .i64 x.agg, .int .i64 x.col, b.v, .int .i64 x.pos]
abbrev declC (x : GDecl) (a : Hd) : List Value := [.string x.rel, a.v, .int .i64 x.pos]

structure LitAt (d : Nat) (w : World) (B : Nat) (x : GLit) (a p q : Hd) : Prop where
  k : fits x.k
  op : fits x.op
  pos : fits x.pos
  rel : x.atom.rel.size ≤ reachN
  args : SliceIs Enc.told w B a.A a.n a.c x.atom.args
  lop : fits x.l.op
  lx : x.l.t.x.size ≤ reachN
  lv : x.l.t.v.ok
  lk : SliceIs (Enc.exp d) w B p.A p.n p.c x.l.kids
  rop : fits x.r.op
  rx : x.r.t.x.size ≤ reachN
  rv : x.r.t.v.ok
  rk : SliceIs (Enc.exp d) w B q.A q.n q.c x.r.kids
theorem LitAt.mono' {d : Nat} {w w' : World} {B B' : Nat} {x : GLit} {a p q : Hd} (h : LitAt d w B x a p q) (hB : B ≤ B') (hk : Kept w w' B) : LitAt d w' B' x a p q :=
  ⟨h.k, h.op, h.pos, h.rel, h.args.mono' hB hk, h.lop, h.lx, h.lv, h.lk.mono' hB hk, h.rop, h.rx, h.rv, h.rk.mono' hB hk⟩
theorem LitAt.keep {d : Nat} {w w' : World} {x : GLit} {a p q : Hd} (h : LitAt d w w.heap.size x a p q) (hb : Below w.heap.size w w') : LitAt d w' w'.heap.size x a p q := h.mono' hb.size (Kept.of hb.block)
def Enc.lit (d : Nat) : Enc GLit where
  sz := 17
  ok := fun w B cs x => ∃ a p q : Hd, cs = litC x a p q ∧ LitAt d w B x a p q
  mono := fun hB hk ⟨a, p, q, h1, h2⟩ => ⟨a, p, q, h1, h2.mono' hB hk⟩
  len := fun ⟨_, _, _, h, _⟩ => by rw [h]; rfl
structure RuleAt (d : Nat) (w : World) (B : Nat) (x : GRule) (a b : Hd) : Prop where
  rel : x.head.rel.size ≤ reachN
  args : SliceIs Enc.told w B a.A a.n a.c x.head.args
  agg : fits x.agg
  col : fits x.col
  body : SliceIs (Enc.lit d) w B b.A b.n b.c x.body
  pos : fits x.pos
theorem RuleAt.mono' {d : Nat} {w w' : World} {B B' : Nat} {x : GRule} {a b : Hd} (h : RuleAt d w B x a b) (hB : B ≤ B') (hk : Kept w w' B) : RuleAt d w' B' x a b :=
  ⟨h.rel, h.args.mono' hB hk, h.agg, h.col, h.body.mono' hB hk, h.pos⟩
theorem RuleAt.keep {d : Nat} {w w' : World} {x : GRule} {a b : Hd} (h : RuleAt d w w.heap.size x a b) (hb : Below w.heap.size w w') : RuleAt d w' w'.heap.size x a b := h.mono' hb.size (Kept.of hb.block)
def Enc.rule (d : Nat) : Enc GRule where
  sz := 6
  ok := fun w B cs x => ∃ a b : Hd, cs = ruleC x a b ∧ RuleAt d w B x a b
  mono := fun hB hk ⟨a, b, h1, h2⟩ => ⟨a, b, h1, h2.mono' hB hk⟩
  len := fun ⟨_, _, h, _⟩ => by rw [h]; rfl
structure DeclAt (w : World) (B : Nat) (x : GDecl) (a : Hd) : Prop where
  rel : x.rel.size ≤ reachN
  kinds : SliceIs Enc.int w B a.A a.n a.c x.kinds
  pos : fits x.pos
theorem DeclAt.mono' {w w' : World} {B B' : Nat} {x : GDecl} {a : Hd} (h : DeclAt w B x a) (hB : B ≤ B') (hk : Kept w w' B) : DeclAt w' B' x a := ⟨h.rel, h.kinds.mono' hB hk, h.pos⟩
theorem DeclAt.keep {w w' : World} {x : GDecl} {a : Hd} (h : DeclAt w w.heap.size x a) (hb : Below w.heap.size w w') : DeclAt w' w'.heap.size x a := h.mono' hb.size (Kept.of hb.block)
def Enc.decl : Enc GDecl where
  sz := 3
  ok := fun w B cs x => ∃ a : Hd, cs = declC x a ∧ DeclAt w B x a
  mono := fun hB hk ⟨a, h1, h2⟩ => ⟨a, h1, h2.mono' hB hk⟩
  len := fun ⟨_, h, _⟩ => by rw [h]; rfl

section
variable {w : World} {B : Nat} {A : Option Addr} {n c d : Nat}
theorem SliceIs.lit_at {l : List GLit} (h : SliceIs (Enc.lit d) w B A n c l) {i : Nat} (hi : i < n) :
    ∃ (b o : Nat) (x : GLit) (a p q : Hd), A = some ⟨b, o, none⟩ ∧ b < B ∧ Hid (l[i]? = some x) ∧ LitAt d w B x a p q ∧
      w.cell? ⟨b, o + i * 17, none⟩ = some (.int .i64 x.k) ∧ w.cell? ⟨b, o + i * 17 + 1, none⟩ = some (.string x.atom.rel) ∧ w.cell? ⟨b, o + i * 17 + 2, none⟩ = some (a.v) ∧ w.cell? ⟨b, o + i * 17 + 3, none⟩ = some (.int .i64 x.op) ∧ w.cell? ⟨b, o + i * 17 + 4, none⟩ = some (.int .i64 x.l.op) ∧ w.cell? ⟨b, o + i * 17 + 5, none⟩ = some (.string x.l.t.x) ∧ w.cell? ⟨b, o + i * 17 + 6, none⟩ = some (.int .i64 x.l.t.v.k) ∧ w.cell? ⟨b, o + i * 17 + 7, none⟩ = some (.int .i64 x.l.t.v.n) ∧ w.cell? ⟨b, o + i * 17 + 8, none⟩ = some (.string x.l.t.v.s) ∧ w.cell? ⟨b, o + i * 17 + 9, none⟩ = some (p.v) ∧ w.cell? ⟨b, o + i * 17 + 10, none⟩ = some (.int .i64 x.r.op) ∧ w.cell? ⟨b, o + i * 17 + 11, none⟩ = some (.string x.r.t.x) ∧ w.cell? ⟨b, o + i * 17 + 12, none⟩ = some (.int .i64 x.r.t.v.k) ∧ w.cell? ⟨b, o + i * 17 + 13, none⟩ = some (.int .i64 x.r.t.v.n) ∧ w.cell? ⟨b, o + i * 17 + 14, none⟩ = some (.string x.r.t.v.s) ∧ w.cell? ⟨b, o + i * 17 + 15, none⟩ = some (q.v) ∧ w.cell? ⟨b, o + i * 17 + 16, none⟩ = some (.int .i64 x.pos) := by
  obtain ⟨b, o, x, cs, hA, hb, hx, ⟨a, p, q, rfl, h1⟩, hc⟩ := h.at_ hi
  exact ⟨b, o, x, a, p, q, hA, hb, hx, h1, by simpa [Enc.lit] using hc 0 _ rfl, by simpa [Enc.lit] using hc 1 _ rfl, by simpa [Enc.lit] using hc 2 _ rfl, by simpa [Enc.lit] using hc 3 _ rfl, by simpa [Enc.lit] using hc 4 _ rfl, by simpa [Enc.lit] using hc 5 _ rfl, by simpa [Enc.lit] using hc 6 _ rfl, by simpa [Enc.lit] using hc 7 _ rfl, by simpa [Enc.lit] using hc 8 _ rfl, by simpa [Enc.lit] using hc 9 _ rfl, by simpa [Enc.lit] using hc 10 _ rfl, by simpa [Enc.lit] using hc 11 _ rfl, by simpa [Enc.lit] using hc 12 _ rfl, by simpa [Enc.lit] using hc 13 _ rfl, by simpa [Enc.lit] using hc 14 _ rfl, by simpa [Enc.lit] using hc 15 _ rfl, by simpa [Enc.lit] using hc 16 _ rfl⟩
theorem SliceIs.rule_at {l : List GRule} (h : SliceIs (Enc.rule d) w B A n c l) {i : Nat} (hi : i < n) :
    ∃ (b o : Nat) (x : GRule) (a m : Hd), A = some ⟨b, o, none⟩ ∧ b < B ∧ Hid (l[i]? = some x) ∧ RuleAt d w B x a m ∧
      w.cell? ⟨b, o + i * 6, none⟩ = some (.string x.head.rel) ∧ w.cell? ⟨b, o + i * 6 + 1, none⟩ = some (a.v) ∧ w.cell? ⟨b, o + i * 6 + 2, none⟩ = some (.int .i64 x.agg) ∧ w.cell? ⟨b, o + i * 6 + 3, none⟩ = some (.int .i64 x.col) ∧ w.cell? ⟨b, o + i * 6 + 4, none⟩ = some (m.v) ∧ w.cell? ⟨b, o + i * 6 + 5, none⟩ = some (.int .i64 x.pos) := by
  obtain ⟨b, o, x, cs, hA, hb, hx, ⟨a, m, rfl, h1⟩, hc⟩ := h.at_ hi
  exact ⟨b, o, x, a, m, hA, hb, hx, h1, by simpa [Enc.rule] using hc 0 _ rfl, by simpa [Enc.rule] using hc 1 _ rfl, by simpa [Enc.rule] using hc 2 _ rfl, by simpa [Enc.rule] using hc 3 _ rfl, by simpa [Enc.rule] using hc 4 _ rfl, by simpa [Enc.rule] using hc 5 _ rfl⟩
theorem SliceIs.decl_at {l : List GDecl} (h : SliceIs Enc.decl w B A n c l) {i : Nat} (hi : i < n) :
    ∃ (b o : Nat) (x : GDecl) (a : Hd), A = some ⟨b, o, none⟩ ∧ b < B ∧ Hid (l[i]? = some x) ∧ DeclAt w B x a ∧
      w.cell? ⟨b, o + i * 3, none⟩ = some (.string x.rel) ∧ w.cell? ⟨b, o + i * 3 + 1, none⟩ = some (a.v) ∧ w.cell? ⟨b, o + i * 3 + 2, none⟩ = some (.int .i64 x.pos) := by
  obtain ⟨b, o, x, cs, hA, hb, hx, ⟨a, rfl, h1⟩, hc⟩ := h.at_ hi
  exact ⟨b, o, x, a, hA, hb, hx, h1, by simpa [Enc.decl] using hc 0 _ rfl, by simpa [Enc.decl] using hc 1 _ rfl, by simpa [Enc.decl] using hc 2 _ rfl⟩
end

/-! ### a box's cells -/
theorem facts2 {W : World} {g : Nat} {t : TypeId} {v0 v1 : Value} (h : W.heap[g]? = some (.cells #[v0, v1] t (0, 0))) : W.cell? ⟨g, 0, none⟩ = some v0 ∧ W.cell? ⟨g, 1, none⟩ = some v1 :=
  ⟨(cell_of_row _ _ 0 _ _ _ h).trans rfl, (cell_of_row _ _ 1 _ _ _ h).trans rfl⟩
theorem facts3 {W : World} {g : Nat} {t : TypeId} {v0 v1 v2 : Value} (h : W.heap[g]? = some (.cells #[v0, v1, v2] t (0, 0))) : W.cell? ⟨g, 0, none⟩ = some v0 ∧ W.cell? ⟨g, 1, none⟩ = some v1 ∧ W.cell? ⟨g, 2, none⟩ = some v2 :=
  ⟨(cell_of_row _ _ 0 _ _ _ h).trans rfl, (cell_of_row _ _ 1 _ _ _ h).trans rfl, (cell_of_row _ _ 2 _ _ _ h).trans rfl⟩
theorem facts4 {W : World} {g : Nat} {t : TypeId} {v0 v1 v2 v3 : Value} (h : W.heap[g]? = some (.cells #[v0, v1, v2, v3] t (0, 0))) : W.cell? ⟨g, 0, none⟩ = some v0 ∧ W.cell? ⟨g, 1, none⟩ = some v1 ∧ W.cell? ⟨g, 2, none⟩ = some v2 ∧ W.cell? ⟨g, 3, none⟩ = some v3 :=
  ⟨(cell_of_row _ _ 0 _ _ _ h).trans rfl, (cell_of_row _ _ 1 _ _ _ h).trans rfl, (cell_of_row _ _ 2 _ _ _ h).trans rfl, (cell_of_row _ _ 3 _ _ _ h).trans rfl⟩
theorem facts6 {W : World} {g : Nat} {t : TypeId} {v0 v1 v2 v3 v4 v5 : Value} (h : W.heap[g]? = some (.cells #[v0, v1, v2, v3, v4, v5] t (0, 0))) : W.cell? ⟨g, 0, none⟩ = some v0 ∧ W.cell? ⟨g, 1, none⟩ = some v1 ∧ W.cell? ⟨g, 2, none⟩ = some v2 ∧ W.cell? ⟨g, 3, none⟩ = some v3 ∧ W.cell? ⟨g, 4, none⟩ = some v4 ∧ W.cell? ⟨g, 5, none⟩ = some v5 :=
  ⟨(cell_of_row _ _ 0 _ _ _ h).trans rfl, (cell_of_row _ _ 1 _ _ _ h).trans rfl, (cell_of_row _ _ 2 _ _ _ h).trans rfl, (cell_of_row _ _ 3 _ _ _ h).trans rfl, (cell_of_row _ _ 4 _ _ _ h).trans rfl, (cell_of_row _ _ 5 _ _ _ h).trans rfl⟩
theorem facts17 {W : World} {g : Nat} {t : TypeId} {v0 v1 v2 v3 v4 v5 v6 v7 v8 v9 v10 v11 v12 v13 v14 v15 v16 : Value} (h : W.heap[g]? = some (.cells #[v0, v1, v2, v3, v4, v5, v6, v7, v8, v9, v10, v11, v12, v13, v14, v15, v16] t (0, 0))) : W.cell? ⟨g, 0, none⟩ = some v0 ∧ W.cell? ⟨g, 1, none⟩ = some v1 ∧ W.cell? ⟨g, 2, none⟩ = some v2 ∧ W.cell? ⟨g, 3, none⟩ = some v3 ∧ W.cell? ⟨g, 4, none⟩ = some v4 ∧ W.cell? ⟨g, 5, none⟩ = some v5 ∧ W.cell? ⟨g, 6, none⟩ = some v6 ∧ W.cell? ⟨g, 7, none⟩ = some v7 ∧ W.cell? ⟨g, 8, none⟩ = some v8 ∧ W.cell? ⟨g, 9, none⟩ = some v9 ∧ W.cell? ⟨g, 10, none⟩ = some v10 ∧ W.cell? ⟨g, 11, none⟩ = some v11 ∧ W.cell? ⟨g, 12, none⟩ = some v12 ∧ W.cell? ⟨g, 13, none⟩ = some v13 ∧ W.cell? ⟨g, 14, none⟩ = some v14 ∧ W.cell? ⟨g, 15, none⟩ = some v15 ∧ W.cell? ⟨g, 16, none⟩ = some v16 :=
  ⟨(cell_of_row _ _ 0 _ _ _ h).trans rfl, (cell_of_row _ _ 1 _ _ _ h).trans rfl, (cell_of_row _ _ 2 _ _ _ h).trans rfl, (cell_of_row _ _ 3 _ _ _ h).trans rfl, (cell_of_row _ _ 4 _ _ _ h).trans rfl, (cell_of_row _ _ 5 _ _ _ h).trans rfl, (cell_of_row _ _ 6 _ _ _ h).trans rfl, (cell_of_row _ _ 7 _ _ _ h).trans rfl, (cell_of_row _ _ 8 _ _ _ h).trans rfl, (cell_of_row _ _ 9 _ _ _ h).trans rfl, (cell_of_row _ _ 10 _ _ _ h).trans rfl, (cell_of_row _ _ 11 _ _ _ h).trans rfl, (cell_of_row _ _ 12 _ _ _ h).trans rfl, (cell_of_row _ _ 13 _ _ _ h).trans rfl, (cell_of_row _ _ 14 _ _ _ h).trans rfl, (cell_of_row _ _ 15 _ _ _ h).trans rfl, (cell_of_row _ _ 16 _ _ _ h).trans rfl⟩

/-! ### reading -/
theorem OpensB.down {α : Type} {N M : Nat} {P : Program} {t : TypeId} {E : Enc α} (h : OpensB N P t E) (hM : M ≤ N) : OpensB M P t E := fun H enc w fuel cs x hf hx hw => h H enc w fuel cs x (by omega) hx hw
theorem opensB_slice' {α : Type} {N : Nat} {P : Program} {t e : TypeId} {E : Enc α} (h : P.underlying t = some (.slice e)) (he : OpensB N P e E) (hc : P.cellsOf e = E.sz) (hz : 0 < E.sz) (hb : 0 < P.bytesOf e) : OpensB N P t (Enc.slice E) :=
  (opensB_slice h he hc hz hb).down (Nat.le_succ _)
theorem opens_atomF {H : Type} {enc : TypeId × Value → H} {P : Program} {w : World} {t a b : TypeId} {fuel : Nat} {cs : List Value} {x : DataW H × List MemPlace} (hf : fieldsOf P t = [(a, 0, 1), (b, 1, 1)]) (hz : P.cellsOf t = 2) (ha : P.underlying a = some .string) (hb : Opens P b (Enc.slice Enc.told))
    (hx : DataW.trod enc P w 0 (fun _ => true) true fuel t cs = some x) (hwt : ∀ n ∈ x.1.weights P t, n ≤ reachBytes) : ∃ (y : GAtom) (h : Hd), cs = [.string y.rel, h.v] ∧ y.rel.size ≤ reachN ∧ SliceIs Enc.told w w.heap.size h.A h.n h.c y.args := by
  obtain ⟨hl, n, rfl, hat⟩ := open_fieldsB hf (by simp) hx hwt
  rw [hz] at hl
  match cs, hl with
  | [u0, u1], _ =>
    obtain ⟨y, h, hw⟩ := hat 0 _ rfl
    obtain ⟨s, e0, f0⟩ := opens_str ha _ _ _ _ _ _ h hw
    obtain ⟨y, h, hw⟩ := hat 1 _ rfl
    obtain ⟨ks, A, m, d, e1, f1⟩ := hb _ _ _ _ _ _ h hw
    simp at e0 e1
    subst e0 e1
    exact ⟨⟨s, ks⟩, ⟨A, m, d⟩, rfl, f0, f1⟩
theorem opens_lit {N d : Nat} {P : Program} {t k at_ o e s al : TypeId} (hf : fieldsOf P t = [(k, 0, 1), (at_, 1, 2), (o, 3, 1), (e, 4, 6), (e, 10, 6), (o, 16, 1)]) (hz : P.cellsOf t = 17) (hk : P.underlying k = some (.int .i64)) (ho : P.underlying o = some (.int .i64))
    (hfa : fieldsOf P at_ = [(s, 0, 1), (al, 1, 1)]) (hza : P.cellsOf at_ = 2) (hs : P.underlying s = some .string) (hal : Opens P al (Enc.slice Enc.told)) (he : OpensB N P e (Enc.exp (d + 1))) : OpensB N P t (Enc.lit d) := by
  intro H enc w fuel cs x hfu hx hwt
  obtain ⟨hl, n, rfl, hat⟩ := open_fieldsB hf (by simp) hx hwt
  rw [hz] at hl
  match cs, hl with
  | [u0, u1, u2, u3, u4, u5, u6, u7, u8, u9, u10, u11, u12, u13, u14, u15, u16], _ =>
    obtain ⟨y, h, hw⟩ := hat 0 _ rfl
    obtain ⟨i0, e0, f0⟩ := opens_int hk _ _ _ _ _ _ h hw
    obtain ⟨y, h, hw⟩ := hat 1 _ rfl
    obtain ⟨ga, ha, e1, f1, f2⟩ := opens_atomF hfa hza hs hal h hw
    obtain ⟨y, h, hw⟩ := hat 2 _ rfl
    obtain ⟨i3, e3, f3⟩ := opens_int ho _ _ _ _ _ _ h hw
    obtain ⟨y, h, hw⟩ := hat 3 _ rfl
    obtain ⟨x4, A4, m4, d4, e4, f4, g4, h4, k4⟩ := he _ _ _ _ _ _ (by omega) h hw
    obtain ⟨y, h, hw⟩ := hat 4 _ rfl
    obtain ⟨x5, A5, m5, d5, e5, f5, g5, h5, k5⟩ := he _ _ _ _ _ _ (by omega) h hw
    obtain ⟨y, h, hw⟩ := hat 5 _ rfl
    obtain ⟨i6, e6, f6⟩ := opens_int ho _ _ _ _ _ _ h hw
    simp at e0 e1 e3 e4 e5 e6
    obtain ⟨rfl, rfl⟩ := e1
    obtain ⟨rfl, rfl, rfl, rfl, rfl, rfl⟩ := e4
    obtain ⟨rfl, rfl, rfl, rfl, rfl, rfl⟩ := e5
    subst e0 e3 e6
    exact ⟨⟨i0, ga, i3, x4, x5, i6⟩, ha, ⟨A4, m4, d4⟩, ⟨A5, m5, d5⟩, rfl, ⟨f0, f3, f6, f1, f2, f4, g4, h4, k4, f5, g5, h5, k5⟩⟩
theorem opens_rule {N d : Nat} {P : Program} {t at_ o lt s al : TypeId} (hf : fieldsOf P t = [(at_, 0, 2), (o, 2, 1), (o, 3, 1), (lt, 4, 1), (o, 5, 1)]) (hz : P.cellsOf t = 6) (ho : P.underlying o = some (.int .i64))
    (hfa : fieldsOf P at_ = [(s, 0, 1), (al, 1, 1)]) (hza : P.cellsOf at_ = 2) (hs : P.underlying s = some .string) (hal : Opens P al (Enc.slice Enc.told)) (hl : OpensB N P lt (Enc.slice (Enc.lit d))) : OpensB N P t (Enc.rule d) := by
  intro H enc w fuel cs x hfu hx hwt
  obtain ⟨hlen, n, rfl, hat⟩ := open_fieldsB hf (by simp) hx hwt
  rw [hz] at hlen
  match cs, hlen with
  | [u0, u1, u2, u3, u4, u5], _ =>
    obtain ⟨y, h, hw⟩ := hat 0 _ rfl
    obtain ⟨ga, ha, e1, f1, f2⟩ := opens_atomF hfa hza hs hal h hw
    obtain ⟨y, h, hw⟩ := hat 1 _ rfl
    obtain ⟨i2, e2, f3⟩ := opens_int ho _ _ _ _ _ _ h hw
    obtain ⟨y, h, hw⟩ := hat 2 _ rfl
    obtain ⟨i3, e3, f4⟩ := opens_int ho _ _ _ _ _ _ h hw
    obtain ⟨y, h, hw⟩ := hat 3 _ rfl
    obtain ⟨ls, A, m, c, e4, f5⟩ := hl _ _ _ _ _ _ (by omega) h hw
    obtain ⟨y, h, hw⟩ := hat 4 _ rfl
    obtain ⟨i5, e5, f6⟩ := opens_int ho _ _ _ _ _ _ h hw
    simp at e1 e2 e3 e4 e5
    obtain ⟨rfl, rfl⟩ := e1
    subst e2 e3 e4 e5
    exact ⟨⟨ga, i2, i3, ls, i5⟩, ha, ⟨A, m, c⟩, rfl, ⟨f1, f2, f3, f4, f5, f6⟩⟩
theorem opens_decl {P : Program} {t s k o : TypeId} (hf : fieldsOf P t = [(s, 0, 1), (k, 1, 1), (o, 2, 1)]) (hz : P.cellsOf t = 3) (hs : P.underlying s = some .string) (hk : Opens P k (Enc.slice Enc.int)) (ho : P.underlying o = some (.int .i64)) : Opens P t Enc.decl := by
  intro H enc w fuel cs x hx hwt
  obtain ⟨hlen, n, rfl, hat⟩ := open_fieldsB hf (by simp) hx hwt
  rw [hz] at hlen
  match cs, hlen with
  | [u0, u1, u2], _ =>
    obtain ⟨y, h, hw⟩ := hat 0 _ rfl
    obtain ⟨s0, e0, f0⟩ := opens_str hs _ _ _ _ _ _ h hw
    obtain ⟨y, h, hw⟩ := hat 1 _ rfl
    obtain ⟨ks, A, m, c, e1, f1⟩ := hk _ _ _ _ _ _ h hw
    obtain ⟨y, h, hw⟩ := hat 2 _ rfl
    obtain ⟨i2, e2, f2⟩ := opens_int ho _ _ _ _ _ _ h hw
    simp at e0 e1 e2
    subst e0 e1 e2
    exact ⟨⟨s0, ks, i2⟩, ⟨A, m, c⟩, rfl, ⟨f0, f1, f2⟩⟩
/-- a program's two slices -/
structure ProgAt (d : Nat) (w : World) (B : Nat) (x : GProg) (a b : Hd) : Prop where
  decls : SliceIs Enc.decl w B a.A a.n a.c x.decls
  rules : SliceIs (Enc.rule d) w B b.A b.n b.c x.rules
theorem ProgAt.keep {d : Nat} {w w' : World} {x : GProg} {a b : Hd} (h : ProgAt d w w.heap.size x a b) (hb : Below w.heap.size w w') : ProgAt d w' w'.heap.size x a b := ⟨h.decls.mono' hb.size (Kept.of hb.block), h.rules.mono' hb.size (Kept.of hb.block)⟩
def Enc.prog (d : Nat) : Enc GProg where
  sz := 2
  ok := fun w B cs x => ∃ a b : Hd, cs = [a.v, b.v] ∧ ProgAt d w B x a b
  mono := fun hB hk ⟨a, b, h1, h2⟩ => ⟨a, b, h1, ⟨h2.decls.mono' hB hk, h2.rules.mono' hB hk⟩⟩
  len := fun ⟨_, _, h, _⟩ => by rw [h]; rfl
theorem opens_prog {N d : Nat} {P : Program} {t a b : TypeId} (hf : fieldsOf P t = [(a, 0, 1), (b, 1, 1)]) (hz : P.cellsOf t = 2) (ha : Opens P a (Enc.slice Enc.decl)) (hb : OpensB N P b (Enc.slice (Enc.rule d))) : OpensB N P t (Enc.prog d) := by
  intro H enc w fuel cs x hfu hx hwt
  obtain ⟨hlen, n, rfl, hat⟩ := open_fieldsB hf (by simp) hx hwt
  rw [hz] at hlen
  match cs, hlen with
  | [u0, u1], _ =>
    obtain ⟨y, h, hw⟩ := hat 0 _ rfl
    obtain ⟨ds, A, m, c, e0, f0⟩ := ha _ _ _ _ _ _ h hw
    obtain ⟨y, h, hw⟩ := hat 1 _ rfl
    obtain ⟨rs, A', m', c', e1, f1⟩ := hb _ _ _ _ _ _ (by omega) h hw
    simp at e0 e1
    subst e0 e1
    exact ⟨⟨ds, rs⟩, ⟨A, m, c⟩, ⟨A', m', c'⟩, rfl, ⟨f0, f1⟩⟩
end Go.Proofs.YtiffmiabhapfnaaGreatDoor

/- Loads and new boxes of wide structs: no unrolling of cells. -/
namespace Go.Proofs.YtiffmiabhapfnaaGreatDoor
open Go.RowKit Go.Great

theorem setRow_new (w : World) (old cells : Array Value) (T : TypeId) : (w.alloc (.cells old T)).setRow w.heap.size cells = w.alloc (.cells cells T) := by
  have h : ((w.alloc (.cells old T)).setRow w.heap.size cells).heap = (w.alloc (.cells cells T)).heap := by
    apply Array.ext_getElem?
    intro i
    rcases Nat.lt_trichotomy i w.heap.size with h | h | h
    · have h1 := Below.heap_alloc w (.cells cells T) i h
      have h2 := Below.heap_alloc w (.cells old T) i h
      rw [h1, ← h2]
      simp only [World.setRow, Array.getElem?_modify]
      rw [if_neg (by omega)]
    · subst h
      have h1 := Go.heap_alloc_new w (.cells cells T)
      have h2 := Go.heap_alloc_new w (.cells old T)
      rw [h1]
      simp only [World.setRow, Array.getElem?_modify, if_true]
      rw [h2]; rfl
    · rw [Array.getElem?_eq_none (by simp [World.setRow]; omega), Array.getElem?_eq_none (by simp; omega)]
  exact congrArg (fun hp => ({ w.alloc (.cells cells T) with heap := hp } : World)) h
section
variable {P : Program}
set_option maxRecDepth 20000 in
theorem run_alloc_ty (ev : Operand → Value) (w : World) (o : Oper) (ty : TypeId) (ho : o.op = .alloc ty) (zs : Array Value) (n : Nat) (hi : (P.info? ty).map (fun i => (i.zero, i.size)) = some (some (.agg zs), n)) :
   (execOp ev o).run P w = .ok (.value (.pointer (some ⟨w.heap.size, 0, none⟩))) (w.alloc (.cells zs ty)) := by
  obtain ⟨i, hi1, hi2⟩ := Option.map_eq_some_iff.1 hi
  injection hi2 with h1 h2
  have hzv : (zeroValue ty).run P w = .ok (.agg zs) w := by simp [zeroValue, typeInfo, hi1, h1]
  unfold execOp
  simp [ho, go_sem, hzv]
/-- a new variable that a struct is put into: 'alloc' and 'store', the two of them -/
theorem wpList_new {ops : Array Oper} {rest : List Oper} {o1 o2 : Oper} {a : Act} {w : World} {Q : Exit → Act → World → Prop} (g1 : o1.guard = none) (g2 : o2.guard = none) (ty : TypeId) (d : Tmp) (x : Operand) (h1 : o1.op = .alloc ty) (hd1 : o1.dst = some d) (h2 : o2.op = .store ty (.tmp d) x) (hd2 : o2.dst = none)
    (zs : Array Value) (cells : Array Value) (hi : (P.info? ty).map (fun i => (i.zero, i.size)) = some (some (.agg zs), zs.size)) (hs : zs.size = cells.size) (hone : cells.all (·.oneCell') = true)
    (hp : (a.put (some d) (.pointer (some ⟨w.heap.size, 0, none⟩))).eval (.tmp d) = .pointer (some ⟨w.heap.size, 0, none⟩)) (hx : (a.put (some d) (.pointer (some ⟨w.heap.size, 0, none⟩))).eval x = .agg cells)
    (h : wpList P ops Q rest (a.put (some d) (.pointer (some ⟨w.heap.size, 0, none⟩))) (w.alloc (.cells cells ty))) : wpList P ops Q (o1 :: o2 :: rest) a w := by
  refine wpList_allocTo g1 (some d) hd1 _ _ (run_alloc_ty _ w o1 ty h1 zs _ hi) ?_
  refine wpList_store_rowTo g2 ty (.tmp d) x h2 hd2 w.heap.size cells hp hx ty zs (Go.heap_alloc_new w _) ?_ hs hone ?_
  · obtain ⟨i, hi1, hi2⟩ := Option.map_eq_some_iff.1 hi
    injection hi2 with h3 h4
    rw [hi1]; simp [h4, hs]
  · rw [setRow_new]; exact h
end
abbrev zLit : List Value := litC ⟨0, ⟨⟨#[]⟩, []⟩, 0, .mk 0 ⟨⟨#[]⟩, ⟨0, 0, ⟨#[]⟩⟩⟩ [], .mk 0 ⟨⟨#[]⟩, ⟨0, 0, ⟨#[]⟩⟩⟩ [], 0⟩ ⟨none, 0, 0⟩ ⟨none, 0, 0⟩ ⟨none, 0, 0⟩
theorem lit_info : (Tryz.prog.info? 63).map (fun i => (i.zero, i.size)) = some (some (.agg zLit.toArray), zLit.toArray.size) := by kernel_rfl
theorem lit_size (x : GLit) (a p q : Hd) : (Tryz.prog.info? 63).map (·.size) = some (litC x a p q).length := by
  show _ = some 17
  kernel_rfl
theorem lit_one (x : GLit) (a p q : Hd) : (litC x a p q).toArray.all (·.oneCell') = true := by simp [Value.oneCell']
/-- the literal at a place of a list -/
theorem SliceIs.lit_range {w : World} {B : Nat} {A : Option Addr} {n c d : Nat} {l : List GLit} (h : SliceIs (Enc.lit d) w B A n c l) {i : Nat} (hi : i < n) :
    ∃ (b o : Nat) (x : GLit) (a p q : Hd), A = some ⟨b, o, none⟩ ∧ b < B ∧ Hid (l[i]? = some x) ∧ LitAt d w B x a p q ∧ Hid (w.rangeAt b (o + i * 17) (litC x a p q)) := by
  obtain ⟨b, o, x, cs, hA, hb, hx, ⟨a, p, q, rfl, h1⟩, hc⟩ := h.at_ hi
  exact ⟨b, o, x, a, p, q, hA, hb, hx, h1, fun j v hj => by simpa [Enc.lit] using hc j v hj⟩
theorem range_row {w : World} {g : Nat} {T : TypeId} {cs : List Value} (h : w.heap[g]? = some (.cells cs.toArray T (0, 0))) : w.rangeAt g 0 cs := fun j v hj => by
  rw [cell_of_row _ _ _ _ _ _ h]; simpa using hj
end Go.Proofs.YtiffmiabhapfnaaGreatDoor

/- corollarylaw05.Exp: an expression of the program's as the document's. -/
namespace Go.Proofs.YtiffmiabhapfnaaGreatDoor
open Go.RowKit

/-- an expression whose kids lie in new rows -/
def CopyExp (d : Nat) (e : GExp) (w : World) (r : Ending) (w' : World) : Prop :=
  ∃ (A : Option Addr) (c : Nat), r = .returned (expV e A e.kids.length c) ∧ SliceFar (Enc.exp d) w' (List.range w.heap.size) A e.kids.length c e.kids ∧ Below w.heap.size w w'
abbrev zeC : List Value := [.int .i64 0, .string ⟨#[]⟩, .int .i64 0, .int .i64 0, .string ⟨#[]⟩, .slice none 0 0]
abbrev expC (e : GExp) (A : Option Addr) (n c : Nat) : List Value := [.int .i64 e.op, .string e.t.x, .int .i64 e.t.v.k, .int .i64 e.t.v.n, .string e.t.v.s, .slice A n c]

set_option maxRecDepth 100000 in
set_option maxHeartbeats 4000000 in
theorem copyExp_any : ∀ (d : Nat) (e : GExp) (A : Option Addr) (n c : Nat) (w : World), SliceIs (Enc.exp d) w w.heap.size A n c e.kids → Sm e → fits e.op → e.t.x.size ≤ reachN → e.t.v.ok →
    Calls Tryz.prog 9 #[expV e A n c] w (CopyExp d e w) := by
  intro d
  induction d using Nat.strongRecOn with
  | ind d ih =>
    intro e A n c w hk hsm hop hx hv
    have mixed : Tryz.prog.follows .mixedOrders = true := by kernel_rfl
    have IH := Lib.hid ih
    have hn := hk.bound
    have HK := Lib.hid hk
    have Hlen := Lib.hid hk.1
    have HSm := Lib.hid hsm
    obtain ⟨P, HP⟩ : ∃ P : Ending → World → Prop, Hid (P = CopyExp d e w) := ⟨_, rfl⟩
    rw [← HP.out]
    have hrb : (w.alloc (.cells #[.int .i64 e.op, .string e.t.x, .int .i64 e.t.v.k, .int .i64 e.t.v.n, .string e.t.v.s, .slice A n c] 29)).heap[w.heap.size]? = some (.cells #[.int .i64 e.op, .string e.t.x, .int .i64 e.t.v.k, .int .i64 e.t.v.n, .string e.t.v.s, .slice A n c] 29 (0, 0)) := heapNew rfl
    obtain ⟨b0, b1, b2, b3, b4, b5⟩ := facts6 hrb
    have hr2 : (((w.alloc (.cells (expC e A n c).toArray 29)).alloc (.cells zeC.toArray 37)).alloc (.cells (expC e none 0 0).toArray 37)).heap[w.heap.size + 2]? = some (.cells (expC e none 0 0).toArray 37 (0, 0)) := heapNew (by simp)
    have hr1 : (((w.alloc (.cells (expC e A n c).toArray 29)).alloc (.cells zeC.toArray 37)).alloc (.cells (expC e none 0 0).toArray 37)).heap[w.heap.size + 1]? = some (.cells zeC.toArray 37 (0, 0)) := heapOld (heapNew (by simp))
    have hbw : Below w.heap.size w (((w.alloc (.cells (expC e A n c).toArray 29)).alloc (.cells zeC.toArray 37)).alloc (.cells (expC e none 0 0).toArray 37)) := belowA (belowA (belowA (Below.refl _ _) _) _) _
    have hzw : (((w.alloc (.cells (expC e A n c).toArray 29)).alloc (.cells zeC.toArray 37)).alloc (.cells (expC e none 0 0).toArray 37)).heap.size = w.heap.size + 3 := by simp
    clear ih hk hsm hrb
    go_enter Tryz.func9, Tryz.ntmps9
    go_wp2_with fail
    try simp only [Nat.add_assoc, Nat.reduceAdd]
    generalize hw3 : ((w.alloc _).alloc _).alloc _ = w3
    rw [hw3] at hr2 hr1 hbw hzw
    have HZ := Lib.hid hzw
    clear hzw b0 b1 b2 b3 b4 b5 hw3
    go_loopw [14] (fun i wr => ∃ (j c' : Nat) (A' : Option Addr) (L : List (GExp × List Value)), j ≤ n ∧ i = .int .i64 j ∧ Hid (L.map (·.1) = e.kids.take j) ∧ Hid (Rows (Enc.exp d) (w.heap.size + 3) 37 wr A' j c' L) ∧ wr.heap[w.heap.size + 2]? = some (.cells (expC e A' j c').toArray 37 (0, 0)) ∧ wr.heap[w.heap.size + 1]? = some (.cells zeC.toArray 37 (0, 0)) ∧ Below w.heap.size w wr ∧ w.heap.size + 3 ≤ wr.heap.size) (fun i _ => n - (intOf i).toNat)
    case atStart => exact ⟨0, 0, none, [], by omega, rfl, rfl, Rows.nil _ _ _, hr2, hr1, hbw, by have := HZ.out; omega⟩
    case round =>
      obtain ⟨j, c', A', L, hj, rfl, HL, HR, hg, hg1, hbr, hzr⟩ := hrel
      have i0 : (0 : Int) ≤ (j : Int) := by omega
      by_cases hlt : j < n
      · have i1 : (j : Int) < (n : Int) := by omega
        obtain ⟨b, o, k, Ak, nk, ck, d', rfl, hb, hk', hd, x0, x1, x2, x3, x4, x5, f0, f1, f2, hkk⟩ := (HK.out.below hbr).exp_at hlt
        have hkm := Lib.hid (List.mem_of_getElem? hk'.out)
        have HT : Hid (e.kids.take (j + 1) = e.kids.take j ++ [k]) := by show _ = _; rw [List.take_add_one, hk'.out]; rfl
        have hba : Below wr.heap.size wr (wr.alloc (.cells (expC k Ak nk ck).toArray 29)) := belowA (Below.refl _ _) _
        have HC := Lib.hid (fun (W : World) (h : Below (wr.alloc (.cells (expC k Ak nk ck).toArray 29)).heap.size (wr.alloc (.cells (expC k Ak nk ck).toArray 29)) W) => IH.out d' (by omega) k Ak nk ck W ((hkk.mono' (Nat.le_trans hbr.size hba.size) (Kept.of fun bb hbb => hba.block bb (by have := hbr.size; omega))).mono' h.size (Kept.of h.block)) (HSm.out.kids k hkm.out) f0 f1 f2)
        have hn1 : j + 1 ≤ 1500 := by have := HSm.out.len; have := Hlen.out; omega
        have hdd := Lib.hid hd
        have hx2 : (wr.alloc (.cells (expC k Ak nk ck).toArray 29)).heap[wr.heap.size]? = some (.cells (expC k Ak nk ck).toArray 29 (0, 0)) := heapNew rfl
        have hgA := heapOld (o := .cells (expC k Ak nk ck).toArray 29) hg
        have hg1A := heapOld (o := .cells (expC k Ak nk ck).toArray 29) hg1
        have HRA := Lib.hid (HR.out.out (Out.of_below hba []) (fun _ h _ => by cases h))
        have hbA := below_next hbr hba
        have HzA := Lib.hid hba.size
        have HoG : Hid (w.heap.size + 2 ∉ (Value.slice A' j c').ownBlock.toList) := fun hm => by
          have := (own_blk HR.out.own (b := w.heap.size + 2) (by simpa using hm)).1
          omega
        have HoX : Hid (wr.heap.size ∉ (Value.slice A' j c').ownBlock.toList) := fun hm => by
          have := (own_blk HR.out.own (b := wr.heap.size) (by simpa using hm)).2
          omega
        have HO : Hid ((wr.alloc (.cells (expC k Ak nk ck).toArray 29)).ownsRow (w.heap.size + 3) 37 6 (.slice A' j c') j (L.flatMap (·.2))) := by
          have := HRA.out.own
          rw [Enc.exp_sz] at this
          exact this
        clear hk' hd hba hkk HR hg hg1
        go_wp2_with fail
        try simp only [Nat.add_assoc, Nat.reduceAdd]
        refine push_region (n := 27) mixed rfl rfl (by kernel_rfl) (by kernel_rfl) (by kernel_rfl) (w.heap.size + 2) wr.heap.size 5 (w.heap.size + 3) 37 6 80 j (.agg zeC.toArray) A' c' (L.flatMap (·.2)) (expC k Ak nk ck) (expC e A' j c').toArray
          (fun vcs W => (Enc.exp d).ok (sans W (List.range (wr.heap.size + 1))) W.heap.size vcs k) (fun S vcs W => (Enc.exp d).ok (sans W (List.range (wr.heap.size + 1) ++ S)) W.heap.size vcs k) _
          rfl rfl hgA hx2 rfl (fun w => by simp [go_sem]) Tryz.underlying35 (by kernel_rfl) Tryz.underlying29 rfl (by kernel_rfl) (by kernel_rfl) rfl (by decide) (by decide) HO.out HoG.out HoX.out (by simp [maxLen]; omega) (by omega) (by simp; omega) _ Tryz.func9 (by kernel_rfl) (by kernel_rfl) ?_ ?_ ?_ ?_ ?_ ?_
        · intro vcs W W' h hb
          exact (Enc.exp d).mono hb.size ((Out.of_below hb []).kept (fun _ h _ => by cases h) (fun _ h _ => h)) h
        · intro S vcs W W' h hb
          exact (Enc.exp d).mono hb.size ((Out.of_below hb []).kept (fun _ h _ => by cases h) (fun _ h _ => h)) h
        · intro S vcs W W' h hz ho hS
          refine (Enc.exp d).mono ho.size (ho.kept (T := List.range (wr.heap.size + 1)) (fun b hb _ => ?_) (fun b hb hl => ?_)) h
          · have := (own_blk HO.out (b := b) (by simpa using hb)).2
            simp at this
            exact List.mem_range.2 this
          · rcases List.mem_append.1 hb with hb | hb
            · exact hb
            · rcases hS b hb with h1 | h1
              · have := (own_blk HO.out (b := b) (by simpa using h1)).2
                simp at this
                exact List.mem_range.2 this
              · omega
        · intro vcs W W' h hz ho
          refine (Enc.exp d).mono ho.size (ho.kept (T := List.range (wr.heap.size + 1)) (fun b hb _ => ?_) (fun b hb hl => hb)) h
          have := (own_blk HO.out (b := b) (by simpa using hb)).2
          simp at this
          exact List.mem_range.2 this
        · intro W hb
          refine (HC.out W hb).mono ?_
          rintro r w' ⟨A2, c2, rfl, hs, hb2⟩
          refine ⟨expC k A2 k.kids.length c2, rfl, rfl, by simp [Value.oneCell'], ?_, hb2⟩
          have hd2 := hdd.out
          subst hd2
          refine ⟨A2, k.kids.length, c2, rfl, f0, f1, f2, SliceIs.mono' hs (Nat.le_refl _) ((Out.refl [] w').kept (fun _ h _ => by cases h) (fun b hb' _ => List.mem_range.2 ?_))⟩
          have h1 := List.mem_range.1 hb'
          have h2 := hb.size
          simp at h2
          omega
        · intro u W vcs A2 c2 hl hfar hown hblk ho hgW
          have hsA : (wr.alloc (.cells (expC k Ak nk ck).toArray 29)).heap.size = wr.heap.size + 1 := by simp
          have hR2 := HRA.out.push (by rw [hsA]; omega) (by rw [Enc.exp_sz]; exact hown) hblk ho (by rw [hsA]; exact hfar)
          have HR2 := Lib.hid (hR2.out (set_out W (w.heap.size + 2) 5 (.slice A2 (j + 1) c2)) (fun b hb _ => by simp at hb; omega))
          have HL2 : Hid ((L ++ [(k, vcs)]).map (·.1) = e.kids.take (j + 1)) := by show _ = _; rw [HT.out, List.map_append, HL.out]; rfl
          have hG2 : (W.setCell ⟨w.heap.size + 2, 5, none⟩ (.slice A2 (j + 1) c2)).heap[w.heap.size + 2]? = some (.cells (expC e A2 (j + 1) c2).toArray 37 (0, 0)) := by
            simp [World.setCell, Array.getElem?_modify, hgW]
          have hG1 : (W.setCell ⟨w.heap.size + 2, 5, none⟩ (.slice A2 (j + 1) c2)).heap[w.heap.size + 1]? = some (.cells zeC.toArray 37 (0, 0)) :=
            (World.heap_setCells_other' (by omega)).trans ((ho.block _ (Array.getElem?_eq_some_iff.1 hg1A).1 (fun hm => by
              have := (own_blk HO.out (b := w.heap.size + 1) (by simpa using hm)).1
              omega)).trans hg1A)
          have hzz : wr.heap.size + 1 ≤ W.heap.size := by rw [← hsA]; exact ho.size
          have hB2 : Below w.heap.size w (W.setCell ⟨w.heap.size + 2, 5, none⟩ (.slice A2 (j + 1) c2)) :=
            (hbA.trans (ho.below (B := w.heap.size) (fun b hb => by
              have := (own_blk HO.out (b := b) (by simpa using hb)).1
              omega) (by rw [hsA]; omega))).setCell (by show w.heap.size ≤ w.heap.size + 2; omega) _
          have hzs : (W.setCell ⟨w.heap.size + 2, 5, none⟩ (.slice A2 (j + 1) c2)).heap.size = W.heap.size := World.size_setCell'
          have HZ2 := Lib.hid hzs
          clear hR2 hgW hfar hown hblk ho hsA hgA hg1A hx2 hzs
          simp only [List.foldl_cons, List.foldl_nil, Act.put, List.setIfInBounds_toArray, List.set_cons_zero, List.set_cons_succ]
          generalize W.setCell ⟨w.heap.size + 2, 5, none⟩ (.slice A2 (j + 1) c2) = W2 at *
          go_wp2_with fail
          go_roundw
          case rel => exact ⟨j + 1, c2, A2, _, by omega, by go_num, HL2, HR2, hG2, hG1, hB2, by rw [HZ2.out]; omega⟩
          case measure => simp [intOf]; omega
      · have i1 : ¬ (j : Int) < (n : Int) := by omega
        have hjn : j = n := by omega
        subst hjn
        have hll := Hlen.out
        obtain ⟨c0, c1, c2, c3, c4, c5⟩ := facts6 hg
        have hS := setRow_at (cs' := (expC e A' j c').toArray) hg1
        obtain ⟨s0, s1, s2, s3, s4, s5⟩ := facts6 hS
        have hbS : Below w.heap.size w (wr.setRow (w.heap.size + 1) (expC e A' j c').toArray) := ⟨hbr.os, hbr.tape, hbr.output, by rw [setRow_size]; exact hbr.size, fun x hx => (setRow_ne (by omega)).trans (hbr.block x hx)⟩
        have hoS : Out [w.heap.size + 1] wr (wr.setRow (w.heap.size + 1) (expC e A' j c').toArray) := ⟨rfl, rfl, rfl, by rw [setRow_size]; exact Nat.le_refl _, fun x _ hx => setRow_ne (by simpa using hx)⟩
        have hR3 := HR.out.out hoS (fun b hb _ => by simp at hb; omega)
        have hR2 := hR3.is (base := w.heap.size) (by simpa [reachN] using hn) (by omega)
        rw [HL.out, List.take_of_length_le (by omega)] at hR2
        have hpost : P (.returned (expV e A' j c')) (wr.setRow (w.heap.size + 1) (expC e A' j c').toArray) := by
          rw [HP.out]
          exact ⟨A', c', by rw [hll], by rw [hll]; exact hR2, hbS⟩
        have HPo := Lib.hid hpost
        clear hR2 hR3 HR HL hll hpost hoS hbS hS HP
        go_wp2_with (refine wpList_store_rowTo rfl 37 (.tmp 2) (.tmp 26) rfl rfl (w.heap.size + 1) (expC e A' j c').toArray rfl rfl 37 zeC.toArray hg1 (by kernel_rfl) rfl (by simp [Value.oneCell']) ?_)
        refine bodyPost_ret (v := expV e A' j c') ?_ rfl HPo.out
        simp [results, Tryz.results9, go_sem, s0, s1, s2, s3, s4, s5]
end Go.Proofs.YtiffmiabhapfnaaGreatDoor

/- corollaryref05.Terms: an expression's terms, behind others. -/
namespace Go.Proofs.YtiffmiabhapfnaaGreatDoor
open Go.RowKit

def RefTermsPost (L : List GTold) (base : Nat) (w : World) (r : Ending) (w' : World) : Prop :=
  ∃ A c, r = .returned (.slice A L.length c) ∧ w'.ownsRow base 34 4 (.slice A L.length c) L.length (L.flatMap GTold.cells) ∧ Below base w w' ∧ w.heap.size ≤ w'.heap.size ∧ KeepsT 34 w w'
set_option maxRecDepth 100000 in
set_option maxHeartbeats 4000000 in
theorem refTerms_any (base : Nat) : ∀ (d : Nat) (e : GExp) (A : Option Addr) (n c : Nat) (Al : Option Addr) (m cl : Nat) (L0 : List GTold) (w : World), SliceIs (Enc.exp d) w base A n c e.kids → base ≤ w.heap.size → L0.length = m → w.ownsRow base 34 4 (.slice Al m cl) m (L0.flatMap GTold.cells) →
    m + (leavesE e).length ≤ 100000 → Calls Tryz.prog 8 #[expV e A n c, .slice Al m cl] w (RefTermsPost (L0 ++ leavesE e) base w) := by
  intro d
  induction d using Nat.strongRecOn with
  | ind d ih =>
    intro e A n c Al m cl L0 w hk hbase hm hown hsz
    have IH := Lib.hid ih
    have hn := hk.bound
    have HK := Lib.hid hk
    have Hlen := Lib.hid hk.1
    have Hown := Lib.hid hown
    have Hm := Lib.hid hm
    obtain ⟨P, HP⟩ : ∃ P : Ending → World → Prop, Hid (P = RefTermsPost (L0 ++ leavesE e) base w) := ⟨_, rfl⟩
    rw [← HP.out]
    have hrb : (w.alloc (.cells #[.int .i64 e.op, .string e.t.x, .int .i64 e.t.v.k, .int .i64 e.t.v.n, .string e.t.v.s, .slice A n c] 37)).heap[w.heap.size]? = some (.cells #[.int .i64 e.op, .string e.t.x, .int .i64 e.t.v.k, .int .i64 e.t.v.n, .string e.t.v.s, .slice A n c] 37 (0, 0)) := heapNew rfl
    obtain ⟨b0, b1, b2, b3, b4, b5⟩ := facts6 hrb
    have hba : Below w.heap.size w (w.alloc (.cells #[.int .i64 e.op, .string e.t.x, .int .i64 e.t.v.k, .int .i64 e.t.v.n, .string e.t.v.s, .slice A n c] 37)) := belowA (Below.refl _ _) _
    have hza : (w.alloc (.cells #[.int .i64 e.op, .string e.t.x, .int .i64 e.t.v.k, .int .i64 e.t.v.n, .string e.t.v.s, .slice A n c] 37)).heap.size = w.heap.size + 1 := by simp
    have HownA := Lib.hid (own_below hown hba)
    have HbA : Hid (Below base w (w.alloc (.cells #[.int .i64 e.op, .string e.t.x, .int .i64 e.t.v.k, .int .i64 e.t.v.n, .string e.t.v.s, .slice A n c] 37))) := hba.mono hbase
    have HzA := Lib.hid hza
    have HkA : Hid (KeepsT 34 w (w.alloc (.cells #[.int .i64 e.op, .string e.t.x, .int .i64 e.t.v.k, .int .i64 e.t.v.n, .string e.t.v.s, .slice A n c] 37))) := KeepsT.of_below hba
    by_cases h0 : n = 0
    · subst h0
      have hL0 : leavesE e = [e.t] := leavesE_nil (List.eq_nil_of_length_eq_zero (by rw [Hlen.out]))
      rw [hL0] at hsz
      simp only [List.length_cons, List.length_nil] at hsz
      obtain ⟨A2, c2, w3, hrun, hown2, hb3, hk3⟩ := term5_push HownA.out e.t (by omega) (by omega)
      simp only [World.size_alloc] at hrun
      have HRun := Lib.hid hrun
      have hpost : P (.returned (.slice A2 (m + 1) c2)) w3 := by
        rw [HP.out, hL0]
        have hll : (L0 ++ [e.t]).length = m + 1 := by simp [hm]
        have h1 := hb3.size
        exact ⟨A2, c2, by rw [hll], by rw [hll]; exact hown2, HbA.out.trans hb3, by omega, (KeepsT.of_below hba).trans hk3⟩
      have HPo := Lib.hid hpost
      clear hrun hown2 hb3 hk3 hpost hk hown HownA ih hba hza hL0 HP hm
      go_enter Tryz.func8, Tryz.ntmps8
      go_wp2_with (at_builtin; refine wpList_append_run rfl _ _ _ rfl _ _ rfl rfl (HRun.out _) ?_)
      exact HPo.out
    · have hL1 : leavesE e = leavesL e.kids := leavesE_kids (by intro h; have := Hlen.out; rw [h] at this; simp at this; omega)
      have hq0 : ((n : Int) == 0) = false := by rw [beq_eq_false_iff_ne]; omega
      have HP2 : Hid (P = RefTermsPost (L0 ++ leavesL e.kids) base w) := by show _ = _; rw [HP.out, hL1]
      rw [hL1] at hsz
      have Hsz := Lib.hid hsz
      clear hk hown ih hba hza hL1 HP hm hsz hrb
      go_enter Tryz.func8, Tryz.ntmps8
      go_wp2_with fail
      have hgb : (w.alloc (.cells #[.int .i64 e.op, .string e.t.x, .int .i64 e.t.v.k, .int .i64 e.t.v.n, .string e.t.v.s, .slice A n c] 37)).heap[w.heap.size]? = some (.cells #[.int .i64 e.op, .string e.t.x, .int .i64 e.t.v.k, .int .i64 e.t.v.n, .string e.t.v.s, .slice A n c] 37 (0, 0)) := heapNew rfl
      go_loopw [1, 5] (fun v i wr => ∃ (k m' c' : Nat) (A' : Option Addr) (L : List GTold), k ≤ n ∧ i = .int .i64 k ∧ v = .slice A' m' c' ∧ Hid (L0 ++ leavesL (e.kids.take k) = L) ∧ Hid (L.length = m') ∧ Hid (wr.ownsRow base 34 4 (.slice A' m' c') m' (L.flatMap GTold.cells)) ∧ Hid (Below base w wr) ∧ w.heap.size + 1 ≤ wr.heap.size ∧
        Hid (KeepsT 34 w wr) ∧ Hid (wr.heap[w.heap.size]? = some (.cells (expC e A n c).toArray 37 (0, 0)))) (fun _ i _ => n - (intOf i).toNat)
      case atStart => exact ⟨0, m, cl, Al, L0, by omega, rfl, rfl, by show _ = _; simp [leavesL], Hm.out, HownA, HbA, by rw [HzA.out]; exact Nat.le_refl _, HkA, hgb⟩
      case round =>
        obtain ⟨k, m', c', A', L, hk, rfl, rfl, hL, HLm, HO, HB, hzr, HK2, Hbox⟩ := hrel
        have i0 : (0 : Int) ≤ (k : Int) := by omega
        have y5 : wr.cell? ⟨w.heap.size, 5, none⟩ = some (.slice A n c) := (cell_of_row _ _ 5 _ _ _ Hbox.out).trans rfl
        by_cases hlt : k < n
        · have i1 : (k : Int) < (n : Int) := by omega
          obtain ⟨b, o, q, A2, n2, c2, d', rfl, hb, hk', hd, x0, x1, x2, x3, x4, x5, -, f1, f2, hkk⟩ := (HK.out.mono' (w' := wr) (Nat.le_refl _) (Kept.of HB.out.block)).exp_at hlt
          have HT := Lib.hid (leavesL_take hk'.out)
          have hlen : m' + (leavesE q).length ≤ 100000 := by
            have h1 := Hsz.out
            have h2 := HLm.out
            have h3 := Hm.out
            rw [← hL.out, List.length_append] at h2
            have h4 := congrArg List.length (leavesL_full e.kids (k + 1))
            rw [HT.out] at h4
            simp only [List.length_append] at h4
            omega
          have HC := Lib.hid (IH.out d' (by omega) q A2 n2 c2 A' m' c' L wr hkk (by omega) HLm.out HO.out hlen)
          clear hk' hd hkk hlen
          go_wp2_with fail
          refine HC.out.mono ?_
          rintro r w2 ⟨A3, c3, rfl, ho3, hb3, hz3, hk3⟩
          have HL2 : Hid (L0 ++ leavesL (e.kids.take (k + 1)) = L ++ leavesE q) := by show _ = _; rw [HT.out, ← List.append_assoc, hL.out]
          have HB2 : Hid (Below base w w2) := HB.out.trans hb3
          obtain ⟨m3, Hm3⟩ : ∃ m3, Hid ((L ++ leavesE q).length = m3) := ⟨_, rfl⟩
          rw [Hm3.out] at ho3
          rw [Hm3.out]
          have HO3 := Lib.hid ho3
          have Hbox2 : Hid (w2.heap[w.heap.size]? = some (.cells (expC e (some ⟨b, o, none⟩) n c).toArray 37 (0, 0))) := hk3 _ _ _ _ Hbox.out (by decide)
          have HK3 : Hid (KeepsT 34 w w2) := HK2.out.trans hk3
          clear ho3 hb3 hk3 HC HT
          go_wp2_with fail
          go_roundw
          case rel => exact ⟨k + 1, m3, c3, A3, _, by omega, by go_num, rfl, HL2, Hm3, HO3, HB2, by omega, HK3, Hbox2⟩
          case measure => simp [intOf]; omega
        · have i1 : ¬ (k : Int) < (n : Int) := by omega
          have hPP : Hid (P (.returned (.slice A' m' c')) wr) := by
            show P _ _
            have e1 : L0 ++ leavesL e.kids = L := by rw [← hL.out, List.take_of_length_le (by have := Hlen.out; omega)]
            rw [HP2.out, e1]
            exact ⟨A', c', by rw [HLm.out], by rw [HLm.out]; exact HO.out, HB.out, by omega, HK2.out⟩
          clear HP2
          go_wp2_with fail
          exact hPP.out
end Go.Proofs.YtiffmiabhapfnaaGreatDoor

/- term.terms, term.Terms: the iterator over an expression's terms. -/
namespace Go.Proofs.YtiffmiabhapfnaaGreatDoor
open Go.RowKit Go.Shelf
attribute [local go_sem] Oper.semAt_some

def encT (t : GTold) : Array Value := #[.agg #[.string t.x, .int .i64 t.v.k, .int .i64 t.v.n, .string t.v.s]]
def RT (L : List GTold) (pre : List GTold) (x : GTold) (_base : Nat) (_W : World) : Prop := (pre ++ [x]) <+: L
/-- what the walk through an expression ends with -/
def TermsPost (b0 N : Nat) (H : World) (J Jx : Nat → List GTold → World → Prop) (L end_ : List GTold) (r : Ending) (W' : World) : Prop :=
  (r = .returned (.bool true) ∧ J N end_ W' ∧ (∀ b, b < b0 → W'.heap[b]? = H.heap[b]?) ∧ N ≤ W'.heap.size) ∨ (∃ p, r = .returned (.bool false) ∧ Hid (p <+: L) ∧ Jx N p W')

set_option maxRecDepth 100000 in
set_option maxHeartbeats 4000000 in
theorem terms_go (w : World) (l N : Nat) (S : List Nat) (L : List GTold) (J Jx : Nat → List GTold → World → Prop) (hl : w.heap.size ≤ l) (hN : w.heap.size ≤ N) (hS : ∀ b ∈ S, w.heap.size ≤ b)
    (hJ : ∀ pre W1 W2, J N pre W1 → Below W1.heap.size W1 W2 → J N pre W2)
    (hY : ∀ m pre x W0 W1, J N pre W0 → Below W0.heap.size W0 W1 → (pre ++ [x]) <+: L → YieldAt Fence.wide m Tryz.prog l (encT x) W1 fun e W' =>
      (e = .returned (.bool true) ∧ J N (pre ++ [x]) W' ∧ W1.heap.size ≤ W'.heap.size ∧ (∀ b, b < N → b ∉ S → b ≠ l → W'.heap[b]? = W1.heap[b]?) ∧ ∀ b, W0.heap.size ≤ b → b < W1.heap.size → W'.heap[b]? = W1.heap[b]?) ∨ (e = .returned (.bool false) ∧ Jx N (pre ++ [x]) W')) :
    ∀ (d : Nat) (e : GExp) (A : Option Addr) (n c : Nat) (W : World) (pre : List GTold), SliceIs (Enc.exp d) w w.heap.size A n c e.kids → (∀ b, b < w.heap.size → W.heap[b]? = w.heap[b]?) → N ≤ W.heap.size → J N pre W → (pre ++ leavesE e) <+: L →
    Calls Tryz.prog 26 #[expV e A n c, .func (.yield l) #[] #[]] W (TermsPost w.heap.size N w J Jx L (pre ++ leavesE e)) := by
  intro d
  induction d using Nat.strongRecOn with
  | ind d ih =>
    intro e A n c W pre hk hW hNW hj hpre
    have IH := Lib.hid ih
    have HJ := Lib.hid hJ
    have HY := Lib.hid hY
    have hn := hk.bound
    have HK := Lib.hid hk
    have Hlen := Lib.hid hk.1
    obtain ⟨P, HP⟩ : ∃ P : Ending → World → Prop, Hid (P = TermsPost w.heap.size N w J Jx L (pre ++ leavesE e)) := ⟨_, rfl⟩
    rw [← HP.out]
    have hrb : (W.alloc (.cells #[.int .i64 e.op, .string e.t.x, .int .i64 e.t.v.k, .int .i64 e.t.v.n, .string e.t.v.s, .slice A n c] 29)).heap[W.heap.size]? = some (.cells #[.int .i64 e.op, .string e.t.x, .int .i64 e.t.v.k, .int .i64 e.t.v.n, .string e.t.v.s, .slice A n c] 29 (0, 0)) := heapNew rfl
    obtain ⟨b0, b1, b2, b3, b4, b5⟩ := facts6 hrb
    have hbA : Below W.heap.size W (W.alloc (.cells #[.int .i64 e.op, .string e.t.x, .int .i64 e.t.v.k, .int .i64 e.t.v.n, .string e.t.v.s, .slice A n c] 29)) := belowA (Below.refl _ _) _
    have hszA : (W.alloc (.cells #[.int .i64 e.op, .string e.t.x, .int .i64 e.t.v.k, .int .i64 e.t.v.n, .string e.t.v.s, .slice A n c] 29)).heap.size = W.heap.size + 1 := by simp
    have HJ0 : Hid (J N pre (W.alloc (.cells #[.int .i64 e.op, .string e.t.x, .int .i64 e.t.v.k, .int .i64 e.t.v.n, .string e.t.v.s, .slice A n c] 29))) := hJ _ _ _ hj hbA
    have HW0 : Hid (∀ b, b < w.heap.size → (W.alloc (.cells #[.int .i64 e.op, .string e.t.x, .int .i64 e.t.v.k, .int .i64 e.t.v.n, .string e.t.v.s, .slice A n c] 29)).heap[b]? = w.heap[b]?) := fun b hb => (hbA.block b (by omega)).trans (hW b hb)
    have Hold : Hid (∀ V V2 : World, (∀ b, b < w.heap.size → V.heap[b]? = w.heap[b]?) → Below V.heap.size V V2 → N ≤ V.heap.size → ∀ b, b < w.heap.size → V2.heap[b]? = w.heap[b]?) := fun V V2 h1 h2 h3 b hb => (h2.block b (by omega)).trans (h1 b hb)
    have Hpre := Lib.hid hpre
    clear ih hJ hY hk hj hW hpre hbA
    refine (callsIn_wide (n := 0)).1 ?_
    refine callsIn_of_wp Tryz.func26 rfl trivial ?_ rfl
    simp only [Tryz.ntmps26, List.size_toArray, List.length_cons, List.length_nil, Nat.reduceAdd, Nat.reduceSub, Array.replicate_succ, Array.replicate_zero, List.push_toArray, List.append_toArray, List.nil_append, List.cons_append]
    by_cases h0 : n = 0
    · subst h0
      have hL0 : leavesE e = [e.t] := leavesE_nil (List.eq_nil_of_length_eq_zero (by rw [Hlen.out]))
      have HYs := Lib.hid (fun m => HY.out m pre e.t _ _ HJ0.out (Below.refl _ _) (by rw [← hL0]; exact Hpre.out))
      obtain ⟨fn, tmps, assign, body, hy, hR⟩ := HYs.out 0
      have HRR := Lib.hid hR
      simp only [encT] at hy
      have HE : Hid (∀ W', J N (pre ++ [e.t]) W' → (∀ b, b < w.heap.size → W'.heap[b]? = w.heap[b]?) → N ≤ W'.heap.size → P (.returned (.bool true)) W') := fun W' h1 h2 h3 => by rw [HP.out, hL0]; exact .inl ⟨rfl, h1, h2, h3⟩
      have HE2 : Hid (∀ W', Jx N (pre ++ [e.t]) W' → P (.returned (.bool false)) W') := fun W' h1 => by rw [HP.out]; exact .inr ⟨_, rfl, by rw [← hL0]; exact Hpre.out, h1⟩
      clear hR HYs hL0
      gi_wp2_with fail
      refine ⟨rfl, HRR.out.mono ?_⟩
      rintro r W2 (⟨rfl, hj2, hz2, hbl, hfr⟩ | ⟨rfl, hj2⟩)
      · have hPP := Lib.hid (HE.out W2 hj2 (fun b hb => (hbl b (by omega) (fun hbS => by have := hS b hbS; omega) (by omega)).trans (HW0.out b hb)) (by omega))
        clear hj2 hbl hfr hy
        gi_wp2_with fail
        exact hPP.out
      · have hPP := Lib.hid (HE2.out W2 hj2)
        clear hj2 hy
        gi_wp2_with fail
        exact hPP.out
    · have hL1 : leavesE e = leavesL e.kids := leavesE_kids (by intro h; have := Hlen.out; rw [h] at this; simp at this; omega)
      have hn0 : ¬ (n : Int) = 0 := by omega
      have hq0 : ((n : Int) == 0) = false := by simpa using hn0
      have HE : Hid (∀ W', J N (pre ++ leavesL e.kids) W' → (∀ b, b < w.heap.size → W'.heap[b]? = w.heap[b]?) → N ≤ W'.heap.size → P (.returned (.bool true)) W') := fun W' h1 h2 h3 => by rw [HP.out, hL1]; exact .inl ⟨rfl, h1, h2, h3⟩
      have HE2 : Hid (∀ W' p, Jx N p W' → p <+: L → P (.returned (.bool false)) W') := fun W' p h1 h2 => by rw [HP.out]; exact .inr ⟨p, rfl, h2, h1⟩
      have HpL : Hid ((pre ++ leavesL e.kids) <+: L) := by show _ <+: _; rw [← hL1]; exact Hpre.out
      clear HP Hpre hL1
      gi_wp2_with fail
      gi_loopw [4, 6, 18] (fun _ _ i wr => ∃ (j : Nat), j ≤ n ∧ i = .int .i64 j ∧ Hid (J N (pre ++ leavesL (e.kids.take j)) wr) ∧ Hid (∀ b, b < w.heap.size → wr.heap[b]? = w.heap[b]?) ∧ N ≤ wr.heap.size) (fun _ _ i _ => n - (intOf i).toNat)
      case atStart => exact ⟨0, by omega, rfl, by show J _ _ _; simpa [leavesL] using HJ0.out, HW0.out, by omega⟩
      case round =>
        obtain ⟨j, hj, rfl, HJj, HWj, hNj⟩ := hrel
        have i0 : (0 : Int) ≤ (j : Int) := by omega
        by_cases hlt : j < n
        · have i1 : (j : Int) < (n : Int) := by omega
          obtain ⟨b, o, k, A', n', c', d', rfl, hb, hk', hd, x0, x1, x2, x3, x4, x5, -, f1, f2, hkk⟩ := (HK.out.mono' (w' := wr) (B' := w.heap.size) (Nat.le_refl _) (Kept.of (fun b hb => HWj.out b hb))).exp_at hlt
          have HT := Lib.hid (leavesL_take hk'.out)
          have hkw : SliceIs (Enc.exp d') w w.heap.size A' n' c' k.kids := hkk.mono' (Nat.le_refl _) (Kept.of (fun b hb => (HWj.out b hb).symm))
          have hbB : Below wr.heap.size wr (wr.alloc (.cells #[.int .i64 k.op, .string k.t.x, .int .i64 k.t.v.k, .int .i64 k.t.v.n, .string k.t.v.s, .slice A' n' c'] 29)) := belowA (Below.refl _ _) _
          have HC := Lib.hid (IH.out d' (by omega) k A' n' c' (wr.alloc (.cells #[.int .i64 k.op, .string k.t.x, .int .i64 k.t.v.k, .int .i64 k.t.v.n, .string k.t.v.s, .slice A' n' c'] 29)) (pre ++ leavesL (e.kids.take j)) hkw (Hold.out _ _ HWj.out hbB hNj) (by simp; omega) (HJ.out _ _ _ HJj.out hbB)
            (by rw [List.append_assoc, ← HT.out]; refine List.IsPrefix.trans ?_ HpL.out; rw [leavesL_full e.kids (j + 1), ← List.append_assoc]; exact List.prefix_append _ _))
          rw [List.append_assoc, ← HT.out] at HC
          clear HT hk' hd hkw hbB hkk HJj
          gi_wp2_with fail
          refine ⟨trivial, rfl, (callsIn_wide.2 HC.out).mono ?_⟩
          rintro r w2 (⟨rfl, hj2, hW2, hN2⟩ | ⟨p, rfl, hp, hx⟩)
          · have HJ2 := Lib.hid hj2
            have HW2 := Lib.hid hW2
            clear hj2 hW2
            gi_wp2_with fail
            go_roundw
            case rel =>
              exact ⟨j + 1, by omega, by go_num, HJ2, HW2, hN2⟩
            case measure => simp [intOf]; omega
          · have hPP := Lib.hid (HE2.out w2 p hx hp.out)
            clear hx hp
            gi_wp2_with fail
            exact hPP.out
        · have i1 : ¬ (j : Int) < (n : Int) := by omega
          have hPP := Lib.hid (HE.out wr (by have := HJj.out; rw [List.take_of_length_le (by rw [Hlen.out]; omega)] at this; exact this) HWj.out hNj)
          clear HJj
          gi_wp2_with fail
          exact hPP.out

set_option maxRecDepth 100000 in
set_option maxHeartbeats 2000000 in
theorem terms_seq {w : World} {d : Nat} {e : GExp} {A : Option Addr} {n c g : Nat}
    (hg : w.heap[g]? = some (.cells #[.int .i64 e.op, .string e.t.x, .int .i64 e.t.v.k, .int .i64 e.t.v.n, .string e.t.v.s, .slice A n c] 29 (0, 0))) (S : List Nat) (w0 : World) (h0 : w0.heap.size ≤ g) (hw0 : Below w0.heap.size w0 w) (hkk : SliceIs (Enc.exp d) w0 w0.heap.size A n c e.kids) (hS : ∀ b ∈ S, w0.heap.size ≤ b) :
    SeqR2 Tryz.prog 25 #[.pointer (some ⟨g, 0, none⟩)] encT (RT (leavesE e)) S (fun xs => Hid (xs = leavesE e)) (fun pre => Hid (pre <+: leavesE e)) w := by
  intro l J Jx W hbW hl hlW hJ h0' hY
  have hgl : g < w.heap.size := (Array.getElem?_eq_some_iff.1 hg).1
  have hgW := (hbW.block g hgl).trans hg
  have hzW := hbW.size
  have hz0 := hw0.size
  have HG := Lib.hid (terms_go w0 l W.heap.size S (leavesE e) J Jx (by omega) (by omega) hS (fun pre W1 W2 => hJ _ pre W1 W2) (fun m pre x W0 W1 h1 h2 h3 => hY m _ pre x W0 W1 h1 h2 h3) d e A n c W [] hkk (fun b hb => (hbW.block b (by omega)).trans (hw0.block b hb)) (Nat.le_refl _) (h0' _ _ (Below.refl _ _) (Nat.le_refl _) (Nat.le_refl _)) (by simp))
  obtain ⟨b0, b1, b2, b3, b4, b5⟩ := facts6 hgW
  clear hJ h0' hY hg hgW hbW
  go_enter Tryz.func25, Tryz.ntmps25
  go_wp2_with fail
  refine HG.out.mono ?_
  rintro r W2 (⟨rfl, hj, -, -⟩ | ⟨p, rfl, hp, hj⟩)
  · have HJ2 := Lib.hid hj
    clear hj
    go_wp2_with fail
    refine ⟨rfl, _, results_none (fn := Tryz.f25) rfl _ _ _, ?_⟩
    exact ⟨⟨_, rfl⟩, .inl ⟨_, _, rfl, HJ2.out⟩⟩
  · have HJ2 := Lib.hid hj
    clear hj
    go_wp2_with fail
    refine ⟨rfl, _, results_none (fn := Tryz.f25) rfl _ _ _, ?_⟩
    exact ⟨⟨_, rfl⟩, .inr ⟨_, p, hp, HJ2.out⟩⟩

def SeqPost (w : World) (e : GExp) (A : Option Addr) (n c : Nat) (r : Ending) (w' : World) : Prop :=
  r = .returned (.func (.func 25) #[] #[.pointer (some ⟨w.heap.size, 0, none⟩)]) ∧ w' = w.alloc (.cells #[.int .i64 e.op, .string e.t.x, .int .i64 e.t.v.k, .int .i64 e.t.v.n, .string e.t.v.s, .slice A n c] 29)
set_option maxRecDepth 100000 in
set_option maxHeartbeats 400000 in
theorem termsF_any (w : World) (e : GExp) (A : Option Addr) (n c : Nat) : Calls Tryz.prog 10 #[expV e A n c] w (SeqPost w e A n c) := by
  go_enter Tryz.func10, Tryz.ntmps10
  go_wp2
  go_ret
  exact ⟨rfl, rfl⟩
end Go.Proofs.YtiffmiabhapfnaaGreatDoor

/- slices.AppendSeq and slices.Collect at terms, over an expression's terms. -/
namespace Go.Proofs.YtiffmiabhapfnaaGreatDoor
open Go.RowKit Go.Shelf
attribute [local go_sem] Oper.semAt_some

theorem wpListIn_app {F : Fence} {n : Nat} {P : Program} {w w' : World} {ops : Array Oper} {rest : List Oper} {o : Oper} {a : Act} {Q : Exit → Act → World → Prop} {v' : Value} (hg : o.guard = none) (s x : Operand) (t : TypeId)
    (hop : o.op = .call { callee := .builtin .append, args := #[s, x], argTypes := #[t, t] }) (v xv : Value) (hs : a.eval s = v) (hx : a.eval x = xv)
    (hrun : (Builtin.append_ #[t, t] o.type #[v, xv]).run P w = .ok v' w') (h : wpListIn F n P ops Q rest (a.put o.dst v') w') : wpListIn F n P ops Q (o :: rest) a w := by
  refine wpListIn_plain hg fun K hK' => ?_
  unfold Oper.wpIn
  refine ⟨?_, ?_⟩
  · simp [Oper.about, hop, resolve, Target.leads, Sem.run_pure]
  · rw [Oper.semAt_plain F _ _ (by rw [hop]; intro c hc'; cases hc')]
    simp [execOp, hop, resolve, invoke, builtin, hs, hx, hrun, Result.andThen]
    exact hK' _ _ h
theorem encT_eq (t : GTold) : encT t = #[.agg #[.string t.x, .int .i64 t.v.k, .int .i64 t.v.n, .string t.v.s]] := rfl
theorem term_info : (Tryz.prog.info? 26).map (fun i => (i.zero, i.size, i.bytes)) = some (some (.agg #[.string ⟨#[]⟩, .int .i64 0, .int .i64 0, .string ⟨#[]⟩]), 4, 48) := by kernel_rfl
theorem term_push {W : World} {base : Nat} {A : Option Addr} {c k : Nat} {xs : List GTold} (hown : W.ownsRow base 26 4 (.slice A k c) k (xs.flatMap GTold.cells)) (q : GTold) (hn : k + 1 ≤ 1000000) (hb : base ≤ W.heap.size) :
    ∃ A' c' w', (∀ ty, (Builtin.append_ #[51, 51] ty #[.slice A k c, .slice (some ⟨W.heap.size, 0, none⟩) 1 1]).run Tryz.prog (W.alloc (.cells #[.string q.x, .int .i64 q.v.k, .int .i64 q.v.n, .string q.v.s] 26)) = .ok (.slice A' (k + 1) c') w') ∧
      w'.ownsRow base 26 4 (.slice A' (k + 1) c') (k + 1) ((xs ++ [q]).flatMap GTold.cells) ∧ Out (Value.slice A k c).ownBlock.toList W w' ∧ Below base W w' := by
  have ho : (W.alloc (.cells #[.string q.x, .int .i64 q.v.k, .int .i64 q.v.n, .string q.v.s] 26)).ownsRow base 26 4 (.slice A k c) k (xs.flatMap GTold.cells) := own_below hown (belowA (Below.refl _ _) _)
  obtain ⟨v', w', h1, h2, h3, h4⟩ := run_push_at (P := Tryz.prog) (ty := 51) (W.alloc (.cells #[.string q.x, .int .i64 q.v.k, .int .i64 q.v.n, .string q.v.s] 26)) (base := base) Tryz.underlying51 term_info rfl (by decide) ho W.heap.size (GTold.cells q) rfl (heapNew rfl) (by intro u hu; simp [GTold.cells] at hu; rcases hu with rfl | rfl | rfl | rfl <;> rfl)
    (by simp [maxLen]; omega) (by omega) (by simp; omega)
  obtain ⟨A', c', rfl⟩ := own_form h2
  refine ⟨A', c', w', fun _ => h1, ?_, ?_, ?_⟩
  · rw [List.flatMap_append]; simpa using h2
  · have h5 := (Out.of_below (belowA (Below.refl W.heap.size W) (.cells #[.string q.x, .int .i64 q.v.k, .int .i64 q.v.n, .string q.v.s] 26)) (Value.slice A k c).ownBlock.toList)
    exact h5.trans (grown_out h3) (fun b hb _ => hb)
  · exact ((Below.refl base W).alloc hb _).trans h4
def CollPost (L : List GTold) (w : World) (r : Ending) (w' : World) : Prop :=
  ∃ A c, r = .returned (.slice A L.length c) ∧ w'.ownsRow w.heap.size 26 4 (.slice A L.length c) L.length (L.flatMap GTold.cells) ∧ Below w.heap.size w w'

set_option maxRecDepth 100000 in
set_option maxHeartbeats 4000000 in
theorem appendSeq_any {w : World} {d : Nat} {e : GExp} {A : Option Addr} {n c g : Nat}
    (hg : w.heap[g]? = some (.cells #[.int .i64 e.op, .string e.t.x, .int .i64 e.t.v.k, .int .i64 e.t.v.n, .string e.t.v.s, .slice A n c] 29 (0, 0))) (w0 : World) (h0 : w0.heap.size ≤ g) (hw0 : Below w0.heap.size w0 w) (hkk : SliceIs (Enc.exp d) w0 w0.heap.size A n c e.kids) (hlen : (leavesE e).length ≤ 1500) :
    Calls Tryz.prog 90 #[.slice none 0 0, .func (.func 25) #[] #[.pointer (some ⟨g, 0, none⟩)]] w (CollPost (leavesE e) w) := by
  have HQ := Lib.hid (terms_seq hg [w.heap.size] w0 h0 hw0 hkk (fun b hb => by have := hw0.size; simp at hb; omega))
  obtain ⟨L, hL⟩ : ∃ L, L = leavesE e := ⟨_, rfl⟩
  rw [← hL] at HQ hlen ⊢
  obtain ⟨P, HP⟩ : ∃ P : Ending → World → Prop, Hid (P = CollPost L w) := ⟨_, rfl⟩
  rw [← HP.out]
  clear hg h0 hw0 hkk hL
  refine (callsIn_wide (n := 8)).1 ?_
  refine callsIn_of_wp_marks Tryz.func90 rfl trivial ?_ rfl
  simp only [Tryz.ntmps90, List.size_toArray, List.length_cons, List.length_nil, Nat.reduceAdd, Nat.reduceSub, Array.replicate_succ, Array.replicate_zero, List.push_toArray, List.append_toArray, List.nil_append, List.cons_append]
  refine wpIn_wide.2 ?_
  go_wp2_with fail
  have hr0 : (w.alloc (.cells #[.slice none 0 0] 51)).heap[w.heap.size]? = some (.cells #[.slice none 0 0] 51 (0, 0)) := heapNew rfl
  have hbw : Below w.heap.size w (w.alloc (.cells #[.slice none 0 0] 51)) := belowA (Below.refl _ _) _
  have hz1 : (w.alloc (.cells #[.slice none 0 0] 51)).heap.size = w.heap.size + 1 := by simp
  generalize w.alloc (.cells #[.slice none 0 0] 51) = w1 at *
  refine (wpIn_wide (n := 8)).1 (range_law2 (hg := rfl) (eg := enters_of Tryz.func25 (by kernel_rfl) rfl) (hseq := HQ.out) (hb0 := hbw) ?hS (hps := fun _ => rfl)
    (I := fun N pre W => (∃ A c, W.heap[w.heap.size]? = some (.cells #[.slice A pre.length c] 51 (0, 0)) ∧ Hid (W.ownsRow N 26 4 (.slice A pre.length c) pre.length (pre.flatMap GTold.cells))) ∧ Below w.heap.size w W ∧ w1.heap.size ≤ N)
    (Ix := fun _ _ _ _ => False)
    ?hI ?hIx ?h0 ?round ?done ?stop)
  case hS => intro b hb; simp at hb; omega
  case hI =>
    rintro N pre W W' ⟨⟨A, c, h5, h6⟩, h7, h8⟩ hs'
    exact ⟨⟨A, c, hs'.row h5, hs'.own h6.out⟩, h7.trans (hs'.below (by omega) h7.size), h8⟩
  case hIx => exact fun _ _ _ _ _ h _ => h
  case h0 =>
    intro N W hs' hN0 _
    exact ⟨⟨none, 0, hs'.row hr0, World.ownsRow_nil _ _ _ _⟩, hbw.trans (hs'.below (by omega) hbw.size), by omega⟩
  case round =>
    rintro k N pre x W0 W1 K ⟨⟨A, c, h5, h6⟩, h7, h8⟩ hs' hN hN2 hW01 hx hK
    have HK := Lib.hid hK
    have H6 := Lib.hid h6.out
    have hps : pre.length + 1 ≤ 1500 := by
      have h9 := List.IsPrefix.length_le hx
      simp only [List.length_append, List.length_cons, List.length_nil] at h9; omega
    clear hK hx h6
    have hb1 : Below w.heap.size w W1 := h7.trans (hs'.below (by omega) h7.size)
    have t3 := hs'.row h5
    have hw00 := (Array.getElem?_eq_some_iff.1 h5).1
    have Hpl : Hid ((pre ++ [x]).length = pre.length + 1) := by show _ = _; simp
    clear h5 HQ hr0
    rw [encT_eq]
    gi_wp2
    refine HK.out _ _ (belowA (Below.refl _ _) _) (fun W2 hs2 hz2 => ?_)
    clear HK
    have v3 := hs2.row (heapOld (o := .cells #[.string x.x, .int .i64 x.v.k, .int .i64 x.v.n, .string x.v.s] 26) t3)
    have vb := hs2.row (heapNew (w := W1) (o := .cells #[.string x.x, .int .i64 x.v.k, .int .i64 x.v.n, .string x.v.s] 26) (g := W1.heap.size) rfl)
    have hb2 : Below w.heap.size w W2 := (belowA hb1 (.cells #[.string x.x, .int .i64 x.v.k, .int .i64 x.v.n, .string x.v.s] 26)).trans (hs2.below (by omega) (belowA hb1 _).size)
    obtain ⟨x0, x1, x2, x4⟩ := facts4 vb
    have c3 : W2.cell? ⟨w.heap.size, 0, none⟩ = some (.slice A pre.length c) := (cell_of_row _ _ 0 _ _ _ v3).trans rfl
    have hzW : W1.heap.size < W2.heap.size := by rw [hz2]; simp
    have H62 := Lib.hid (hs2.own (own_below (hs'.own H6.out) (belowA (Below.refl _ _) (.cells #[.string x.x, .int .i64 x.v.k, .int .i64 x.v.n, .string x.v.s] 26))))
    have HBl : Hid (∀ b, (Value.slice A pre.length c).ownBlock = some b → N ≤ b ∧ b < W0.heap.size) := fun b hb => own_blk H6.out hb
    obtain ⟨A9, c9, w9, q1, q2, q3, q4⟩ := term_push H62.out x (by omega) (by omega)
    have r3 := (q4.block _ (by omega)).trans v3
    have y3 : w9.cell? ⟨w.heap.size, 0, none⟩ = some (.slice A pre.length c) := (cell_of_row _ _ 0 _ _ _ r3).trans rfl
    have f3 : w9.frozen? ⟨w.heap.size, 0, none⟩ = false := frozen_of_row _ _ _ _ _ r3
    have HRun := Lib.hid q1
    have Q2 := Lib.hid q2
    have HR3 := Lib.hid r3
    have hb9 : Below w.heap.size w w9 := hb2.trans (q4.mono (by omega))
    have HT : Hid (Turn2 [w.heap.size] N W0.heap.size W2 (w9.setCell ⟨w.heap.size, 0, none⟩ (.slice A9 (pre.length + 1) c9))) :=
      Turn2.of_out (T := w.heap.size :: (Value.slice A pre.length c).ownBlock.toList) ((q3.mono (fun b hb _ => List.mem_cons_of_mem _ hb)).trans (set_out w9 _ 0 _) (fun b hb _ => by simp at hb; simp [hb])) (by omega) (fun b hb _ => by
        rcases List.mem_cons.1 hb with hb | hb
        · exact ⟨.inl (by simp [hb]), by omega⟩
        · have := HBl.out b (by simpa using hb)
          exact ⟨.inr this.1, this.2⟩)
    clear t3 v3 q1 q2 q3 r3 H62 H6
    have HZ2 := Lib.hid hz2
    clear hz2
    gi_wp2_with (gi_at_builtin; refine wpListIn_app (o := ⟨some 11, _, _, _, _, _⟩) rfl _ _ _ rfl _ _ rfl rfl (HRun.out _) ?_)
    refine ⟨HT.out, ⟨A9, c9, ?_, ?_⟩, hb9.setCell (Nat.le_refl _) _, h8⟩
    · rw [Hpl.out]; exact set_zero HR3.out
    · show World.ownsRow _ _ _ _ _ _ _
      rw [Hpl.out]
      exact own_out' Q2.out (set_out w9 _ 0 _) (fun b hb hb' => by have := (own_blk Q2.out hb).1; simp at hb'; omega)
  case done =>
    rintro N xs W hxs ⟨⟨A, c, h5, h6⟩, h7, h8⟩ hD
    obtain rfl : xs = L := hxs.out
    have c3 : W.cell? ⟨w.heap.size, 0, none⟩ = some (.slice A xs.length c) := (cell_of_row _ _ 0 _ _ _ h5).trans rfl
    have HDl := (Array.getElem?_eq_some_iff.1 hD).1
    have HHD := Lib.hid hD
    have H6 := Lib.hid h6.out
    clear hxs HQ hr0 h5 h6 hD
    go_wp2_with fail
    refine ⟨by simp, .inl ⟨_, _, rfl, run_takeDeferred HHD.out, ?_⟩⟩
    have hsf : Soft w1.heap.size W (W.putObj w1.heap.size (.deferred none)) := Soft.putObj _ (Nat.le_refl _) HHD.out rfl
    have hpost : P (.returned (.slice A xs.length c)) (W.putObj w1.heap.size (.deferred none)) := by
      rw [HP.out]
      refine ⟨A, c, rfl, ?_, h7.trans (hsf.below (by omega) h7.size)⟩
      have ho := hsf.own H6.out
      refine ⟨ho.1, ?_⟩
      rcases ho.2 with hn | ⟨g, cap, cur, hv, hbg, rest⟩
      · exact .inl hn
      · exact .inr ⟨g, cap, cur, hv, by omega, rest⟩
    exact ⟨.slice A xs.length c, by simp [results, Tryz.results90, go_sem], hpost⟩
  case stop => exact fun _ _ _ _ _ h _ => h.elim

set_option maxRecDepth 100000 in
set_option maxHeartbeats 1000000 in
theorem collect_any {w : World} {d : Nat} {e : GExp} {A : Option Addr} {n c g : Nat}
    (hg : w.heap[g]? = some (.cells #[.int .i64 e.op, .string e.t.x, .int .i64 e.t.v.k, .int .i64 e.t.v.n, .string e.t.v.s, .slice A n c] 29 (0, 0))) (w0 : World) (h0 : w0.heap.size ≤ g) (hw0 : Below w0.heap.size w0 w) (hkk : SliceIs (Enc.exp d) w0 w0.heap.size A n c e.kids) (hlen : (leavesE e).length ≤ 1500) :
    Calls Tryz.prog 64 #[.func (.func 25) #[] #[.pointer (some ⟨g, 0, none⟩)]] w (CollPost (leavesE e) w) := by
  have H := Lib.hid (appendSeq_any hg w0 h0 hw0 hkk hlen)
  obtain ⟨L, HL⟩ : ∃ L, Hid (L = leavesE e) := ⟨_, rfl⟩
  rw [← HL.out] at H ⊢
  clear hg h0 hw0 hkk hlen
  go_enter Tryz.func64, Tryz.ntmps64
  go_wp2_with fail
  refine H.out.mono ?_
  rintro r w1 ⟨A1, c1, rfl, h1, h2⟩
  go_wp2_with fail
  go_ret
  exact ⟨A1, c1, rfl, h1, h2⟩
end Go.Proofs.YtiffmiabhapfnaaGreatDoor

/- slices.Contains at strings and the document's Has. -/
namespace Go.Proofs.YtiffmiabhapfnaaGreatDoor
open Go.RowKit

theorem mem_take_succ {l : List ByteArray} {k : Nat} {s x : ByteArray} (hx : l[k]? = some x) : s ∈ l.take (k + 1) ↔ s ∈ l.take k ∨ x = s := by
  rw [List.take_add_one, hx]
  simp [eq_comm]

def IdxMem (b : Bool) (w : World) (e : Ending) (w' : World) : Prop := ∃ k : Int, e = .returned (.int .i64 k) ∧ decide (0 ≤ k) = b ∧ Below w.heap.size w w'
set_option maxRecDepth 100000 in
set_option maxHeartbeats 400000 in
theorem index_any (A : Option Addr) (n c : Nat) (l : List ByteArray) (s : ByteArray) (w : World) (hl : SliceIs Enc.str w w.heap.size A n c l) :
    Calls Tryz.prog 88 #[.slice A n c, .string s] w (IdxMem (decide (s ∈ l)) w) := by
  have hn := hl.bound
  have hlen := Lib.hid hl.1
  go_enter Tryz.func88, Tryz.ntmps88
  go_wp2
  go_loop [5, 8] (fun _ i => ∃ k : Nat, k ≤ n ∧ i = .int .i64 k ∧ Hid (s ∉ l.take k)) (fun _ i => n - (intOf i).toNat)
  case atStart => exact ⟨0, by omega, rfl, by simp [Hid]⟩
  case round =>
    obtain ⟨k, hk, rfl, hpre⟩ := hrel
    by_cases hlt : k < n
    · obtain ⟨b, o, x, rfl, _, hx, hc, hs⟩ := hl.str_at hlt
      have i0 : (0 : Int) ≤ (k : Int) := by omega
      have i1 : (k : Int) < (n : Int) := by omega
      have hb := World.block_lt_of_cell? w _ hc
      clear hl
      by_cases h1 : x = s
      · have h1' : (s.toList == x.toList) = true := by simp [h1]
        have HR : Hid (decide (s ∈ l) = true) := by show decide (s ∈ l) = true; rw [← h1]; simpa using List.mem_of_getElem? hx.out
        clear h1
        go_wp2
        go_ret
        exact ⟨_, rfl, by rw [HR.out]; simp, Below.refl _ _⟩
      · have h1' : (s.toList == x.toList) = false := by simp [toList_inj, Ne.symm h1]
        have HN : Hid (s ∉ l.take (k + 1)) := by
          show ¬ _
          rw [mem_take_succ hx.out]; intro h; rcases h with h | h
          · exact hpre.out h
          · exact h1 h
        clear h1
        go_wp2
        go_round
        case rel => exact ⟨k + 1, by omega, by go_num, HN⟩
        case measure => simp [intOf]; omega
    · have HR : Hid (decide (s ∈ l) = false) := by
        show decide (s ∈ l) = false
        have h := hpre.out
        rw [List.take_of_length_le (by have := hlen.out; omega)] at h
        simpa using h
      have i1 : ¬ (k : Int) < (n : Int) := by omega
      go_wp2
      go_ret
      exact ⟨_, rfl, by rw [HR.out]; rfl, Below.refl _ _⟩

set_option maxRecDepth 100000 in
theorem contains_any (A : Option Addr) (n c : Nat) (l : List ByteArray) (s : ByteArray) (w : World) (hl : SliceIs Enc.str w w.heap.size A n c l) :
    Calls Tryz.prog 62 #[.slice A n c, .string s] w (RetBool (decide (s ∈ l)) w) := by
  have hi := Lib.hid (index_any A n c l s w hl)
  clear hl
  go_enter Tryz.func62, Tryz.ntmps62
  go_wp2_with fail
  refine hi.out.mono ?_
  rintro e w1 ⟨k, rfl, hk, hb⟩
  have Hk := Lib.hid hk
  clear hk
  go_wp2_with fail
  go_ret
  exact ⟨by rw [← Hk.out]; rfl, hb⟩
end Go.Proofs.YtiffmiabhapfnaaGreatDoor

/- term.put: the variables of terms, each once, behind those that are there. -/
namespace Go.Proofs.YtiffmiabhapfnaaGreatDoor
open Go.RowKit

def put1 (acc : List ByteArray) (t : GTold) : List ByteArray := if t.x.toList.isEmpty || decide (t.x ∈ acc) then acc else acc ++ [t.x]
def putL (acc : List ByteArray) (l : List GTold) : List ByteArray := l.foldl put1 acc
theorem putL_take {l : List GTold} {k : Nat} {t : GTold} {acc : List ByteArray} (hx : l[k]? = some t) : putL acc (l.take (k + 1)) = put1 (putL acc (l.take k)) t := by
  rw [List.take_add_one, hx]; simp [putL, List.foldl_append]
theorem putL_app (acc : List ByteArray) (a b : List GTold) : putL acc (a ++ b) = putL (putL acc a) b := by simp [putL, List.foldl_append]
theorem putL_mem {l : List GTold} {acc : List ByteArray} {s : ByteArray} (h : s ∈ putL acc l) : s ∈ acc ∨ ∃ t ∈ l, t.x = s := by
  induction l generalizing acc with
  | nil => exact .inl h
  | cons t l ih =>
    rcases ih (acc := put1 acc t) h with h | ⟨u, hu, e⟩
    · unfold put1 at h
      split at h
      · exact .inl h
      · rcases List.mem_append.1 h with h | h
        · exact .inl h
        · simp at h; exact .inr ⟨t, List.mem_cons_self, h.symm⟩
    · exact .inr ⟨u, List.mem_cons_of_mem _ hu, e⟩
theorem putL_len (l : List GTold) (acc : List ByteArray) : (putL acc l).length ≤ acc.length + l.length := by
  induction l generalizing acc with
  | nil => simp [putL]
  | cons t l ih =>
    have h := ih (put1 acc t)
    have h2 : (put1 acc t).length ≤ acc.length + 1 := by
      unfold put1
      split
      · omega
      · simp only [List.length_append, List.length_cons, List.length_nil]; omega
    simp only [List.length_cons]
    show (putL (put1 acc t) l).length ≤ _
    omega
theorem told_ok {w : World} {B : Nat} {A : Option Addr} {n c : Nat} {l : List GTold} (h : SliceIs Enc.told w B A n c l) : ∀ t ∈ l, t.x.size ≤ reachN ∧ t.v.ok := by
  intro t ht
  rcases h.2.2.2.2 with h4 | ⟨b, o, _, _, hc⟩
  · subst h4; cases ht
  · obtain ⟨i, hi⟩ := List.mem_iff_getElem?.1 ht
    obtain ⟨cs, hok, _⟩ := hc i t hi
    exact hok.2
def strC (s : ByteArray) : List Value := [.string s]
theorem str_info : (Tryz.prog.info? 9).map (fun i => (i.zero, i.size, i.bytes)) = some (some (.string ⟨#[]⟩), 1, 16) := by kernel_rfl
theorem str_push {W : World} {base : Nat} {A : Option Addr} {c k : Nat} {xs : List ByteArray} (hown : W.ownsRow base 9 1 (.slice A k c) k (xs.flatMap strC)) (s : ByteArray) (hn : k + 1 ≤ 1000000) (hb : base ≤ W.heap.size) :
    ∃ A' c' w', (∀ ty, (Builtin.append_ #[58, 58] ty #[.slice A k c, .slice (some ⟨W.heap.size, 0, none⟩) 1 1]).run Tryz.prog (W.alloc (.cells #[.string s] 9)) = .ok (.slice A' (k + 1) c') w') ∧
      w'.ownsRow base 9 1 (.slice A' (k + 1) c') (k + 1) ((xs ++ [s]).flatMap strC) ∧ Below base W w' ∧ KeepsT 9 W w' := by
  have ho : (W.alloc (.cells #[.string s] 9)).ownsRow base 9 1 (.slice A k c) k (xs.flatMap strC) := own_below hown (belowA (Below.refl _ _) _)
  obtain ⟨v', w', h1, h2, h3, h4⟩ := run_push_at (P := Tryz.prog) (ty := 58) (W.alloc (.cells #[.string s] 9)) (base := base) Tryz.underlying58 str_info rfl (by decide) ho W.heap.size (strC s) rfl (heapNew rfl) (by intro u hu; simp [strC] at hu; rcases hu with rfl; rfl)
    (by simp [maxLen]; omega) (by omega) (by simp; omega)
  obtain ⟨A', c', rfl⟩ := own_form h2
  refine ⟨A', c', w', fun _ => h1, ?_, ?_, ?_⟩
  · rw [List.flatMap_append]; simpa using h2
  · exact ((Below.refl base W).alloc hb _).trans h4
  · have k1 : KeepsT 9 W (W.alloc (.cells #[.string s] 9)) := KeepsT.of_below (belowA (Below.refl _ _) _)
    refine k1.trans ?_
    intro b cs t fr hbb ht
    refine ((grown_out h3).block b (Array.getElem?_eq_some_iff.1 hbb).1 (fun hbo => ?_)).trans hbb
    obtain ⟨cur, hc⟩ := own_type ho (b := b) (by simpa using hbo)
    rw [hc] at hbb
    injection hbb with hbb; injection hbb with _ h5 _; exact ht h5.symm
def PutPost (L : List ByteArray) (base : Nat) (w : World) (e : Ending) (w' : World) : Prop :=
  ∃ A c, e = .returned (.slice A L.length c) ∧ w'.ownsRow base 9 1 (.slice A L.length c) L.length (L.flatMap strC) ∧ KeepsT 9 w w' ∧ Below base w w'
theorem texts_is {w : World} {base : Nat} {A : Option Addr} {n c : Nat} {l : List ByteArray} (h : w.ownsRow base 9 1 (.slice A n c) n (l.flatMap strC)) (hl : l.length = n) (hn : n ≤ 1000000) (hok : ∀ s ∈ l, s.size ≤ reachN) : SliceIs Enc.str w w.heap.size A n c l :=
  SliceIs.of_flat (E := Enc.str) strC (fun _ => rfl) h hl (by simp [reachN]; omega) (fun q hq => ⟨rfl, hok q hq⟩)

set_option maxRecDepth 100000 in
set_option maxHeartbeats 2000000 in
theorem put_any (base : Nat) (A0 : Option Addr) (c0 m0 : Nat) (L0 : List ByteArray) (A : Option Addr) (n c : Nat) (l : List GTold) (w : World) (hbase : base ≤ w.heap.size) (hm0 : L0.length = m0) (hown : w.ownsRow base 9 1 (.slice A0 m0 c0) m0 (L0.flatMap strC)) (hok : ∀ s ∈ L0, s.size ≤ reachN)
    (hl : ∀ W, KeepsT 9 w W → Below base w W → SliceIs Enc.told W W.heap.size A n c l) (hsz : m0 + n ≤ 100000) :
    Calls Tryz.prog 36 #[.slice A0 m0 c0, .slice A n c] w (PutPost (putL L0 l) base w) := by
  have hl0 := hl w (KeepsT.refl _ _) (Below.refl _ _)
  have hn := hl0.bound
  have hlen := Lib.hid hl0.1
  have Htold := Lib.hid (fun t h => told_ok hl0 t h)
  have HL := Lib.hid hl
  have Hm0 := Lib.hid hm0
  have Hok := Lib.hid hok
  have Hown := Lib.hid hown
  obtain ⟨P, HP⟩ : ∃ P : Ending → World → Prop, Hid (P = PutPost (putL L0 l) base w) := ⟨_, rfl⟩
  rw [← HP.out]
  clear hl hl0 hok hown hm0
  go_enter Tryz.func36, Tryz.ntmps36
  go_wp2_with fail
  go_loopw [0, 6, 9] (fun v _ i wr => ∃ (k m c' : Nat) (A' : Option Addr) (L : List ByteArray), k ≤ n ∧ i = .int .i64 k ∧ v = .slice A' m c' ∧ Hid (putL L0 (l.take k) = L) ∧ m ≤ m0 + k ∧ Hid (L.length = m) ∧ Hid (wr.ownsRow base 9 1 (.slice A' m c') m (L.flatMap strC)) ∧ Hid (KeepsT 9 w wr) ∧ Below base w wr ∧ w.heap.size ≤ wr.heap.size) (fun _ _ i _ => n - (intOf i).toNat)
  case atStart => exact ⟨0, m0, c0, A0, L0, by omega, rfl, rfl, by show putL L0 _ = _; simp [putL], by omega, Hm0.out, Hown, KeepsT.refl _ _, Below.refl _ _, Nat.le_refl _⟩
  case round =>
    obtain ⟨k, m, c', A', L, hk, rfl, rfl, hL, hmk, HLm, HO, HKp, hbr, hzr⟩ := hrel
    have i0 : (0 : Int) ≤ (k : Int) := by omega
    by_cases hlt : k < n
    · have i1 : (k : Int) < (n : Int) := by omega
      obtain ⟨b, o, x, rfl, hbl, hx, x1, x2, x3, x4, hxs, _⟩ := (HL.out wr HKp.out hbr).told_at hlt
      have hbx : Below wr.heap.size wr (wr.alloc (.cells #[.string x.x, .int .i64 x.v.k, .int .i64 x.v.n, .string x.v.s] 26)) := belowA (Below.refl _ _) _
      have HbX := Lib.hid hbx
      have HLs : Hid (∀ s ∈ L, s.size ≤ reachN) := fun s h => by
        rw [← hL.out] at h
        rcases putL_mem h with h | ⟨t, ht, e⟩
        · exact Hok.out s h
        · exact e ▸ (Htold.out t (List.mem_of_mem_take ht)).1
      have HE : Hid (putL L0 (l.take (k + 1)) = put1 L x) := by
        show putL L0 (l.take (k + 1)) = put1 L x
        rw [putL_take hx.out, hL.out]
      cases he : x.x.toList.isEmpty with
      | true =>
        have HT : Hid (putL L0 (l.take (k + 1)) = L) := by rw [HE.out]; simp [put1, he, Hid]
        have he' : (!x.x.toList.isEmpty) = false := by simp [he]
        clear hbx HE HLs
        go_wp2_with fail
        go_roundw
        case rel => exact ⟨k + 1, m, c', A', L, by omega, by go_num, rfl, HT, by omega, HLm, own_below HO.out HbX.out, HKp.out.trans (KeepsT.of_below HbX.out), hbr.trans (HbX.out.mono (by omega)), by simp; omega⟩
        case measure => simp [intOf]; omega
      | false =>
        have he' : (!x.x.toList.isEmpty) = true := by simp [he]
        have hC := contains_any A' m c' L x.x (wr.alloc (.cells #[.string x.x, .int .i64 x.v.k, .int .i64 x.v.n, .string x.v.s] 26)) ((texts_is HO.out HLm.out (by omega) HLs.out).keep hbx)
        cases hm : decide (x.x ∈ L) with
        | true =>
          have HT : Hid (putL L0 (l.take (k + 1)) = L) := by rw [HE.out]; simp only [put1, he, hm, Bool.false_or, if_true]; exact trivial
          rw [hm] at hC
          have hC := Lib.hid hC
          clear hm hbx HE HLs
          go_wp2_with fail
          refine hC.out.mono ?_
          rintro e w1 ⟨rfl, hb1⟩
          have hbn : Below wr.heap.size wr w1 := below_next HbX.out hb1
          have hzn := hbn.size
          have HbN := Lib.hid hbn
          clear hbn hC hb1
          go_wp2_with fail
          go_roundw
          case rel => exact ⟨k + 1, m, c', A', L, by omega, by go_num, rfl, HT, by omega, HLm, own_below HO.out HbN.out, HKp.out.trans (KeepsT.of_below HbN.out), hbr.trans (HbN.out.mono (by omega)), by omega⟩
          case measure => simp [intOf]; omega
        | false =>
          have HT : Hid (putL L0 (l.take (k + 1)) = L ++ [x.x]) := by rw [HE.out]; simp only [put1, he, hm, Bool.false_or, Bool.false_eq_true, if_false]; exact trivial
          have Hxs := Lib.hid hxs
          rw [hm] at hC
          have hC := Lib.hid hC
          clear hm hbx HE hxs
          go_wp2_with fail
          refine hC.out.mono ?_
          rintro e w1 ⟨rfl, hb1⟩
          obtain ⟨hc, hf⟩ := bcell hb1
          have hz := hb1.size
          have hbn : Below wr.heap.size wr w1 := below_next HbX.out hb1
          have HbN := Lib.hid hbn
          simp only [World.size_alloc, Nat.add_one_le_iff] at hz hc hf
          obtain ⟨A2, c2, w3, hrun, hown2, hb3, hk3⟩ := str_push (own_below HO.out HbN.out) x.x (by omega) (by omega)
          have HRun := Lib.hid hrun
          have HO3 := Lib.hid hown2
          have HK3 : Hid (KeepsT 9 w w3) := (HKp.out.trans (KeepsT.of_below HbN.out)).trans hk3
          have hbw3 : Below base w w3 := (hbr.trans (HbN.out.mono (by omega))).trans hb3
          have hz3 := hb3.size
          have HB3 := Lib.hid hbw3
          have HLm2 : Hid ((L ++ [x.x]).length = m + 1) := by show _ = _; simp [HLm.out]
          clear hrun hown2 hk3 hbw3 hb3 hbn hC hb1 HLs
          go_wp2_with (at_builtin; refine wpList_append_run rfl _ _ _ rfl _ _ rfl rfl (HRun.out _) ?_)
          go_roundw
          case rel => exact ⟨k + 1, m + 1, c2, A2, L ++ [x.x], by omega, by go_num, rfl, HT, by omega, HLm2, HO3, HK3, HB3.out, by omega⟩
          case measure => simp [intOf]; omega
    · have i1 : ¬ (k : Int) < (n : Int) := by omega
      have e : putL L0 l = L := by rw [← hL.out, List.take_of_length_le (by have := hlen.out; omega)]
      have hPP : Hid (P (.returned (.slice A' m c')) wr) := by
        show P _ _
        rw [HP.out, e]
        refine ⟨A', c', by rw [HLm.out], by rw [HLm.out]; exact HO.out, HKp.out, hbr⟩
      clear HP e
      go_wp2_with fail
      exact hPP.out
end Go.Proofs.YtiffmiabhapfnaaGreatDoor

/- slices.Grow and slices.Concat at terms. -/
namespace Go.Proofs.YtiffmiabhapfnaaGreatDoor
open Go.RowKit

def GrowPost (w : World) (e : Ending) (w' : World) : Prop := ∃ A c, e = .returned (.slice A 0 c) ∧ w'.ownsRow w.heap.size 26 4 (.slice A 0 c) 0 [] ∧ Below w.heap.size w w'

set_option maxRecDepth 100000 in
set_option maxHeartbeats 2000000 in
theorem grow_any (n : Nat) (w : World) (hn : n ≤ 10000) : Calls Tryz.prog 89 #[.slice none 0 0, .int .i64 n] w (GrowPost w) := by
  have h1 : ¬ ((n : Int) < 0) := by omega
  by_cases h0 : n = 0
  · subst h0
    go_enter Tryz.func89, Tryz.ntmps89
    go_wp2
    go_ret
    exact ⟨none, 0, rfl, World.ownsRow_nil _ _ _ _, Below.refl _ _⟩
  · have h4 : (0 : Int) < (n : Int) := by omega
    obtain ⟨i0, hi0, hz0, hs0, hb0⟩ := info_parts term_info
    have hold : (Builtin.firstCells i0.size 0 (.slice none 0 0)).run Tryz.prog w.drew = .ok (List.toArray []) w.drew := Go.run_firstCells_none w.drew i0.size 0 0 0
    have hgn : n ≤ grownCap w n 0 26 := grownCap_ge w _ _ _
    have hgm : grownCap w n 0 26 ≤ maxLen := grownCap_le_maxLen w n 0 26 (by simp [maxLen]; omega)
    obtain ⟨cap, cur, h5, h6, h7, hrz⟩ : ∃ cap cur, n ≤ cap ∧ cap ≤ maxLen ∧ cur.size = cap * 4 ∧ ∀ ty, (Builtin.append_ #[51, 3] ty #[.slice none 0 0, .int .i64 n]).run Tryz.prog w = .ok (.slice (some ⟨w.heap.size, 0, none⟩) n cap) (w.drew.alloc (.cells cur 26)) := by
      have h := fun ty => Lib.run_append_grow_zeros w 51 3 ty 26 i0 _ .i64 .i64 Tryz.underlying51 Tryz.underlying3 hi0 hz0 none 0 0 [] hold n (by omega) (by omega) (by omega) (by omega)
          (by rw [hb0]; omega) (by rw [Nat.zero_add]; exact growslice_fits (by omega) (by rw [hb0]; omega))
      simp only [Nat.zero_add] at h
      refine ⟨_, _, hgn, hgm, ?_, h⟩
      simp only [Array.size_append, size_zeroCells, List.size_toArray, List.length_nil, Value.cells]
      simp only [List.length_cons, List.length_nil]
      omega
    have HRz := Lib.hid hrz
    clear hrz hold hgn hgm
    have c1 : (0 : Int) ≤ (cap : Int) := by omega
    go_enter Tryz.func89, Tryz.ntmps89
    go_wp2_with (at_builtin; refine Lib.wpList_append_run _ rfl _ _ _ _ rfl _ _ rfl rfl _ _ (HRz.out _) ?_)
    go_ret
    exact ⟨some ⟨w.heap.size, 0, none⟩, cap, rfl, ⟨by simp, .inr ⟨w.heap.size, cap, cur, rfl, Nat.le_refl _, (Go.heap_alloc_new w _ : (w.alloc _).heap[w.heap.size]? = some _), Nat.zero_le _, h6, h7, by simp⟩⟩, (belowA (Below.refl _ _) _).drew⟩

def sumLen (ls : List (List GTold)) : Nat := (ls.map List.length).sum
theorem sumLen_take {ls : List (List GTold)} {k : Nat} {l : List GTold} (hx : ls[k]? = some l) : sumLen (ls.take (k + 1)) = sumLen (ls.take k) + l.length := by
  rw [List.take_add_one, hx]; simp [sumLen]
theorem sumLen_le (ls : List (List GTold)) (k : Nat) : sumLen (ls.take k) ≤ sumLen ls := by
  have : sumLen ls = sumLen (ls.take k) + sumLen (ls.drop k) := by
    have h := congrArg sumLen (List.take_append_drop k ls)
    simp only [sumLen, List.map_append, List.sum_append] at h ⊢
    exact h.symm
  omega
theorem flat_take {ls : List (List GTold)} {k : Nat} {l : List GTold} (hx : ls[k]? = some l) : (ls.take (k + 1)).flatten = (ls.take k).flatten ++ l := by
  rw [List.take_add_one, hx]; simp
theorem flat_sum (ls : List (List GTold)) : ls.flatten.length = sumLen ls := by simp [sumLen, List.length_flatten]

set_option maxRecDepth 100000 in
set_option maxHeartbeats 2000000 in
theorem concat_any (A : Option Addr) (n c : Nat) (ls : List (List GTold)) (w : World) (hl : SliceIs (Enc.slice Enc.told) w w.heap.size A n c ls) (hsum : sumLen ls ≤ 10000) :
    Calls Tryz.prog 63 #[.slice A n c] w (CollPost ls.flatten w) := by
  have hn := hl.bound
  have hlen := Lib.hid hl.1
  have HL := Lib.hid hl
  have Hok : Hid (∀ x ∈ ls.flatten, x.x.size ≤ reachN ∧ x.v.ok) := by
    intro x hx
    obtain ⟨l, hl1, hx⟩ := List.mem_flatten.1 hx
    obtain ⟨i, hi, rfl⟩ := List.mem_iff_getElem.1 hl1
    obtain ⟨b, o, l', A2, m, c2, _, _, hx', _, hs⟩ := hl.slice_at (i := i) (by rw [← hl.1]; exact hi)
    have e : ls[i] = l' := by have := hx'.out; rw [List.getElem?_eq_getElem hi] at this; simpa using this
    exact told_ok hs x (e ▸ hx)
  go_enter Tryz.func63, Tryz.ntmps63
  go_wp2_with fail
  go_loop [3, 5, 11] (fun t _ i => ∃ k : Nat, k ≤ n ∧ i = .int .i64 k ∧ t = .int .i64 (sumLen (ls.take k) : Nat)) (fun _ _ i => n - (intOf i).toNat)
  case atStart => exact ⟨0, by omega, rfl, by simp [sumLen]⟩
  case round =>
    obtain ⟨k, hk, rfl, rfl⟩ := hrel
    have hsk := sumLen_le ls k
    by_cases hlt : k < n
    · obtain ⟨b, o, l, A2, m, c2, rfl, hb, hx, hc, hs⟩ := hl.slice_at hlt
      have hml := hs.1
      have hsk1 := sumLen_le ls (k + 1)
      rw [sumLen_take hx.out] at hsk1
      have HT := Lib.hid (sumLen_take hx.out)
      have i1 : (k : Int) < (n : Int) := by omega
      clear hl
      go_wp2_with fail
      go_round
      case rel => exact ⟨k + 1, by omega, by go_num, by rw [HT.out, hml]; go_num⟩
      case measure => simp [intOf]; omega
    · have hkn : k = n := by omega
      subst hkn
      have Htot : Hid (sumLen (ls.take k) = sumLen ls) := by
        show _ = _
        rw [List.take_of_length_le (by have := hlen.out; omega)]
      go_wp2_with fail
      refine (grow_any _ w (by omega)).mono ?_
      rintro e w1 ⟨A1, c1, rfl, hown, hb1⟩
      clear hsk
      go_wp2_with fail
      go_loopw [6, 8, 27] (fun v _ i wr => ∃ (j m : Nat), j ≤ k ∧ i = .int .i64 j ∧ m = sumLen (ls.take j) ∧ wr.ownsRow w.heap.size 26 4 v m ((ls.take j).flatten.flatMap GTold.cells) ∧ Below w.heap.size w wr) (fun _ _ i _ => k - (intOf i).toNat)
      case atStart => exact ⟨0, 0, by omega, rfl, by simp [sumLen], by simpa using hown, hb1⟩
      case round =>
        obtain ⟨j, m, hj, rfl, hm, hown, hbr⟩ := hrel
        by_cases hlt2 : j < k
        · obtain ⟨b, o, l, A2, m2, c2, rfl, hb, hx, hc, hs⟩ := (HL.out.below hbr).slice_at hlt2
          have hsk1 := sumLen_le ls (j + 1)
          rw [sumLen_take hx.out] at hsk1
          have hm2 := hs.1
          have HT := Lib.hid (sumLen_take hx.out)
          have HF := Lib.hid (flat_take hx.out)
          have i1 : (j : Int) < (k : Int) := by omega
          obtain ⟨v2, w3, hrun, hown2, _, hb3⟩ := run_append_slice (P := Tryz.prog) (E := Enc.told) GTold.cells (fun _ => rfl) (fun h => h.1) (by intro x u hu; simp [GTold.cells] at hu; rcases hu with rfl | rfl | rfl | rfl <;> rfl) wr (ty := 51) Tryz.underlying51 term_info rfl (by decide) hown hs
            (by simp [maxLen]; omega) (by omega) (by have := hbr.size; omega)
          obtain ⟨A3, c3, rfl⟩ := own_form hown2
          have HRun := Lib.hid hrun
          have Hm := Lib.hid hm
          clear hrun hm hsk1
          go_wp2_with (at_builtin; refine wpList_append_run rfl _ _ _ rfl _ _ rfl rfl HRun ?_)
          go_roundw
          case rel => exact ⟨j + 1, m + m2, by omega, by go_num, by rw [HT.out, Hm.out, hm2], by rw [HF.out, List.flatMap_append]; exact hown2, hbr.trans hb3⟩
          case measure => simp [intOf]; omega
        · have hjk : j = k := by omega
          subst hjk
          have Hown := Lib.hid hown
          obtain ⟨A3, c3, rfl⟩ := own_form hown
          have Hm := Lib.hid hm
          clear hown hm
          go_wp2_with fail
          go_ret
          have et : ls.take j = ls := List.take_of_length_le (by have := hlen.out; omega)
          have hown := Hown.out
          have hm := Hm.out
          rw [et] at hown hm
          have hml : ls.flatten.length = m := by rw [flat_sum, hm]
          exact ⟨A3, c3, by rw [hml]; rfl, by rw [hml]; exact hown, hbr⟩
end Go.Proofs.YtiffmiabhapfnaaGreatDoor

/- term.inside, term.In, term.Vars. -/
namespace Go.Proofs.YtiffmiabhapfnaaGreatDoor
open Go.RowKit

theorem leavesL_mem {t : GTold} : ∀ {l : List GExp}, t ∈ leavesL l → ∃ k ∈ l, t ∈ leavesE k
  | [], h => by rw [leavesL] at h; cases h
  | k :: ks, h => by
    rw [leavesL] at h
    rcases List.mem_append.1 h with h | h
    · exact ⟨k, List.mem_cons_self, h⟩
    · obtain ⟨u, hu, hh⟩ := leavesL_mem h
      exact ⟨u, List.mem_cons_of_mem _ hu, hh⟩
theorem leaves_ok : ∀ (d : Nat) (e : GExp) (A : Option Addr) (n c : Nat) (w : World) (B : Nat), SliceIs (Enc.exp d) w B A n c e.kids → e.t.x.size ≤ reachN → e.t.v.ok → ∀ t ∈ leavesE e, t.x.size ≤ reachN ∧ t.v.ok := by
  intro d
  induction d using Nat.strongRecOn with
  | ind d ih =>
    intro e A n c w B hk h1 h2 t ht
    by_cases h0 : e.kids = []
    · rw [leavesE_nil h0] at ht
      simp at ht; subst ht; exact ⟨h1, h2⟩
    · rw [leavesE_kids h0] at ht
      obtain ⟨k, hkm, hkt⟩ := leavesL_mem ht
      obtain ⟨i, hi⟩ := List.mem_iff_getElem?.1 hkm
      have hil : i < n := by rw [← hk.1]; exact (List.getElem?_eq_some_iff.1 hi).1
      obtain ⟨b, o, k', A', n', c', d', rfl, hb, hk', hd, x0, x1, x2, x3, x4, x5, -, f1, f2, hkk⟩ := hk.exp_at hil
      have e1 : k' = k := by have := hk'.out; rw [hi] at this; injection this with this; exact this.symm
      subst e1
      exact ih d' (by omega) k' A' n' c' w B hkk f1 f2 t hkt
theorem told_own {w : World} {base : Nat} {A : Option Addr} {n c : Nat} {l : List GTold} (h : w.ownsRow base 26 4 (.slice A n c) n (l.flatMap GTold.cells)) (hl : l.length = n) (hn : n ≤ 1000000) (hok : ∀ t ∈ l, t.x.size ≤ reachN ∧ t.v.ok) : SliceIs Enc.told w w.heap.size A n c l :=
  SliceIs.of_flat (E := Enc.told) GTold.cells (fun _ => rfl) h hl (by simp [reachN]; omega) (fun q hq => ⟨rfl, hok q hq⟩)
theorem own_keepT {T : TypeId} {w W : World} {base e sz : Nat} {v : Value} {n : Nat} {xs : List Value} (h : w.ownsRow base e sz v n xs) (hk : KeepsT T w W) (he : e ≠ T) : W.ownsRow base e sz v n xs := by
  refine ⟨h.1, ?_⟩
  rcases h.2 with hn | ⟨g, cap, cur, rfl, hg, hh, r⟩
  · exact .inl hn
  · exact .inr ⟨g, cap, cur, rfl, hg, hk g _ _ _ hh he, r⟩
/-- a literal's terms -/
def insideL (x : GLit) : List GTold := x.atom.args ++ (leavesE x.l ++ leavesE x.r)
/-- a rule's terms -/
def ruleT (x : GRule) : List GTold := x.head.args ++ x.body.flatMap insideL
theorem inside_ok {d : Nat} {w : World} {B : Nat} {x : GLit} {a p q : Hd} (h : LitAt d w B x a p q) : ∀ t ∈ insideL x, t.x.size ≤ reachN ∧ t.v.ok := by
  intro t ht
  unfold insideL at ht
  rcases List.mem_append.1 ht with ht | ht
  · exact told_ok h.args t ht
  · rcases List.mem_append.1 ht with ht | ht
    · exact leaves_ok _ _ _ _ _ _ _ h.lk h.lx h.lv t ht
    · exact leaves_ok _ _ _ _ _ _ _ h.rk h.rx h.rv t ht
theorem tup3 {W : World} {A B C : Option Addr} {n m k a b c : Nat} {l1 l2 l3 : List GTold} {T : TypeId} (h1 : SliceIs Enc.told W W.heap.size A n a l1) (h2 : SliceIs Enc.told W W.heap.size B m b l2) (h3 : SliceIs Enc.told W W.heap.size C k c l3) :
    SliceIs (Enc.slice Enc.told) (W.alloc (.cells #[.slice A n a, .slice B m b, .slice C k c] T)) (W.alloc (.cells #[.slice A n a, .slice B m b, .slice C k c] T)).heap.size (some ⟨W.heap.size, 0, none⟩) 3 3 [l1, l2, l3] := by
  refine ⟨rfl, Nat.le_refl _, by simp [maxLen], by simp [reachN], .inr ⟨W.heap.size, 0, rfl, by simp, fun i x hx => ?_⟩⟩
  match i, hx with
  | 0, hx =>
    simp at hx; subst hx
    refine ⟨[.slice A n a], ⟨A, n, a, rfl, h1.mono (by simp) (fun b hb => Below.heap_alloc _ _ _ hb)⟩, fun j v hv => ?_⟩
    match j, hv with
    | 0, hv => simp at hv; subst hv; simp [Enc.slice]
  | 1, hx =>
    simp at hx; subst hx
    refine ⟨[.slice B m b], ⟨B, m, b, rfl, h2.mono (by simp) (fun b hb => Below.heap_alloc _ _ _ hb)⟩, fun j v hv => ?_⟩
    match j, hv with
    | 0, hv => simp at hv; subst hv; simp [Enc.slice]
  | 2, hx =>
    simp at hx; subst hx
    refine ⟨[.slice C k c], ⟨C, k, c, rfl, h3.mono (by simp) (fun b hb => Below.heap_alloc _ _ _ hb)⟩, fun j v hv => ?_⟩
    match j, hv with
    | 0, hv => simp at hv; subst hv; simp [Enc.slice]
theorem own_down {W : World} {base base' : Nat} {e : TypeId} {size : Nat} {v : Value} {k : Nat} {xs : List Value} (h : W.ownsRow base e size v k xs) (hb : base' ≤ base) : W.ownsRow base' e size v k xs := by
  refine ⟨h.1, ?_⟩
  rcases h.2 with hn | ⟨g, cap, cur, hv, hbg, rest⟩
  · exact .inl hn
  · exact .inr ⟨g, cap, cur, hv, Nat.le_trans hb hbg, rest⟩
theorem seq_ge {b W : World} {g : Nat} (h : Below b.heap.size b W) (hz : W.heap.size ≤ g) : b.heap.size ≤ g := Nat.le_trans h.size hz
def SeqPost2 (w : World) (e : GExp) (A : Option Addr) (n c : Nat) (r : Ending) (w' : World) : Prop :=
  ∃ g, r = .returned (.func (.func 25) #[] #[.pointer (some ⟨g, 0, none⟩)]) ∧ w'.heap[g]? = some (.cells #[.int .i64 e.op, .string e.t.x, .int .i64 e.t.v.k, .int .i64 e.t.v.n, .string e.t.v.s, .slice A n c] 29 (0, 0)) ∧ w.heap.size ≤ g ∧ Below w.heap.size w w'
theorem termsF_any2 (w : World) (e : GExp) (A : Option Addr) (n c : Nat) : Calls Tryz.prog 10 #[expV e A n c] w (SeqPost2 w e A n c) :=
  (termsF_any w e A n c).mono (fun r w' h => by
    obtain ⟨rfl, rfl⟩ := h
    exact ⟨w.heap.size, rfl, heapNew rfl, Nat.le_refl _, belowA (Below.refl _ _) _⟩)

set_option maxRecDepth 100000 in
set_option maxHeartbeats 8000000 in
theorem insideT_any (d : Nat) (x : GLit) (a p q : Hd) (w : World) (hx : LitAt d w w.heap.size x a p q) (hsz : (insideL x).length ≤ 1500) :
    Calls Tryz.prog 37 #[.agg (litC x a p q).toArray] w (CollPost (insideL x) w) := by
  have Hsz := Lib.hid hsz
  have hsz1 : (leavesE x.l).length ≤ 1500 := by unfold insideL at hsz; simp only [List.length_append] at hsz; omega
  have hsz2 : (leavesE x.r).length ≤ 1500 := by unfold insideL at hsz; simp only [List.length_append] at hsz; omega
  have HOl := Lib.hid (leaves_ok _ _ _ _ _ _ _ hx.lk hx.lx hx.lv)
  have HOr := Lib.hid (leaves_ok _ _ _ _ _ _ _ hx.rk hx.rx hx.rv)
  obtain ⟨P, HP⟩ : ∃ P : Ending → World → Prop, Hid (P = CollPost (insideL x) w) := ⟨_, rfl⟩
  rw [← HP.out]
  clear hsz
  go_enter Tryz.func37, Tryz.ntmps37
  go_wp2_with fail
  have hg := Go.heap_alloc_new w (.cells (litC x a p q).toArray 63)
  have hbw : Below w.heap.size w (w.alloc (.cells (litC x a p q).toArray 63)) := belowA (Below.refl _ _) _
  generalize w.alloc (.cells (litC x a p q).toArray 63) = wb at hg hbw ⊢
  have hgl : w.heap.size < wb.heap.size := (Array.getElem?_eq_some_iff.1 hg).1
  have Hk := Lib.hid (fun W (h : Below wb.heap.size wb W) => show W.cell? ⟨w.heap.size, 2, none⟩ = some (a.v) ∧ W.cell? ⟨w.heap.size, 4, none⟩ = some (.int .i64 x.l.op) ∧ W.cell? ⟨w.heap.size, 5, none⟩ = some (.string x.l.t.x) ∧ W.cell? ⟨w.heap.size, 6, none⟩ = some (.int .i64 x.l.t.v.k) ∧ W.cell? ⟨w.heap.size, 7, none⟩ = some (.int .i64 x.l.t.v.n) ∧ W.cell? ⟨w.heap.size, 8, none⟩ = some (.string x.l.t.v.s) ∧ W.cell? ⟨w.heap.size, 9, none⟩ = some (p.v) ∧ W.cell? ⟨w.heap.size, 10, none⟩ = some (.int .i64 x.r.op) ∧ W.cell? ⟨w.heap.size, 11, none⟩ = some (.string x.r.t.x) ∧ W.cell? ⟨w.heap.size, 12, none⟩ = some (.int .i64 x.r.t.v.k) ∧ W.cell? ⟨w.heap.size, 13, none⟩ = some (.int .i64 x.r.t.v.n) ∧ W.cell? ⟨w.heap.size, 14, none⟩ = some (.string x.r.t.v.s) ∧ W.cell? ⟨w.heap.size, 15, none⟩ = some (q.v) from by
    obtain ⟨h0, h1, h2, h3, h4, h5, h6, h7, h8, h9, h10, h11, h12, h13, h14, h15, h16⟩ := facts17 ((h.block w.heap.size hgl).trans hg)
    exact ⟨h2, h4, h5, h6, h7, h8, h9, h10, h11, h12, h13, h14, h15⟩)
  have HX := Lib.hid (hx.keep hbw)
  have HL := Lib.hid (fun W (h : Below wb.heap.size wb W) => (HX.out.args).keep h)
  have hb1 := Below.refl wb.heap.size wb
  have Hfirst : Hid True := trivial
  clear hg hgl hx
  go_region_held3 (fun w' => w'.cell? ⟨w.heap.size, 2, none⟩ = some (a.v) ∧ w'.cell? ⟨w.heap.size, 4, none⟩ = some (.int .i64 x.l.op) ∧ w'.cell? ⟨w.heap.size, 5, none⟩ = some (.string x.l.t.x) ∧ w'.cell? ⟨w.heap.size, 6, none⟩ = some (.int .i64 x.l.t.v.k) ∧ w'.cell? ⟨w.heap.size, 7, none⟩ = some (.int .i64 x.l.t.v.n) ∧ w'.cell? ⟨w.heap.size, 8, none⟩ = some (.string x.l.t.v.s) ∧ w'.cell? ⟨w.heap.size, 9, none⟩ = some (p.v) ∧ w'.cell? ⟨w.heap.size, 10, none⟩ = some (.int .i64 x.r.op) ∧ w'.cell? ⟨w.heap.size, 11, none⟩ = some (.string x.r.t.x) ∧ w'.cell? ⟨w.heap.size, 12, none⟩ = some (.int .i64 x.r.t.v.k) ∧ w'.cell? ⟨w.heap.size, 13, none⟩ = some (.int .i64 x.r.t.v.n) ∧ w'.cell? ⟨w.heap.size, 14, none⟩ = some (.string x.r.t.v.s) ∧ w'.cell? ⟨w.heap.size, 15, none⟩ = some (q.v))
    (first
      | (refine Hk.out _ ?_; (repeat (first | with_reducible exact Below.refl _ _ | with_reducible assumption | with_reducible refine Below.drew ?_ | with_reducible refine belowA ?_ _)))
      | go_keep)
    ((first
      | (go_at_call 10
         refine (termsF_any2 _ x.l p.A p.n p.c).mono ?_
         clear Hfirst
         rintro e w1 ⟨g1, rfl, hg1, hz1, hq1⟩
         have hgz1 : wb.heap.size ≤ g1 := by
           refine seq_ge ?_ hz1
           (repeat (first | with_reducible exact Below.refl _ _ | with_reducible assumption | with_reducible refine Below.drew ?_ | with_reducible refine belowA ?_ _))
         have hb1 : Below wb.heap.size wb w1 := by
           refine below_next ?_ hq1
           (repeat (first | with_reducible exact Below.refl _ _ | with_reducible assumption | with_reducible refine Below.drew ?_ | with_reducible refine belowA ?_ _))
         clear hq1 hz1)
      | (go_at_call 64
         refine (collect_any (e := x.l) (g := g1) hg1 wb hgz1 ?hw HX.out.lk hsz1).mono ?_
         case hw => (repeat (first | with_reducible exact Below.refl _ _ | with_reducible assumption | with_reducible refine Below.drew ?_ | with_reducible refine belowA ?_ _))
         clear hg1 hgz1
         rintro e w2 ⟨A9, c9, rfl, hs9, hq1⟩
         have hb1 : Below wb.heap.size wb w2 := by
           refine below_next ?_ hq1
           (repeat (first | with_reducible exact Below.refl _ _ | with_reducible assumption | with_reducible refine Below.drew ?_ | with_reducible refine belowA ?_ _))
         have hs9 := told_own hs9 rfl (by omega) HOl.out
         clear hq1)
      | (go_at_call 10
         refine (termsF_any2 _ x.r q.A q.n q.c).mono ?_
         rintro e w3 ⟨g3, rfl, hg3, hz3, hq1⟩
         have hgz3 : wb.heap.size ≤ g3 := by
           refine seq_ge ?_ hz3
           (repeat (first | with_reducible exact Below.refl _ _ | with_reducible assumption | with_reducible refine Below.drew ?_ | with_reducible refine belowA ?_ _))
         have hb1 : Below wb.heap.size wb w3 := by
           refine below_next ?_ hq1
           (repeat (first | with_reducible exact Below.refl _ _ | with_reducible assumption | with_reducible refine Below.drew ?_ | with_reducible refine belowA ?_ _))
         have hs9 := hs9.keep (w' := w3) (by
           refine below_next ?_ hq1
           (repeat (first | with_reducible exact Below.refl _ _ | with_reducible assumption | with_reducible refine Below.drew ?_ | with_reducible refine belowA ?_ _)))
         clear hq1 hz3)
      | (go_at_call 64
         refine (collect_any (e := x.r) (g := g3) hg3 wb hgz3 ?hw HX.out.rk hsz2).mono ?_
         case hw => (repeat (first | with_reducible exact Below.refl _ _ | with_reducible assumption | with_reducible refine Below.drew ?_ | with_reducible refine belowA ?_ _))
         clear hg3 hgz3
         rintro e w4 ⟨A13, c13, rfl, hs13, hq1⟩
         have hb1 : Below wb.heap.size wb w4 := by
           refine below_next ?_ hq1
           (repeat (first | with_reducible exact Below.refl _ _ | with_reducible assumption | with_reducible refine Below.drew ?_ | with_reducible refine belowA ?_ _))
         have hs9 := hs9.keep (w' := w4) (by
           refine below_next ?_ hq1
           (repeat (first | with_reducible exact Below.refl _ _ | with_reducible assumption | with_reducible refine Below.drew ?_ | with_reducible refine belowA ?_ _)))
         have hs13 := told_own hs13 rfl (by omega) HOr.out
         clear hq1)
      | (go_at_call 63
         refine (concat_any _ 3 3 [x.atom.args, leavesE x.l, leavesE x.r] _ ?hc ?hs).mono ?_
         case hc => exact tup3 (HL.out _ hb1) hs9 hs13
         case hs => have := Hsz.out; simp [sumLen]; simp [insideL] at this; omega
         rintro e w5 ⟨A15, c15, rfl, hs15, hq1⟩
         have hs15 := own_down (base' := w.heap.size) hs15 (by
           refine Nat.le_trans hbw.size (seq_ge (b := wb) ?_ (Nat.le_refl _))
           (repeat (first | with_reducible exact Below.refl _ _ | with_reducible assumption | with_reducible refine Below.drew ?_ | with_reducible refine belowA ?_ _)))
         have hb5 : Below wb.heap.size wb w5 := by
           refine below_next ?_ hq1
           (repeat (first | with_reducible exact Below.refl _ _ | with_reducible assumption | with_reducible refine Below.drew ?_ | with_reducible refine belowA ?_ _)))))
  all_goals
    have hPP : P (.returned (.slice A15 (x.atom.args.length + ((leavesE x.l).length + (leavesE x.r).length)) c15)) w5 := by
      rw [HP.out]
      have e1 : List.flatten [x.atom.args, leavesE x.l, leavesE x.r] = insideL x := by simp [insideL]
      have e2 : x.atom.args.length + ((leavesE x.l).length + (leavesE x.r).length) = (insideL x).length := by simp [insideL]
      rw [e1] at hs15
      rw [e2]
      exact ⟨A15, c15, rfl, hs15, below_next hbw hb5⟩
    have HPP := Lib.hid hPP
    clear hPP hs15
    go_wp2_with fail
    exact HPP.out

def TextsPost (L : List ByteArray) (w : World) (e : Ending) (w' : World) : Prop :=
  ∃ A c, e = .returned (.slice A L.length c) ∧ w'.ownsRow w.heap.size 9 1 (.slice A L.length c) L.length (L.flatMap strC) ∧ Below w.heap.size w w'
theorem TextsPost.is {L : List ByteArray} {w w' : World} {A : Option Addr} {c : Nat} (h : w'.ownsRow w.heap.size 9 1 (.slice A L.length c) L.length (L.flatMap strC)) (hl : L.length ≤ 1000000) (hok : ∀ s ∈ L, s.size ≤ reachN) : SliceIs Enc.str w' w'.heap.size A L.length c L :=
  texts_is h rfl hl hok

set_option maxRecDepth 100000 in
set_option maxHeartbeats 1000000 in
theorem inT_any (d : Nat) (x : GLit) (a p q : Hd) (w : World) (hx : LitAt d w w.heap.size x a p q) (hsz : (insideL x).length ≤ 1500) :
    Calls Tryz.prog 18 #[.agg (litC x a p q).toArray] w (TextsPost (putL [] (insideL x)) w) := by
  have HX := Lib.hid hx
  have Hsz := Lib.hid hsz
  obtain ⟨P, HP⟩ : ∃ P : Ending → World → Prop, Hid (P = TextsPost (putL [] (insideL x)) w) := ⟨_, rfl⟩
  rw [← HP.out]
  clear hx hsz
  have hrb : (w.alloc (.cells (litC x a p q).toArray 63)).heap[w.heap.size]? = some (.cells (litC x a p q).toArray 63 (0, 0)) := heapNew rfl
  obtain ⟨b0, b1, b2, b3, b4, b5, b6, b7, b8, b9, b10, b11, b12, b13, b14, b15, b16⟩ := facts17 hrb
  have hbw : Below w.heap.size w (w.alloc (.cells (litC x a p q).toArray 63)) := belowA (Below.refl _ _) _
  have HC := Lib.hid (insideT_any d x a p q _ (HX.out.keep hbw) Hsz.out)
  go_enter Tryz.func18, Tryz.ntmps18
  go_wp2_with fail
  refine HC.out.mono ?_
  rintro e w1 ⟨A1, c1, rfl, ho1, hb1⟩
  have hzw := hbw.size
  have hz1 := hb1.size
  have HC2 := Lib.hid (put_any w1.heap.size none 0 0 [] A1 (insideL x).length c1 (insideL x) w1 (Nat.le_refl _) rfl (World.ownsRow_nil _ _ _ _) (fun _ h => by cases h) (fun W hk hb => told_own (own_below ho1 hb) rfl (by have := Hsz.out; omega) (inside_ok HX.out)) (by have := Hsz.out; omega))
  clear HC ho1
  go_wp2_with fail
  refine HC2.out.mono ?_
  rintro e w2 ⟨A2, c2, rfl, ho2, -, hb2⟩
  have HPP : Hid (P (.returned (.slice A2 (putL [] (insideL x)).length c2)) w2) := by
    show P _ _
    rw [HP.out]
    exact ⟨A2, c2, rfl, own_down ho2 (by omega), below_next (below_next hbw hb1) hb2⟩
  clear HC2 ho2
  go_wp2_with fail
  exact HPP.out
end Go.Proofs.YtiffmiabhapfnaaGreatDoor
