/- My own texts Base, Open, Exp, Pgm, TFrame, ExpSize, as far as this claim needs them. -/
import Derived.Test.YtaeedepojpablaaGreatDoorZq8
set_option linter.unusedVariables false
set_option linter.unusedSimpArgs false
set_option maxRecDepth 1000000
set_option maxHeartbeats 16000000
namespace Go.Proofs.YtaeedepojpablaaGreatDoor
open Go.RowKit
section
variable {P : Program} {w : World} {b : Nat} {kvs : List (ByteArray × Value)}
end
def Enc.slice {α : Type} (E : Enc α) : Enc (List α) where
 sz := 1
 ok w B cs l := ∃ A n c, cs = [.slice A n c] ∧ SliceIs E w B A n c l
 mono hB hk := fun ⟨A, n, c, e, h⟩ => ⟨A, n, c, e, h.mono' hB hk⟩
 len := fun ⟨_, _, _, e, _⟩ => by rw [e]; rfl
def Enc.val : Enc GV where
 sz := 3
 ok _ _ cs x := cs = [.int .i64 x.k, .int .i64 x.n, .string x.s] ∧ x.ok
 mono _ _ h := h
 len h := by rw [h.1]; rfl
section
variable {w : World} {B : Nat} {A : Option Addr} {n c : Nat}
end
section
variable {P : Program} {w : World} {it g : Nat} {kvs done : List (ByteArray × Value)}
end
end Go.Proofs.YtaeedepojpablaaGreatDoor

namespace Go.Proofs.YtaeedepojpablaaGreatDoor
open Go.RowKit
def fieldsOf (P : Program) (t : TypeId) : List (TypeId × Nat × Nat) := match P.underlying t with
 | some (.struct fs) => fs.toList.map fun f => (f.type, f.offset, P.cellsOf f.type)
 | _ => []
theorem opens_int {P : Program} {t : TypeId} (h : P.underlying t = some (.int .i64)) : Opens P t Enc.int := by
 intro H enc w fuel cs x hx _; obtain ⟨n, rfl, _, hw⟩ := DataW.trod_int h hx; exact ⟨n, rfl, hw⟩
theorem choose_list {α : Type} {Q : Nat → α → Prop} : ∀ n : Nat, (∀ i, i < n → ∃ x, Q i x) → ∃ l : List α, l.length = n ∧ ∀ i x, l[i]? = some x → Q i x
 | 0, _ => ⟨[], rfl, fun i x h => by simp at h⟩
 | n + 1, h => by
   obtain ⟨l, hl, hq⟩ := choose_list n (fun i hi => h i (by omega)); obtain ⟨x, hx⟩ := h n (by omega); refine ⟨l ++ [x], by simp [hl], fun i y hy => ?_⟩; by_cases hi : i < l.length
   ·rw [List.getElem?_append_left hi] at hy; exact hq i y hy
   ·have hil : i < (l ++ [x]).length := (List.getElem?_eq_some_iff.1 hy).1; simp at hil
    obtain rfl : i = n := by omega
    rw [List.getElem?_append_right (by omega)] at hy; simp [hl] at hy
    exact hy ▸ hx
theorem weights_all {H : Type} {P : Program} {e : TypeId} {l : List (DataW H)} {d : DataW H} (h : d ∈ l) : ∀ n ∈ d.weights P e, n ∈ DataW.weightsAll P e l := by
 induction l with
 | nil => cases h
 | cons a l ih =>
   intro n hn; simp only [DataW.weightsAll, List.mem_append]; rcases List.mem_cons.1 h with rfl | h
   ·exact .inl hn
   ·exact .inr (ih h n hn)
theorem opens_slice {α : Type} {P : Program} {t e : TypeId} {E : Enc α} (h : P.underlying t = some (.slice e)) (he : Opens P e E) (hc : P.cellsOf e = E.sz) (hz : 0 < E.sz) (hb : 0 < P.bytesOf e) : Opens P t (Enc.slice E) := by
 intro H enc w fuel cs x hx hwt; rcases Go.Deep.open_slice h hx with ⟨rfl, _⟩ | ⟨a, len, cap, m, n, D, Pl, rfl, _, hl, hm, hmm, rfl, hi⟩
 ·exact ⟨[], none, 0, 0, rfl, SliceIs.nil⟩
 ·simp only [if_true] at hmm; subst hmm; have hw0 := hwt ((len + (m - len)) * P.bytesOf e) (by simp [DataW.weights, h])
  have hle : len ≤ reachN := by
   rw [reach_eq] at hw0; have : len + (m - len) ≤ (len + (m - len)) * P.bytesOf e := Nat.le_mul_of_pos_right _ hb; omega
  obtain ⟨l, hll, hq⟩ := choose_list (Q := fun i y => ∃ cs', w.cells? 0 (a.add (i * P.cellsOf e)) (P.cellsOf e) = some cs' ∧ E.ok w w.heap.size cs' y) len (fun i hil => by
   obtain ⟨cs', h1, h2⟩ := hi i (by omega)
   obtain ⟨y, hy⟩ := he H enc w n cs' _ h2 (fun q hq => hwt q (by
    simp only [DataW.weights, h, List.mem_cons, List.mem_append]
    exact .inr (.inl (weights_all (List.mem_map.2 ⟨i, List.mem_range.2 hil, rfl⟩) q hq))))
   exact ⟨y, cs', h1, hy⟩)
  refine ⟨l, some a, len, m, rfl, hll, hl, hm, hle, ?_⟩; by_cases h0 : len = 0
  ·exact .inl (List.eq_nil_of_length_eq_zero (by omega))
  ·right
   have hcell : ∀ i y, l[i]? = some y → ∃ cs', E.ok w w.heap.size cs' y ∧ ∀ j v, cs'[j]? = some v → w.cell? (a.add (i * E.sz + j)) = some v := by
    intro i y hy; obtain ⟨cs', h1, h2⟩ := hq i y hy; refine ⟨cs', h2, fun j v hj => ?_⟩; obtain ⟨_, hcl, hat⟩ := World.cells?_some h1; have hjl : j < P.cellsOf e := by rw [← hcl]; exact (List.getElem?_eq_some_iff.1 hj).1
    have := hat j hjl; rw [hj, Go.Deep.add_add, hc] at this; exact this
   have hex : ∃ y, l[0]? = some y := by
    rw [List.getElem?_eq_getElem (by omega)]; exact ⟨_, rfl⟩
   obtain ⟨y, hy⟩ := hex; obtain ⟨cs', h1, h2⟩ := hcell 0 y hy; have hlen := E.len h1
   obtain ⟨v, hv⟩ : ∃ v, cs'[0]? = some v := by
    rw [List.getElem?_eq_getElem (by omega)]; exact ⟨_, rfl⟩
   have hc0 := h2 0 v hv; obtain ⟨b, off, spot⟩ := a; obtain rfl : spot = none := by simpa [Addr.add] using World.cell?_spot hc0
   refine ⟨b, off, rfl, ?_, fun i y hy => ?_⟩
   ·exact World.block_lt_of_cell? w _ (by simpa [Addr.add] using hc0)
   ·obtain ⟨cs', h1, h2⟩ := hcell i y hy; refine ⟨cs', h1, fun j v hj => ?_⟩; have h3 := h2 j v hj; rw [Nat.add_assoc]; unfold Addr.add at h3; split at h3
    ·rename_i h0
     rw [h0]; exact h3
    ·exact h3
theorem open_fields {H : Type} {enc : TypeId × Value → H} {P : Program} {w : World} {t : TypeId} {fuel : Nat} {cs : List Value} {x : DataW H × List MemPlace} {fl : List (TypeId × Nat × Nat)} (hf : fieldsOf P t = fl) (h0 : fl ≠ [])
 (hx : DataW.trod enc P w 0 (fun _ => true) true fuel t cs = some x) (hwt : ∀ n ∈ x.1.weights P t, n ≤ reachBytes) :
 cs.length = P.cellsOf t ∧ ∀ (j : Nat) (f : TypeId × Nat × Nat), fl[j]? = some f → ∃ y n, DataW.trod enc P w 0 (fun _ => true) true n f.1 ((cs.drop f.2.1).take f.2.2) = some y ∧ ∀ n ∈ y.1.weights P f.1, n ≤ reachBytes := by
 unfold fieldsOf at hf; split at hf
 ·rename_i fs hs
  obtain ⟨xs, n, _, rfl, hl, hlen, hat⟩ := DataW.trod_struct hs hx; refine ⟨hl, fun j f hj => ?_⟩; subst hf; rw [List.getElem?_map, Option.map_eq_some_iff] at hj; obtain ⟨fd, hfd, rfl⟩ := hj; have hfd' : fs[j]? = some fd := by simpa using hfd
  have h1 := hat j fd hfd'; have hjl : j < fs.size := (glt hfd')
  have hxj : xs[j]? = some (xs[j]'(by omega)) := List.getElem?_eq_getElem (by omega); refine ⟨_, n, h1.trans hxj, fun q hq => hwt q ?_⟩; simp only [DataW.weights, hs]; exact DataW.weights_mem_each (j := j) (t := fd.type) (d := (xs[j]'(by omega)).1) (by simp [hfd']) (by simp [hxj]) q hq
 ·exact absurd hf.symm h0
theorem opens_val {P : Program} {t a b c : TypeId} (hf : fieldsOf P t = [(a, 0, 1), (b, 1, 1), (c, 2, 1)]) (hz : P.cellsOf t = 3) (ha : P.underlying a = some (.int .i64)) (hb : P.underlying b = some (.int .i64)) (hc : P.underlying c = some .string) : Opens P t Enc.val := by
 intro H enc w fuel cs x hx hwt; obtain ⟨hl, hat⟩ := open_fields hf (by simp) hx hwt; rw [hz] at hl; match cs, hl with
 | [u0, u1, u2], _ =>
   obtain ⟨y, n, h, hw⟩ := hat 0 _ rfl; obtain ⟨k, e0, f0⟩ := opens_int ha _ _ _ _ _ _ h hw; obtain ⟨y, n, h, hw⟩ := hat 1 _ rfl; obtain ⟨i, e1, f1⟩ := opens_int hb _ _ _ _ _ _ h hw; obtain ⟨y, n, h, hw⟩ := hat 2 _ rfl; obtain ⟨s, e2, f2⟩ := opens_str hc _ _ _ _ _ _ h hw; simp at e0 e1 e2
   subst e0 e1 e2; exact ⟨⟨k, i, s⟩, rfl, f0, f1, f2⟩
theorem opens_told {P : Program} {t a b : TypeId} (hf : fieldsOf P t = [(a, 0, 1), (b, 1, 3)]) (hz : P.cellsOf t = 4) (ha : P.underlying a = some .string) (hb : Opens P b Enc.val) : Opens P t Enc.told := by
 intro H enc w fuel cs x hx hwt; obtain ⟨hl, hat⟩ := open_fields hf (by simp) hx hwt; rw [hz] at hl; match cs, hl with
 | [u0, u1, u2, u3], _ =>
   obtain ⟨y, n, h, hw⟩ := hat 0 _ rfl; obtain ⟨s, e0, f0⟩ := opens_str ha _ _ _ _ _ _ h hw; obtain ⟨y, n, h, hw⟩ := hat 1 _ rfl; obtain ⟨v, e1, f1⟩ := hb _ _ _ _ _ _ h hw; simp at e0 e1
   obtain ⟨rfl, rfl, rfl⟩ := e1; subst e0; exact ⟨⟨s, v⟩, rfl, f0, f1⟩
end Go.Proofs.YtaeedepojpablaaGreatDoor

namespace Go.Proofs.YtaeedepojpablaaGreatDoor
open Go.RowKit
def OpensB {α : Type} (N : Nat) (P : Program) (t : TypeId) (E : Enc α) : Prop :=
 ∀ (H : Type) (enc : TypeId × Value → H) (w : World) (fuel : Nat) (cs : List Value) (x : DataW H × List MemPlace), fuel ≤ N →
   DataW.trod enc P w 0 (fun _ => true) true fuel t cs = some x → (∀ n ∈ x.1.weights P t, n ≤ reachBytes) → ∃ y : α, E.ok w w.heap.size cs y
theorem opensB_slice {α : Type} {N : Nat} {P : Program} {t e : TypeId} {E : Enc α} (h : P.underlying t = some (.slice e)) (he : OpensB N P e E) (hc : P.cellsOf e = E.sz) (hz : 0 < E.sz) (hb : 0 < P.bytesOf e) : OpensB (N + 1) P t (Enc.slice E) := by
 intro H enc w fuel cs x hfu hx hwt; rcases DataW.trod_slice h hx with ⟨rfl, _⟩ | ⟨a, len, cap, elems, rest, n, rfl, rfl, rfl, -, hl, hm, hel, hi, -, -⟩
 ·exact ⟨[], none, 0, 0, rfl, SliceIs.nil⟩
 ·have hw0 := hwt ((elems.length + rest.length) * P.bytesOf e) (by simp [DataW.weights, h])
  have hle : len ≤ reachN := by
   rw [reach_eq] at hw0; have : elems.length + rest.length ≤ (elems.length + rest.length) * P.bytesOf e := Nat.le_mul_of_pos_right _ hb; omega
  obtain ⟨l, hll, hq⟩ := choose_list (Q := fun i y => ∃ cs', w.cells? 0 (a.add (i * P.cellsOf e)) (P.cellsOf e) = some cs' ∧ E.ok w w.heap.size cs' y) len (fun i hil => by
   have h1 := hi i hil; rw [List.getElem?_eq_getElem (by omega)] at h1; obtain ⟨cs', h2, h3⟩ := Option.bind_eq_some_iff.1 h1
   obtain ⟨y, hy⟩ := he H enc w n cs' _ (by omega) h3 (fun q hq => hwt q (by
    simp only [DataW.weights, h, List.mem_cons, List.mem_append]
    exact .inr (.inl (weights_all (List.mem_map.2 ⟨elems[i]'(by omega), List.getElem_mem _, rfl⟩) q hq))))
   exact ⟨y, cs', h2, hy⟩)
  refine ⟨l, some a, len, cap, rfl, hll, hl, hm, hle, ?_⟩; by_cases h0 : len = 0
  ·exact .inl (List.eq_nil_of_length_eq_zero (by omega))
  ·right
   have hcell : ∀ i y, l[i]? = some y → ∃ cs', E.ok w w.heap.size cs' y ∧ ∀ j v, cs'[j]? = some v → w.cell? (a.add (i * E.sz + j)) = some v := by
    intro i y hy; obtain ⟨cs', h1, h2⟩ := hq i y hy; refine ⟨cs', h2, fun j v hj => ?_⟩; obtain ⟨_, hcl, hat⟩ := World.cells?_some h1; have hjl : j < P.cellsOf e := by rw [← hcl]; exact (List.getElem?_eq_some_iff.1 hj).1
    have := hat j hjl; rw [hj, Go.Deep.add_add, hc] at this; exact this
   have hex : ∃ y, l[0]? = some y := by
    rw [List.getElem?_eq_getElem (by omega)]; exact ⟨_, rfl⟩
   obtain ⟨y, hy⟩ := hex; obtain ⟨cs', h1, h2⟩ := hcell 0 y hy; have hlen := E.len h1
   obtain ⟨v, hv⟩ : ∃ v, cs'[0]? = some v := by
    rw [List.getElem?_eq_getElem (by omega)]; exact ⟨_, rfl⟩
   have hc0 := h2 0 v hv; obtain ⟨b, off, spot⟩ := a; obtain rfl : spot = none := by simpa [Addr.add] using World.cell?_spot hc0
   refine ⟨b, off, rfl, ?_, fun i y hy => ?_⟩
   ·exact World.block_lt_of_cell? w _ (by simpa [Addr.add] using hc0)
   ·obtain ⟨cs', h1, h2⟩ := hcell i y hy; refine ⟨cs', h1, fun j v hj => ?_⟩; have h3 := h2 j v hj; rw [Nat.add_assoc]; unfold Addr.add at h3; split at h3
    ·rename_i h0
     rw [h0]; exact h3
    ·exact h3
theorem open_fieldsB {H : Type} {enc : TypeId × Value → H} {P : Program} {w : World} {t : TypeId} {fuel : Nat} {cs : List Value} {x : DataW H × List MemPlace} {fl : List (TypeId × Nat × Nat)} (hf : fieldsOf P t = fl) (h0 : fl ≠ [])
 (hx : DataW.trod enc P w 0 (fun _ => true) true fuel t cs = some x) (hwt : ∀ n ∈ x.1.weights P t, n ≤ reachBytes) :
 cs.length = P.cellsOf t ∧ ∃ n, fuel = n + 1 ∧ ∀ (j : Nat) (f : TypeId × Nat × Nat), fl[j]? = some f → ∃ y, DataW.trod enc P w 0 (fun _ => true) true n f.1 ((cs.drop f.2.1).take f.2.2) = some y ∧ ∀ n ∈ y.1.weights P f.1, n ≤ reachBytes := by
 unfold fieldsOf at hf; split at hf
 ·rename_i fs hs
  obtain ⟨xs, n, rfl, rfl, hl, hlen, hat⟩ := DataW.trod_struct hs hx; refine ⟨hl, n, rfl, fun j f hj => ?_⟩; subst hf; rw [List.getElem?_map, Option.map_eq_some_iff] at hj; obtain ⟨fd, hfd, rfl⟩ := hj; have hfd' : fs[j]? = some fd := by simpa using hfd
  have h1 := hat j fd hfd'; have hjl : j < fs.size := (glt hfd')
  have hxj : xs[j]? = some (xs[j]'(by omega)) := List.getElem?_eq_getElem (by omega); refine ⟨_, h1.trans hxj, fun q hq => hwt q ?_⟩; simp only [DataW.weights, hs]; exact DataW.weights_mem_each (j := j) (t := fd.type) (d := (xs[j]'(by omega)).1) (by simp [hfd']) (by simp [hxj]) q hq
 ·exact absurd hf.symm h0
theorem opens_exp {P : Program} {t a b c : TypeId} (hf : fieldsOf P t = [(a, 0, 1), (b, 1, 4), (c, 5, 1)]) (hz : P.cellsOf t = 6) (hby : 0 < P.bytesOf t) (ha : P.underlying a = some (.int .i64)) (hb : Opens P b Enc.told) (hc : P.underlying c = some (.slice t)) :
 ∀ N, OpensB N P t (Enc.exp (N + 1))
 | 0 => fun H enc w fuel cs x hfu hx _ => by
   obtain rfl : fuel = 0 := by omega
   simp [DataW.trod] at hx
 | N + 1 => by
   have ih := opens_exp hf hz hby ha hb hc N; have ihs := opensB_slice hc ih (by rw [hz, Enc.exp_sz]) (by rw [Enc.exp_sz]; omega) hby; intro H enc w fuel cs x hfu hx hwt; obtain ⟨hl, n, rfl, hat⟩ := open_fieldsB hf (by simp) hx hwt; rw [hz] at hl; match cs, hl with
   | [u0, u1, u2, u3, u4, u5], _ =>
     obtain ⟨y, h, hw⟩ := hat 0 _ rfl; obtain ⟨k, e0, f0⟩ := opens_int ha _ _ _ _ _ _ h hw; obtain ⟨y, h, hw⟩ := hat 1 _ rfl; obtain ⟨tt, e1, f1, f2⟩ := hb _ _ _ _ _ _ h hw; obtain ⟨y, h, hw⟩ := hat 2 _ rfl; obtain ⟨ks, A, m, d, e2, f3⟩ := ihs _ _ _ _ _ _ (by omega) h hw; simp at e0 e1 e2
     obtain ⟨rfl, rfl, rfl, rfl⟩ := e1; subst e0 e2; exact ⟨.mk k tt ks, A, m, d, rfl, f0, f1, f2, f3⟩
end Go.Proofs.YtaeedepojpablaaGreatDoor

namespace Go.Proofs.YtaeedepojpablaaGreatDoor
open Go.RowKit
section
variable {w : World} {B : Nat} {A : Option Addr} {n c d : Nat}
end
theorem OpensB.down {α : Type} {N M : Nat} {P : Program} {t : TypeId} {E : Enc α} (h : OpensB N P t E) (hM : M ≤ N) : OpensB M P t E := fun H enc w fuel cs x hf hx hw => h H enc w fuel cs x (by omega) hx hw
theorem opensB_slice' {α : Type} {N : Nat} {P : Program} {t e : TypeId} {E : Enc α} (h : P.underlying t = some (.slice e)) (he : OpensB N P e E) (hc : P.cellsOf e = E.sz) (hz : 0 < E.sz) (hb : 0 < P.bytesOf e) : OpensB N P t (Enc.slice E) :=
 (opensB_slice h he hc hz hb).down (Nat.le_succ _)
theorem opens_atomF {H : Type} {enc : TypeId × Value → H} {P : Program} {w : World} {t a b : TypeId} {fuel : Nat} {cs : List Value} {x : DataW H × List MemPlace} (hf : fieldsOf P t = [(a, 0, 1), (b, 1, 1)]) (hz : P.cellsOf t = 2) (ha : P.underlying a = some .string) (hb : Opens P b (Enc.slice Enc.told))
 (hx : DataW.trod enc P w 0 (fun _ => true) true fuel t cs = some x) (hwt : ∀ n ∈ x.1.weights P t, n ≤ reachBytes) : ∃ (y : GAtom) (h : Hd), cs = [.string y.rel, h.v] ∧ y.rel.size ≤ reachN ∧ SliceIs Enc.told w w.heap.size h.A h.n h.c y.args := by
 obtain ⟨hl, n, rfl, hat⟩ := open_fieldsB hf (by simp) hx hwt; rw [hz] at hl; match cs, hl with
 | [u0, u1], _ =>
   obtain ⟨y, h, hw⟩ := hat 0 _ rfl; obtain ⟨s, e0, f0⟩ := opens_str ha _ _ _ _ _ _ h hw; obtain ⟨y, h, hw⟩ := hat 1 _ rfl; obtain ⟨ks, A, m, d, e1, f1⟩ := hb _ _ _ _ _ _ h hw; simp at e0 e1
   subst e0 e1; exact ⟨⟨s, ks⟩, ⟨A, m, d⟩, rfl, f0, f1⟩
theorem opens_lit {N d : Nat} {P : Program} {t k at_ o e s al : TypeId} (hf : fieldsOf P t = [(k, 0, 1), (at_, 1, 2), (o, 3, 1), (e, 4, 6), (e, 10, 6), (o, 16, 1)]) (hz : P.cellsOf t = 17) (hk : P.underlying k = some (.int .i64)) (ho : P.underlying o = some (.int .i64))
 (hfa : fieldsOf P at_ = [(s, 0, 1), (al, 1, 1)]) (hza : P.cellsOf at_ = 2) (hs : P.underlying s = some .string) (hal : Opens P al (Enc.slice Enc.told)) (he : OpensB N P e (Enc.exp (d + 1))) : OpensB N P t (Enc.lit d) := by
 intro H enc w fuel cs x hfu hx hwt; obtain ⟨hl, n, rfl, hat⟩ := open_fieldsB hf (by simp) hx hwt; rw [hz] at hl; match cs, hl with
 | [u0, u1, u2, u3, u4, u5, u6, u7, u8, u9, u10, u11, u12, u13, u14, u15, u16], _ =>
   obtain ⟨y, h, hw⟩ := hat 0 _ rfl; obtain ⟨i0, e0, f0⟩ := opens_int hk _ _ _ _ _ _ h hw; obtain ⟨y, h, hw⟩ := hat 1 _ rfl; obtain ⟨ga, ha, e1, f1, f2⟩ := opens_atomF hfa hza hs hal h hw; obtain ⟨y, h, hw⟩ := hat 2 _ rfl; obtain ⟨i3, e3, f3⟩ := opens_int ho _ _ _ _ _ _ h hw; obtain ⟨y, h, hw⟩ := hat 3 _ rfl; obtain ⟨x4, A4, m4, d4, e4, f4, g4, h4, k4⟩ := he _ _ _ _ _ _ (by omega) h hw; obtain ⟨y, h, hw⟩ := hat 4 _ rfl; obtain ⟨x5, A5, m5, d5, e5, f5, g5, h5, k5⟩ := he _ _ _ _ _ _ (by omega) h hw; obtain ⟨y, h, hw⟩ := hat 5 _ rfl; obtain ⟨i6, e6, f6⟩ := opens_int ho _ _ _ _ _ _ h hw; simp at e0 e1 e3 e4 e5 e6
   obtain ⟨rfl, rfl⟩ := e1; obtain ⟨rfl, rfl, rfl, rfl, rfl, rfl⟩ := e4; obtain ⟨rfl, rfl, rfl, rfl, rfl, rfl⟩ := e5; subst e0 e3 e6; exact ⟨⟨i0, ga, i3, x4, x5, i6⟩, ha, ⟨A4, m4, d4⟩, ⟨A5, m5, d5⟩, rfl, ⟨f0, f3, f6, f1, f2, f4, g4, h4, k4, f5, g5, h5, k5⟩⟩
theorem opens_rule {N d : Nat} {P : Program} {t at_ o lt s al : TypeId} (hf : fieldsOf P t = [(at_, 0, 2), (o, 2, 1), (o, 3, 1), (lt, 4, 1), (o, 5, 1)]) (hz : P.cellsOf t = 6) (ho : P.underlying o = some (.int .i64))
 (hfa : fieldsOf P at_ = [(s, 0, 1), (al, 1, 1)]) (hza : P.cellsOf at_ = 2) (hs : P.underlying s = some .string) (hal : Opens P al (Enc.slice Enc.told)) (hl : OpensB N P lt (Enc.slice (Enc.lit d))) : OpensB N P t (Enc.rule d) := by
 intro H enc w fuel cs x hfu hx hwt; obtain ⟨hlen, n, rfl, hat⟩ := open_fieldsB hf (by simp) hx hwt; rw [hz] at hlen; match cs, hlen with
 | [u0, u1, u2, u3, u4, u5], _ =>
   obtain ⟨y, h, hw⟩ := hat 0 _ rfl; obtain ⟨ga, ha, e1, f1, f2⟩ := opens_atomF hfa hza hs hal h hw; obtain ⟨y, h, hw⟩ := hat 1 _ rfl; obtain ⟨i2, e2, f3⟩ := opens_int ho _ _ _ _ _ _ h hw; obtain ⟨y, h, hw⟩ := hat 2 _ rfl; obtain ⟨i3, e3, f4⟩ := opens_int ho _ _ _ _ _ _ h hw; obtain ⟨y, h, hw⟩ := hat 3 _ rfl; obtain ⟨ls, A, m, c, e4, f5⟩ := hl _ _ _ _ _ _ (by omega) h hw; obtain ⟨y, h, hw⟩ := hat 4 _ rfl; obtain ⟨i5, e5, f6⟩ := opens_int ho _ _ _ _ _ _ h hw; simp at e1 e2 e3 e4 e5
   obtain ⟨rfl, rfl⟩ := e1; subst e2 e3 e4 e5; exact ⟨⟨ga, i2, i3, ls, i5⟩, ha, ⟨A, m, c⟩, rfl, ⟨f1, f2, f3, f4, f5, f6⟩⟩
theorem opens_decl {P : Program} {t s k o : TypeId} (hf : fieldsOf P t = [(s, 0, 1), (k, 1, 1), (o, 2, 1)]) (hz : P.cellsOf t = 3) (hs : P.underlying s = some .string) (hk : Opens P k (Enc.slice Enc.int)) (ho : P.underlying o = some (.int .i64)) : Opens P t Enc.decl := by
 intro H enc w fuel cs x hx hwt; obtain ⟨hlen, n, rfl, hat⟩ := open_fieldsB hf (by simp) hx hwt; rw [hz] at hlen; match cs, hlen with
 | [u0, u1, u2], _ =>
   obtain ⟨y, h, hw⟩ := hat 0 _ rfl; obtain ⟨s0, e0, f0⟩ := opens_str hs _ _ _ _ _ _ h hw; obtain ⟨y, h, hw⟩ := hat 1 _ rfl; obtain ⟨ks, A, m, c, e1, f1⟩ := hk _ _ _ _ _ _ h hw; obtain ⟨y, h, hw⟩ := hat 2 _ rfl; obtain ⟨i2, e2, f2⟩ := opens_int ho _ _ _ _ _ _ h hw; simp at e0 e1 e2
   subst e0 e1 e2; exact ⟨⟨s0, ks, i2⟩, ⟨A, m, c⟩, rfl, ⟨f0, f1, f2⟩⟩
def Enc.prog (d : Nat) : Enc GProg where
 sz := 2
 ok := fun w B cs x => ∃ a b : Hd, cs = [a.v, b.v] ∧ ProgAt d w B x a b
 mono := fun hB hk ⟨a, b, h1, h2⟩ => ⟨a, b, h1, ⟨h2.decls.mono' hB hk, h2.rules.mono' hB hk⟩⟩
 len := fun ⟨_, _, h, _⟩ => by rw [h]; rfl
theorem opens_prog {N d : Nat} {P : Program} {t a b : TypeId} (hf : fieldsOf P t = [(a, 0, 1), (b, 1, 1)]) (hz : P.cellsOf t = 2) (ha : Opens P a (Enc.slice Enc.decl)) (hb : OpensB N P b (Enc.slice (Enc.rule d))) : OpensB N P t (Enc.prog d) := by
 intro H enc w fuel cs x hfu hx hwt; obtain ⟨hlen, n, rfl, hat⟩ := open_fieldsB hf (by simp) hx hwt; rw [hz] at hlen; match cs, hlen with
 | [u0, u1], _ =>
   obtain ⟨y, h, hw⟩ := hat 0 _ rfl; obtain ⟨ds, A, m, c, e0, f0⟩ := ha _ _ _ _ _ _ h hw; obtain ⟨y, h, hw⟩ := hat 1 _ rfl; obtain ⟨rs, A', m', c', e1, f1⟩ := hb _ _ _ _ _ _ (by omega) h hw; simp at e0 e1
   subst e0 e1; exact ⟨⟨ds, rs⟩, ⟨A, m, c⟩, ⟨A', m', c'⟩, rfl, ⟨f0, f1⟩⟩
end Go.Proofs.YtaeedepojpablaaGreatDoor

namespace Go.Proofs.YtaeedepojpablaaGreatDoor
open Go.RowKit Go.WideShapes
theorem open_encB {α : Type} {E : Nat → Enc α} {H : Type} {enc : TypeId × Value → H} {P : Program} {w : World} {t : TypeId} {v : Value} {d : DataW H} {p : List MemPlace} {r : Reach} {b0 : Nat} (hs : ∃ fs, P.underlying t = some (.struct fs)) (ho : ∀ N, OpensB N P t (E N))
 (hval : Value.okWide P w r b0 t v) (h : DataW.Trod enc P w 0 (fun _ => true) true t v d p) (hwt : ∀ n ∈ d.weights P t, n ≤ reachBytes) : ∃ (N : Nat) (x : α) (cs : List Value), v = .agg cs.toArray ∧ (E N).ok w w.heap.size cs x := by
 obtain ⟨fs, hs⟩ := hs; obtain ⟨cs, rfl, hsz⟩ := okWide_struct hs hval; obtain ⟨fuel, hx⟩ := h; obtain ⟨y, hy⟩ := ho fuel _ _ _ fuel _ _ (Nat.le_refl _) hx hwt; obtain ⟨cs⟩ := cs; exact ⟨fuel, y, cs, rfl, by simpa [Value.cells] using hy⟩
theorem o_val2 : Opens Tryz.prog 73 Enc.val := opens_val (a := 47) (b := 3) (c := 9) (by kernel_rfl) (by kernel_rfl) Tryz.underlying47 Tryz.underlying3 Tryz.underlying9
theorem o_term : Opens Tryz.prog 75 Enc.told := opens_told (a := 9) (b := 73) (by kernel_rfl) (by kernel_rfl) Tryz.underlying9 o_val2
theorem o_exp (N : Nat) : OpensB N Tryz.prog 78 (Enc.exp (N + 1)) := opens_exp (a := 3) (b := 75) (c := 76) (by kernel_rfl) (by kernel_rfl) (of_decide_eq_true (by kernel_rfl)) Tryz.underlying3 o_term Tryz.underlying76 N
theorem o_terms : Opens Tryz.prog 51 (Enc.slice Enc.told) := opens_slice Tryz.underlying51 o_term (by kernel_rfl) (by show 0 < _; decide) (of_decide_eq_true (by kernel_rfl))
theorem o_lit (N : Nat) : OpensB N Tryz.prog 80 (Enc.lit N) := opens_lit (k := 71) (at_ := 53) (o := 3) (e := 78) (s := 9) (al := 51) (by kernel_rfl) (by kernel_rfl) Tryz.underlying71 Tryz.underlying3 (by kernel_rfl) (by kernel_rfl) Tryz.underlying9 o_terms (o_exp N)
theorem o_lits (N : Nat) : OpensB N Tryz.prog 54 (Enc.slice (Enc.lit N)) := opensB_slice' Tryz.underlying54 (o_lit N) (by show _ = 17; kernel_rfl) (show 0 < 17 by decide) (of_decide_eq_true (by kernel_rfl))
theorem o_rule (N : Nat) : OpensB N Tryz.prog 56 (Enc.rule N) := opens_rule (at_ := 53) (o := 3) (lt := 54) (s := 9) (al := 51) (by kernel_rfl) (by kernel_rfl) Tryz.underlying3 (by kernel_rfl) (by kernel_rfl) Tryz.underlying9 o_terms (o_lits N)
theorem o_rules (N : Nat) : OpensB N Tryz.prog 24 (Enc.slice (Enc.rule N)) := opensB_slice' Tryz.underlying24 (o_rule N) (by show _ = 6; kernel_rfl) (show 0 < 6 by decide) (of_decide_eq_true (by kernel_rfl))
theorem o_kind : Opens Tryz.prog 47 Enc.int := opens_int Tryz.underlying47
theorem o_kinds : Opens Tryz.prog 40 (Enc.slice Enc.int) := opens_slice Tryz.underlying40 o_kind (by kernel_rfl) (by show 0 < _; decide) (of_decide_eq_true (by kernel_rfl))
theorem o_decl : Opens Tryz.prog 94 Enc.decl := opens_decl (s := 9) (k := 40) (o := 3) (by kernel_rfl) (by kernel_rfl) Tryz.underlying9 o_kinds Tryz.underlying3
theorem o_decls : Opens Tryz.prog 23 (Enc.slice Enc.decl) := opens_slice Tryz.underlying23 o_decl (by kernel_rfl) (by show 0 < _; decide) (of_decide_eq_true (by kernel_rfl))
theorem o_prog (N : Nat) : OpensB N Tryz.prog 26 (Enc.prog N) := opens_prog (a := 23) (b := 24) (by kernel_rfl) (by kernel_rfl) o_decls (o_rules N)
theorem u_prog : ∃ fs, Tryz.prog.underlying 26 = some (.struct fs) := ⟨_, Tryz.underlying26⟩
end Go.Proofs.YtaeedepojpablaaGreatDoor

namespace Go.Proofs.YtaeedepojpablaaGreatDoor
open Go.RowKit
mutual
def szE : GExp → Int → Int
 | .mk _ t ks, left => szL ks (left - (1 + (((t.x.size + t.v.s.size) / 50 : Nat) : Int)))
def szL : List GExp → Int → Int
 | [], l => l
 | k :: ks, l => if l < 0 then -1 else szL ks (szE k l)
end
theorem szE_def (e : GExp) (l : Int) : szE e l = szL e.kids (l - (1 + (((e.t.x.size + e.t.v.s.size) / 50 : Nat) : Int))) := by
 cases e; rw [szE]; rfl
mutual
theorem szE_le : ∀ (e : GExp) (l : Int), 0 ≤ l → szE e l ≤ l
 | .mk _ t ks, l, h => by
   rw [szE]; have := szL_le ks (l - (1 + (((t.x.size + t.v.s.size) / 50 : Nat) : Int))); omega
theorem szL_le : ∀ (ks : List GExp) (l : Int), szL ks l ≤ max l (-1)
 | [], l => by rw [szL]; omega
 | k :: ks, l => by
   rw [szL]; split
   ·omega
   ·have h1 := szE_le k l (by omega); have h2 := szL_le ks (szE k l); omega
end
theorem exp_any : ∀ (d : Nat) (e : GExp) (A : Option Addr) (n c : Nat) (left : Int) (w : World), SliceIs (Enc.exp d) w w.heap.size A n c e.kids → e.t.x.size ≤ reachN → e.t.v.s.size ≤ reachN → -1000000000000000 ≤ left → left ≤ 100000 →
 Calls Tryz.prog 68 #[expV e A n c, .int .i64 left] w (RetInt (szE e left) w) := by
 intro d; induction d using Nat.strongRecOn with
 | ind d ih =>
   intro e A n c left w hk hx hs h0 h1; have IH := hZ9 ih; have hn := hk.bound; have HK := hZ9 hk; have Hlen := hZ9 hk.1; obtain ⟨R, HR⟩ : ∃ R, Hid (R = szE e left) := ⟨_, rfl⟩
   rw [← HR.out]; have hx' : e.t.x.size ≤ 140737488351232 := hx; have hs' : e.t.v.s.size ≤ 140737488351232 := hs; obtain ⟨c0, hc0, hc1⟩ : ∃ c0 : Nat, ((e.t.x.size : Int) + (e.t.v.s.size : Int)).tdiv 50 = (c0 : Int) ∧ c0 = (e.t.x.size + e.t.v.s.size) / 50 := ⟨(e.t.x.size + e.t.v.s.size) / 50, by rw [Int.tdiv_eq_ediv_of_nonneg (by omega)]; omega, rfl⟩
   have HR2 : Hid (R = szL (e.kids.drop 0) (left - (1 + (c0 : Int)))) := by
    show _ = _; rw [HR.out, szE_def, hc1]; rfl
   have hc2 : c0 ≤ 281474976710656 := by omega
   have hrb : (w.alloc (.cells #[.int .i64 e.op, .string e.t.x, .int .i64 e.t.v.k, .int .i64 e.t.v.n, .string e.t.v.s, .slice A n c] 78)).heap[w.heap.size]? = some (.cells #[.int .i64 e.op, .string e.t.x, .int .i64 e.t.v.k, .int .i64 e.t.v.n, .string e.t.v.s, .slice A n c] 78 (0, 0)) := heapNew rfl; have b1 : (w.alloc (.cells #[.int .i64 e.op, .string e.t.x, .int .i64 e.t.v.k, .int .i64 e.t.v.n, .string e.t.v.s, .slice A n c] 78)).cell? ⟨w.heap.size, 1, none⟩ = some (.string e.t.x) := (cell_of_row _ _ 1 _ _ _ hrb).trans rfl; have b4 : (w.alloc (.cells #[.int .i64 e.op, .string e.t.x, .int .i64 e.t.v.k, .int .i64 e.t.v.n, .string e.t.v.s, .slice A n c] 78)).cell? ⟨w.heap.size, 4, none⟩ = some (.string e.t.v.s) := (cell_of_row _ _ 4 _ _ _ hrb).trans rfl; have b5 : (w.alloc (.cells #[.int .i64 e.op, .string e.t.x, .int .i64 e.t.v.k, .int .i64 e.t.v.n, .string e.t.v.s, .slice A n c] 78)).cell? ⟨w.heap.size, 5, none⟩ = some (.slice A n c) := (cell_of_row _ _ 5 _ _ _ hrb).trans rfl; have hb0 : Below w.heap.size w (w.alloc (.cells #[.int .i64 e.op, .string e.t.x, .int .i64 e.t.v.k, .int .i64 e.t.v.n, .string e.t.v.s, .slice A n c] 78)) := belowA (Below.refl _ _) _; clear ih hk hrb hc1 HR; go_enter Tryz.func68, Tryz.ntmps68
   go_wp2_with fail
   go_loopw [1, 6, 24] (fun lv _ i wr => ∃ (j : Nat) (l : Int), j ≤ n ∧ i = .int .i64 j ∧ lv = .int .i64 l ∧ l ≤ 100000 ∧ Hid (R = szL (e.kids.drop j) l) ∧ Below w.heap.size w wr) (fun _ _ i _ => n - (intOf i).toNat)
   case atStart => exact ⟨0, left - (1 + (c0 : Int)), by omega, rfl, by go_num, by omega, HR2, hb0⟩
   case round =>
    obtain ⟨j, l, hj, rfl, rfl, hl, HRj, hbr⟩ := hrel; have i0 : (0 : Int) ≤ (j : Int) := by omega
    by_cases hlt : j < n
    ·have i1 : (j : Int) < (n : Int) := by omega
     obtain ⟨b, o, k, A', n', c', d', rfl, hb, hk', hd, x0, x1, x2, x3, x4, x5, -, f1, f2, hkk⟩ := (HK.out.below hbr).exp_at hlt
     have HRk : Hid (R = if l < 0 then -1 else szL (e.kids.drop (j + 1)) (szE k l)) := by
      show _ = _; rw [HRj.out]; obtain ⟨g1, g2⟩ := List.getElem?_eq_some_iff.1 hk'.out; rw [List.drop_eq_getElem_cons g1, g2, szL]
     by_cases hneg : l < 0
     ·have HR1 : Hid (R = -1) := by show _ = _; rw [HRk.out, if_pos hneg]
      clear HRk HRj hk' hd; go_wp2_with fail
      go_ret; exact ⟨by rw [HR1.out]; rfl, belowA hbr _⟩
     ·have HR1 : Hid (R = szL (e.kids.drop (j + 1)) (szE k l)) := by show _ = _; rw [HRk.out, if_neg hneg]
      have hle := szE_le k l (by omega); have hba : Below w.heap.size w (wr.alloc (.cells #[.int .i64 k.op, .string k.t.x, .int .i64 k.t.v.k, .int .i64 k.t.v.n, .string k.t.v.s, .slice A' n' c'] 78)) := belowA hbr _; have HC := hZ9 (IH.out d' (by omega) k A' n' c' l (wr.alloc (.cells #[.int .i64 k.op, .string k.t.x, .int .i64 k.t.v.k, .int .i64 k.t.v.n, .string k.t.v.s, .slice A' n' c'] 78)) (hkk.mono hba.size (fun bb hbb => (belowA (Below.refl _ _) _).block bb (by have := hbr.size; omega))) f1 f2.2.2 (by omega) hl); generalize szE k l = lk at *; clear HRk HRj hk' hd; go_wp2_with fail
      refine HC.out.mono ?_; rintro e2 w2 ⟨rfl, hb2⟩; go_wp2_with fail
      go_roundw
      case rel => exact ⟨j + 1, lk, by omega, by go_num, rfl, by omega, HR1, below_next hba hb2⟩
      case measure => simp [intOf]; omega
    ·have i1 : ¬ (j : Int) < (n : Int) := by omega
     have HR1 : Hid (R = l) := by
      show _ = _; rw [HRj.out, List.drop_eq_nil_of_le (by rw [Hlen.out]; omega), szL]
     clear HRj; go_wp2_with fail
     go_ret; exact ⟨by rw [HR1.out]; rfl, hbr⟩
end Go.Proofs.YtaeedepojpablaaGreatDoor
