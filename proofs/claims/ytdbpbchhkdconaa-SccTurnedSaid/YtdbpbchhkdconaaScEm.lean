/- The program's way of putting components out, in plain words: places, what is waited for, what is next. -/
import Derived.Test.YtdbpbchhkdconaaScDc
import Derived.Test.YtdbpbchhkdconaaMa1
import Derived.Test.YtdbpbchhkdconaaScOf
namespace Go.Proofs.Ytdbpbchhkdconaa
open Go.RowKit

theorem needsN_has {N : Nat} {l : List GEdge} (hr : rightG (N : Int) l = true) (a b : Nat) : b ∈ needsN (N : Int) l a ↔ hasN l a b = true := by
  unfold needsN needsG hasN hasL
  rw [if_pos hr, List.mem_map, List.any_eq_true]
  constructor
  · rintro ⟨x, hx, rfl⟩
    have h0 : 0 ≤ x := (needsG_in (n := (N : Int)) (l := l) (a := (a : Int)) (x := x) (by unfold needsG; rw [if_pos hr]; exact hx)).1
    rcases (needsF_mem (a : Int) l (-1) x).1 (.inl hx) with ⟨e, he, h1, h2⟩ | h
    · exact ⟨e, he, by simp [h1, h2]; omega⟩
    · omega
  · rintro ⟨e, he, h⟩
    simp only [Bool.and_eq_true, decide_eq_true_eq] at h
    refine ⟨(b : Int), ?_, by simp⟩
    rcases (needsF_mem (a : Int) l (-1) (b : Int)).2 (.inl ⟨e, he, h⟩) with h1 | h1
    · exact h1
    · omega
theorem right_in {N : Nat} {l : List GEdge} (hr : rightG (N : Int) l = true) : ∀ e ∈ l, withinE e (N : Int) = true := fun _ he => rightG_mem hr he

theorem ofG_spec (v : Nat) : ∀ (L : List (List Nat)) (i : Nat) (f : Nat → Nat), (∃ j c, L[j]? = some c ∧ v ∈ c ∧ ofG i L f v = i + j) ∨ ((∀ p ∈ L, v ∉ p) ∧ ofG i L f v = f v)
  | [], i, f => .inr ⟨fun p h => by simp at h, rfl⟩
  | p :: L, i, f => by
    rcases ofG_spec v L (i + 1) (asg f i p) with ⟨j, c, h1, h2, h3⟩ | ⟨h1, h2⟩
    · exact .inl ⟨j + 1, c, by simpa using h1, h2, by show ofG (i + 1) L (asg f i p) v = _; rw [h3]; omega⟩
    · by_cases hv : v ∈ p
      · exact .inl ⟨0, p, rfl, hv, by show ofG (i + 1) L (asg f i p) v = _; rw [h2]; simp [asg, hv]⟩
      · refine .inr ⟨fun q hq => ?_, by show ofG (i + 1) L (asg f i p) v = _; rw [h2]; simp [asg, hv]⟩
        rcases List.mem_cons.1 hq with rfl | hq
        · exact hv
        · exact h1 q hq
section
variable {N : Nat} {tog : Nat → Nat → Bool}
theorem classes_have (e : EqvN N tog) {a : Nat} (ha : a < N) : ∃ p ∈ classes N tog, a ∈ p := by
  obtain ⟨h, t, h1, h2, h3, h4, h5⟩ := cls_head e ha
  refine ⟨clsN N tog h, List.mem_map.2 ⟨h, List.mem_filter.2 ⟨List.mem_range.2 h2, h4⟩, rfl⟩, ?_⟩
  rw [h5]
  exact cls_mem.2 ⟨ha, e.refl a ha⟩
theorem place_classes (e : EqvN N tog) : PlaceOf N (classes N tog) (ofG 0 (classes N tog) (fun _ => 0)) := by
  intro v hv
  rcases ofG_spec v (classes N tog) 0 (fun _ => 0) with ⟨j, c, h1, h2, h3⟩ | ⟨h1, -⟩
  · exact ⟨c, by rw [h3, Nat.zero_add]; exact h1, h2⟩
  · obtain ⟨p, hp, hv2⟩ := classes_have e hv
    exact absurd hv2 (h1 p hp)
theorem classes_in {p : List Nat} (hp : p ∈ classes N tog) : ∀ x ∈ p, x < N := by
  intro x hx
  obtain ⟨a, -, rfl⟩ := List.mem_map.1 hp
  exact (cls_mem.1 hx).1
theorem find_at {α : Type} {p : α → Bool} : ∀ (L : List α) (i : Nat) (c : α), L[i]? = some c → p c = true → (∀ j c', j < i → L[j]? = some c' → p c' = false) → L.find? p = some c
  | [], i, c, h, _, _ => by simp at h
  | x :: L, 0, c, h, hp, _ => by simp at h; subst h; rw [List.find?_cons, hp]
  | x :: L, i + 1, c, h, hp, hn => by
    rw [List.find?_cons, hn 0 x (by omega) rfl]
    exact find_at L i c (by simpa using h) hp (fun j c' hj hc => hn (j + 1) c' (by omega) (by simpa using hc))
theorem comps_congr {edges : List (Nat × Nat)} (e : EqvN N tog) (he : ∀ x ∈ edges, x.1 < N ∧ x.2 < N) {f : Nat} {d d' : Nat → Bool} (h : Whole N tog d) (h' : Whole N tog d') (hd : ∀ a, a < N → d a = d' a) : compsF N edges tog f d = compsF N edges tog f d' := by
  rw [← emit_comps e he f d d' h (fun a ha => (hd a ha).symm), ← emit_comps e he f d' d' h' (fun a ha => rfl)]
end

section
variable {N : Nat} {l : List GEdge} {tg : Nat → Nat → Bool} {pl : Nat → Nat}
/-- what place j still waits for -/
def waitF (pl : Nat → Nat) (l : List GEdge) (em : Nat → Bool) (j v : Nat) : Nat := if em v then 0 else cntW pl j l v
theorem wait_none {em : Nat → Bool} {j : Nat} : (∀ v, waitF pl l em j v = 0) ↔ ∀ x ∈ eN l, pl x.1 = j → pl x.2 ≠ j → em (pl x.2) = true := by
  constructor
  · intro h x hx h1 h2
    obtain ⟨e, he, rfl⟩ := List.mem_map.1 hx
    have h3 := h (pl e.b.toNat)
    unfold waitF at h3
    split at h3
    · assumption
    · exact absurd (cntW_zero.1 h3 e he h1 rfl).symm h2
  · intro h v
    unfold waitF
    split
    · rfl
    · rename_i hv
      refine cntW_zero.2 fun e he h1 h2 => ?_
      by_cases h3 : j = v
      · exact h3
      · subst h2
        exact absurd (h _ (List.mem_map.2 ⟨e, he, rfl⟩) h1 (fun h4 => h3 h4.symm)) hv
theorem class_place (e : EqvN N tg) (hp : PlaceOf N (classes N tg) pl) {j : Nat} {c : List Nat} (hc : (classes N tg)[j]? = some c) : ∃ a, a < N ∧ c = clsN N tg a ∧ c.headD 0 = a ∧ pl a = j := by
  obtain ⟨a, h1, h2, h3, rfl⟩ := classes_at hc
  refine ⟨a, h2, rfl, cls_least e h2 h3, ?_⟩
  obtain ⟨c', h4, h5⟩ := hp a h2
  exact classes_one e h4 hc h5 (cls_mem.2 ⟨h2, e.refl a h2⟩)
theorem em_whole (e : EqvN N tg) (hp : PlaceOf N (classes N tg) pl) (em : Nat → Bool) : Whole N tg (fun v => em (pl v)) := fun a b ha hb h => by
  show em (pl a) = em (pl b)
  rw [(tog_place e hp ha hb).1 h]
/-- is class c next, in the program's words -/
theorem class_ready (e : EqvN N tg) (hp : PlaceOf N (classes N tg) pl) (hE : ∀ x ∈ eN l, x.1 < N ∧ x.2 < N) (em : Nat → Bool) {j : Nat} {c : List Nat} (hc : (classes N tg)[j]? = some c) :
    (!em (pl (c.headD 0)) && readyN (eN l) tg (fun v => em (pl v)) (c.headD 0)) = true ↔ em j = false ∧ ∀ v, waitF pl l em j v = 0 := by
  obtain ⟨a, ha, -, h1, h2⟩ := class_place e hp hc
  rw [h1, h2, Bool.and_eq_true, Bool.not_eq_true', wait_none, ready_place e hp hE (em := em) (fun v _ => rfl) ha, h2]
theorem next_none (e : EqvN N tg) (hp : PlaceOf N (classes N tg) pl) (hE : ∀ x ∈ eN l, x.1 < N ∧ x.2 < N) (em : Nat → Bool) (h : ∀ j, j < (classes N tg).length → ¬ (em j = false ∧ ∀ v, waitF pl l em j v = 0)) : nextN N (eN l) tg (fun v => em (pl v)) = none := by
  have h1 := next_class (p := fun a => !em (pl a) && readyN (eN l) tg (fun v => em (pl v)) a) e (ready_whole e hE (em_whole e hp em))
  have h2 : (classes N tg).find? (fun c => !em (pl (c.headD 0)) && readyN (eN l) tg (fun v => em (pl v)) (c.headD 0)) = none := by
    rw [List.find?_eq_none]
    intro c hc
    obtain ⟨j, hj⟩ := List.mem_iff_getElem?.1 hc
    exact fun hh => h j (List.getElem?_eq_some_iff.1 hj).1 ((class_ready e hp hE em hj).1 hh)
  rw [h2] at h1
  unfold nextN
  cases hf : (List.range N).find? (fun a => !em (pl a) && readyN (eN l) tg (fun v => em (pl v)) a) with
  | none => rfl
  | some a => rw [hf] at h1; cases h1
theorem next_some' (e : EqvN N tg) (hp : PlaceOf N (classes N tg) pl) (hE : ∀ x ∈ eN l, x.1 < N ∧ x.2 < N) (em : Nat → Bool) {i : Nat} {c : List Nat} (hc : (classes N tg)[i]? = some c) (hi : em i = false ∧ ∀ v, waitF pl l em i v = 0) (h : ∀ j, j < i → ¬ (em j = false ∧ ∀ v, waitF pl l em j v = 0)) :
    ∃ a, a < N ∧ nextN N (eN l) tg (fun v => em (pl v)) = some a ∧ clsN N tg a = c ∧ em (pl a) = false ∧ ∀ b, b < N → (em (pl b) || tg a b) = (em (pl b) || decide (pl b = i)) := by
  have h1 := next_class (p := fun a => !em (pl a) && readyN (eN l) tg (fun v => em (pl v)) a) e (ready_whole e hE (em_whole e hp em))
  have h2 : (classes N tg).find? (fun c => !em (pl (c.headD 0)) && readyN (eN l) tg (fun v => em (pl v)) (c.headD 0)) = some c := by
    refine find_at _ i c hc ((class_ready e hp hE em hc).2 hi) (fun j c' hj hc' => ?_)
    rw [Bool.eq_false_iff]
    exact fun hh => h j hj ((class_ready e hp hE em hc').1 hh)
  rw [h2] at h1
  cases hf : (List.range N).find? (fun a => !em (pl a) && readyN (eN l) tg (fun v => em (pl v)) a) with
  | none => rw [hf] at h1; cases h1
  | some a =>
    rw [hf] at h1
    have ha : a < N := List.mem_range.1 (List.mem_of_find?_eq_some hf)
    have hca : clsN N tg a = c := by simpa using h1.symm
    have hpa : pl a = i := by
      obtain ⟨c', h4, h5⟩ := hp a ha
      exact classes_one e h4 hc h5 (by rw [← hca]; exact cls_mem.2 ⟨ha, e.refl a ha⟩)
    refine ⟨a, ha, hf, hca, by rw [hpa]; exact hi.1, fun b hb => ?_⟩
    congr 1
    rw [Bool.eq_iff_iff, decide_eq_true_eq, tog_place e hp ha hb, hpa]
    exact eq_comm
/-- one more component is out -/
theorem comps_step (e : EqvN N tg) (hp : PlaceOf N (classes N tg) pl) (hE : ∀ x ∈ eN l, x.1 < N ∧ x.2 < N) (em : Nat → Bool) {i f : Nat} {c : List Nat} (hc : (classes N tg)[i]? = some c) (hi : em i = false ∧ ∀ v, waitF pl l em i v = 0) (h : ∀ j, j < i → ¬ (em j = false ∧ ∀ v, waitF pl l em j v = 0)) (hf : left N tg (fun v => em (pl v)) ≤ f) :
    ∃ f', f = f' + 1 ∧ left N tg (fun v => em (pl v) || decide (pl v = i)) ≤ f' ∧ compsF N (eN l) tg f (fun v => em (pl v)) = c :: compsF N (eN l) tg f' (fun v => em (pl v) || decide (pl v = i)) := by
  obtain ⟨a, ha, h1, h2, h3, h4⟩ := next_some' e hp hE em hc hi h
  have hl := left_less e (em_whole e hp em) ha h3
  have hw1 : Whole N tg (fun b => em (pl b) || tg a b) := (em_whole e hp em).with e ha
  have hw2 : Whole N tg (fun v => em (pl v) || decide (pl v = i)) := em_whole e hp (fun j => em j || decide (j = i))
  have hle : left N tg (fun v => em (pl v) || decide (pl v = i)) = left N tg (fun b => em (pl b) || tg a b) := by
    unfold left
    congr 1
    refine List.filter_congr fun x hx => ?_
    show (leastN tg x && !(em (pl x) || decide (pl x = i))) = (leastN tg x && !(em (pl x) || tg a x))
    rw [h4 x (List.mem_range.1 hx)]
  refine ⟨f - 1, by omega, by rw [hle]; omega, ?_⟩
  obtain ⟨f', rfl⟩ : ∃ f', f = f' + 1 := ⟨f - 1, by omega⟩
  rw [Nat.add_sub_cancel, compsF, h1]
  show clsN N tg a :: _ = _
  rw [h2, comps_congr e hE hw1 hw2 h4]
theorem comps_end (e : EqvN N tg) (hp : PlaceOf N (classes N tg) pl) (hE : ∀ x ∈ eN l, x.1 < N ∧ x.2 < N) (em : Nat → Bool) {f : Nat} (h : ∀ j, j < (classes N tg).length → ¬ (em j = false ∧ ∀ v, waitF pl l em j v = 0)) : compsF N (eN l) tg f (fun v => em (pl v)) = [] := by
  cases f with
  | zero => rfl
  | succ f => rw [compsF, next_none e hp hE em h]
end

/-! ### the parts, put in order -/
section
variable {N : Nat} {l : List GEdge} {outs : List (List Nat)} {σ : TS}
theorem parts_ne (hp : PartsOf outs σ.out) (h1 : TInv (needsN (N : Int) l) σ) : ∀ q ∈ outs, q ≠ [] := by
  intro q hq hh
  subst hh
  obtain ⟨i, hi⟩ := List.mem_iff_getElem?.1 hq
  have hil := (List.getElem?_eq_some_iff.1 hi).1
  have hpi := List.getElem?_eq_getElem (l := σ.out) (i := i) (by rw [← hp.1]; exact hil)
  have h2 := (hp.2 i [] _ hi hpi).1
  exact (h1.scc _ (List.mem_of_getElem? hpi)).1 (List.nil_perm.1 h2)
theorem parts_dis (hp : PartsOf outs σ.out) (h1 : TInv (needsN (N : Int) l) σ) (i j : Nat) (x y : List Nat) (hx : outs[i]? = some x) (hy : outs[j]? = some y) (hh : x.headD 0 = y.headD 0) : i = j := by
  have hne := parts_ne hp h1
  have hmem : ∀ q ∈ outs, q.headD 0 ∈ q := fun q hq => by
    cases q with
    | nil => exact absurd rfl (hne _ hq)
    | cons a t => simp
  have hm1 := hmem x (List.mem_of_getElem? hx)
  have hm2 := hmem y (List.mem_of_getElem? hy)
  rw [← hh] at hm2
  have hil := (List.getElem?_eq_some_iff.1 hx).1
  have hjl := (List.getElem?_eq_some_iff.1 hy).1
  have hi := List.getElem?_eq_getElem (l := σ.out) (i := i) (by rw [← hp.1]; exact hil)
  have hj := List.getElem?_eq_getElem (l := σ.out) (i := j) (by rw [← hp.1]; exact hjl)
  have k1 := ((hp.2 i x _ hx hi).1.mem_iff).1 hm1
  have k2 := ((hp.2 j y _ hy hj).1.mem_iff).1 hm2
  have hn := (List.pairwise_flatten.1 h1.nod).2
  rcases Nat.lt_trichotomy i j with h | h | h
  · exact absurd rfl (List.pairwise_iff_getElem.1 hn i j _ _ h _ k1 _ k2)
  · exact h
  · exact absurd rfl (List.pairwise_iff_getElem.1 hn j i _ _ h _ k2 _ k1)
theorem parts_sorted (hr : rightG (N : Int) l = true) (hp : PartsOf outs σ.out) (h1 : TInv (needsN (N : Int) l) σ) (h2 : TIn N σ) (h3 : σ.wrk = []) (h4 : ∀ v, v < N → σ.idx v ≠ 0) {L : List (List Nat)} (hperm : L.Perm outs) (hs : L.Pairwise (fun p q => p.headD 0 < q.headD 0)) :
    L = classes N (togN N (hasN l)) := by
  have hnod := (List.pairwise_flatten.1 h1.nod).1
  refine parts_classes (succ := needsN (N : Int) l) (fun x y h => (hasN_in (right_in hr) h).2) (fun a b => needsN_has hr a b) h1 h2 h3 h4 (fun q hq => ?_) (fun p hp2 => ?_) hs
  · obtain ⟨i, hi⟩ := List.mem_iff_getElem?.1 (hperm.mem_iff.1 hq)
    have hil := (List.getElem?_eq_some_iff.1 hi).1
    have hpi := List.getElem?_eq_getElem (l := σ.out) (i := i) (by rw [← hp.1]; exact hil)
    obtain ⟨k1, k2⟩ := hp.2 i q _ hi hpi
    have hqn : q.Nodup := k1.nodup_iff.2 (hnod _ (List.mem_of_getElem? hpi))
    refine ⟨(List.pairwise_and_iff.2 ⟨hqn, k2⟩).imp (fun {a b} h => by have := h.1; have := h.2; omega), _, List.mem_of_getElem? hpi, fun x => k1.mem_iff⟩
  · obtain ⟨i, hi⟩ := List.mem_iff_getElem?.1 hp2
    have hil := (List.getElem?_eq_some_iff.1 hi).1
    have hqi := List.getElem?_eq_getElem (l := outs) (i := i) (by rw [hp.1]; exact hil)
    exact ⟨_, hperm.mem_iff.2 (List.mem_of_getElem? hqi), fun x => (hp.2 i _ p hqi hi).1.mem_iff⟩
theorem classes_most (N : Nat) (tog : Nat → Nat → Bool) : (classes N tog).length ≤ N := by
  unfold classes
  rw [List.length_map]
  exact Nat.le_trans (List.length_filter_le ..) (by simp)
theorem len_flatten : ∀ (L : List (List Nat)), (∀ p ∈ L, p ≠ []) → L.length ≤ L.flatten.length
  | [], _ => Nat.le_refl _
  | p :: L, h => by
    have h1 := len_flatten L (fun q hq => h q (List.mem_cons_of_mem _ hq))
    have h2 : 0 < p.length := List.length_pos_iff.2 (h p (List.mem_cons_self ..))
    rw [List.flatten_cons, List.length_append, List.length_cons]
    omega
theorem parts_most (hp : PartsOf outs σ.out) (h1 : TInv (needsN (N : Int) l) σ) (h2 : TIn N σ) (h3 : σ.wrk = []) (h4 : ∀ v, v < N → σ.idx v ≠ 0) : outs.length ≤ N := by
  rw [hp.1]
  refine Nat.le_trans (len_flatten _ (fun p hp => (h1.scc p hp).1)) ?_
  exact nodup_lenN N _ h1.nod (fun x hx => (parts_all h1 h2 h3 h4 x).1 hx)
end
end Go.Proofs.Ytdbpbchhkdconaa
