/- My own texts DgB8, DgGr, DgOpen, DgWk, DgWs, as far as this claim needs them. -/
import Derived.Test.YtgphngjniplonaaGreatDoorZp31
import Derived.Test.YtgphngjniplonaaGreatDoorZpd3
import Derived.Lib.Walk
set_option linter.unusedVariables false
set_option linter.unusedSimpArgs false
set_option maxRecDepth 1000000
set_option maxHeartbeats 16000000
namespace Go.Proofs.YtgphngjniplonaaGreatDoor
def lexN : List Nat → List Nat → Prop
  | x :: l, y :: m => x < y ∨ (x = y ∧ lexN l m)
  | _, _ => False
theorem lexN_irr : ∀ l, ¬ lexN l l
  | [], h => h
  | x :: l, h => by
    rcases h with h | ⟨_, h⟩
    · omega
    · exact lexN_irr l h
theorem lexN_tr : ∀ {a b c : List Nat}, lexN a b → lexN b c → lexN a c
  | [], _, _, h, _ => h.elim
  | _ :: _, [], _, h, _ => h.elim
  | _ :: _, _ :: _, [], _, k => k.elim
  | x :: a, y :: b, z :: c, h, k => by
    rcases h with h | ⟨h, h'⟩ <;> rcases k with k | ⟨k, k'⟩
    · exact .inl (by omega)
    · exact .inl (by omega)
    · exact .inl (by omega)
    · exact .inr ⟨by omega, lexN_tr h' k'⟩
theorem lexN_app : ∀ {a b : List Nat} (p q : List Nat), lexN a b → lexN (a ++ p) (b ++ q)
  | [], _, _, _, h => h.elim
  | _ :: _, [], _, _, h => h.elim
  | x :: a, y :: b, p, q, h => by
    rcases h with h | ⟨h, h'⟩
    · exact .inl h
    · exact .inr ⟨h, lexN_app p q h'⟩
theorem lexN_same : ∀ (a : List Nat) {p q : List Nat}, lexN p q → lexN (a ++ p) (a ++ q)
  | [], _, _, h => h
  | _ :: a, _, _, h => .inr ⟨rfl, lexN_same a h⟩
def bef (l m : List Nat) : Prop := l.length < m.length ∨ (l.length = m.length ∧ lexN l m)
def leW (l m : List Nat) : Prop := l = m ∨ bef l m
theorem bef_tr {a b c : List Nat} (h : bef a b) (k : bef b c) : bef a c := by
  rcases h with h | ⟨h, h'⟩ <;> rcases k with k | ⟨k, k'⟩
  · exact .inl (by omega)
  · exact .inl (by omega)
  · exact .inl (by omega)
  · exact .inr ⟨by omega, lexN_tr h' k'⟩
theorem bef_irr (a : List Nat) : ¬ bef a a := by
  rintro (h | ⟨_, h⟩)
  · omega
  · exact lexN_irr a h
theorem leW_tr {a b c : List Nat} (h : leW a b) (k : leW b c) : leW a c := by
  rcases h with rfl | h
  · exact k
  · rcases k with rfl | k
    · exact .inr h
    · exact .inr (bef_tr h k)
theorem leW_one {a b : List Nat} (h : leW a b) (k : leW b a) : a = b := by
  rcases h with h | h
  · exact h
  · rcases k with k | k
    · exact k.symm
    · exact absurd (bef_tr h k) (bef_irr a)
theorem bef_snoc {a b : List Nat} (x y : Nat) (h : bef a b) : bef (a ++ [x]) (b ++ [y]) := by
  rcases h with h | ⟨h, h'⟩
  · exact .inl (by simp; exact h)
  · exact .inr ⟨by simp [h], lexN_app _ _ h'⟩
theorem bef_last (a : List Nat) {x y : Nat} (h : x < y) : bef (a ++ [x]) (a ++ [y]) := .inr ⟨by simp, lexN_same a (.inl h)⟩
theorem leW_snoc {a b : List Nat} (y : Nat) (h : leW a b) : leW (a ++ [y]) (b ++ [y]) := by
  rcases h with rfl | h
  · exact .inl rfl
  · exact .inr (bef_snoc y y h)
section
variable {has : Nat → Nat → Bool} {n : Nat}
structure PInv (has : Nat → Nat → Bool) (n : Nat) (ps : List (List Nat)) (k : Nat) (ds : List Nat) : Prop where
  way : ∀ p ∈ ps, p ≠ [] ∧ IsWay has n p
  inc : ([] :: ps).Pairwise bef
  frm : ∀ p ∈ ps, ∃ j q y, ([] :: ps)[j]? = some q ∧ p = q ++ [y] ∧ (j < k ∨ (j = k ∧ y ∈ ds))
  clo : ∀ j < k, ∀ q, ([] :: ps)[j]? = some q → ∀ y, has (wayEnd n q) y = true → ∃ p ∈ ps, wayEnd n p = y ∧ leW p (q ++ [y])
  cur : ∀ q, ([] :: ps)[k]? = some q → ∀ y ∈ ds, ∃ p ∈ ps, wayEnd n p = y ∧ leW p (q ++ [y])
theorem PInv.start : PInv has n [] 0 [] where
  way p h := by cases h
  inc := by simp
  frm p h := by cases h
  clo j h := by omega
  cur q _ y h := by cases h
theorem PInv.lt {ps : List (List Nat)} {k : Nat} {ds : List Nat} (h : PInv has n ps k ds) {i j : Nat} {p q : List Nat} (hij : i < j) (hp : ([] :: ps)[i]? = some p) (hq : ([] :: ps)[j]? = some q) : bef p q := by
  obtain ⟨h1, rfl⟩ := List.getElem?_eq_some_iff.1 hp
  obtain ⟨h2, rfl⟩ := List.getElem?_eq_some_iff.1 hq
  exact List.pairwise_iff_getElem.1 h.inc i j h1 h2 hij
theorem PInv.skip {ps : List (List Nat)} {k y : Nat} {ds : List Nat} {q : List Nat} (h : PInv has n ps k ds) (hq : ([] :: ps)[k]? = some q) {p : List Nat} (hp : p ∈ ps) (hy : wayEnd n p = y) : PInv has n ps k (ds ++ [y]) where
  way := h.way
  inc := h.inc
  frm p' hp' := by
    obtain ⟨j, q', y', h1, h2, h3⟩ := h.frm p' hp'
    refine ⟨j, q', y', h1, h2, ?_⟩
    rcases h3 with h3 | ⟨h3, h4⟩
    · exact .inl h3
    · exact .inr ⟨h3, List.mem_append_left _ h4⟩
  clo := h.clo
  cur q' hq' z hz := by
    rw [hq] at hq'
    obtain rfl : q = q' := by injection hq'
    rcases List.mem_append.1 hz with h1 | h1
    · exact h.cur q hq z h1
    · obtain rfl := List.mem_singleton.1 h1
      refine ⟨p, hp, hy, ?_⟩
      obtain ⟨j, q', y', e1, rfl, h3⟩ := h.frm p hp
      have hyy : y' = z := by rw [wayEnd_append] at hy; exact hy
      subst hyy
      rcases h3 with h3 | ⟨h3, -⟩
      · exact .inr (bef_snoc _ _ (h.lt h3 e1 hq))
      · subst h3
        rw [hq] at e1
        obtain rfl : q = q' := by injection e1
        exact .inl rfl
theorem PInv.add {ps : List (List Nat)} {k y : Nat} {ds : List Nat} {q : List Nat} (h : PInv has n ps k ds) (hq : ([] :: ps)[k]? = some q) (hqw : IsWay has n q) (hxy : has (wayEnd n q) y = true) (hup : ∀ z ∈ ds, z < y) : PInv has n (ps ++ [q ++ [y]]) k (ds ++ [y]) := by
  have hget : ∀ {j : Nat} {p : List Nat}, ([] :: ps)[j]? = some p → ([] :: (ps ++ [q ++ [y]]))[j]? = some p := fun {j p} hj => by
    rw [show [] :: (ps ++ [q ++ [y]]) = ([] :: ps) ++ [q ++ [y]] from rfl, List.getElem?_append_left (List.getElem?_eq_some_iff.1 hj).1]
    exact hj
  have hold : ∀ {j : Nat} {p : List Nat}, j ≤ k → ([] :: (ps ++ [q ++ [y]]))[j]? = some p → ([] :: ps)[j]? = some p := fun {j p} hjk hj => by
    rw [show [] :: (ps ++ [q ++ [y]]) = ([] :: ps) ++ [q ++ [y]] from rfl, List.getElem?_append_left (by have := (List.getElem?_eq_some_iff.1 hq).1; omega)] at hj
    exact hj
  refine ⟨?_, ?_, ?_, ?_, ?_⟩
  · intro p hp
    rcases List.mem_append.1 hp with h1 | h1
    · exact h.way p h1
    · rw [List.mem_singleton.1 h1]
      exact ⟨by simp, (isWay_append _ _ _).2 ⟨hqw, hxy, trivial⟩⟩
  · rw [show [] :: (ps ++ [q ++ [y]]) = ([] :: ps) ++ [q ++ [y]] from rfl, List.pairwise_append]
    refine ⟨h.inc, by simp, fun p hp p' hp' => ?_⟩
    rw [List.mem_singleton.1 hp']
    rcases List.mem_cons.1 hp with rfl | hp
    · exact .inl (by simp)
    · obtain ⟨j, q', y', h1, rfl, h3⟩ := h.frm p hp
      rcases h3 with h3 | ⟨h3, h4⟩
      · exact bef_snoc _ _ (h.lt h3 h1 hq)
      · subst h3
        rw [hq] at h1
        obtain rfl : q = q' := by injection h1
        exact bef_last q (hup y' h4)
  · intro p hp
    rcases List.mem_append.1 hp with h1 | h1
    · obtain ⟨j, q', y', h1, h2, h3⟩ := h.frm p h1
      refine ⟨j, q', y', hget h1, h2, ?_⟩
      rcases h3 with h3 | ⟨h3, h4⟩
      · exact .inl h3
      · exact .inr ⟨h3, List.mem_append_left _ h4⟩
    · rw [List.mem_singleton.1 h1]
      exact ⟨k, q, y, hget hq, rfl, .inr ⟨rfl, by simp⟩⟩
  · intro j hj q' hq' z hz
    obtain ⟨p, h1, h2, h3⟩ := h.clo j hj q' (hold (by omega) hq') z hz
    exact ⟨p, List.mem_append_left _ h1, h2, h3⟩
  · intro q' hq' z hz
    have hq'' := hold (Nat.le_refl _) hq'
    rw [hq] at hq''
    obtain rfl : q = q' := by injection hq''
    rcases List.mem_append.1 hz with h1 | h1
    · obtain ⟨p, h1, h2, h3⟩ := h.cur q hq z h1
      exact ⟨p, List.mem_append_left _ h1, h2, h3⟩
    · obtain rfl := List.mem_singleton.1 h1
      exact ⟨q ++ [z], List.mem_append_right _ (by simp), by rw [wayEnd_append]; rfl, .inl rfl⟩
theorem PInv.next {ps : List (List Nat)} {k : Nat} {ds : List Nat} {q : List Nat} (h : PInv has n ps k ds) (hq : ([] :: ps)[k]? = some q) (hd : ∀ y, has (wayEnd n q) y = true → y ∈ ds) : PInv has n ps (k + 1) [] where
  way := h.way
  inc := h.inc
  frm p hp := by
    obtain ⟨j, q', y', h1, h2, h3⟩ := h.frm p hp
    exact ⟨j, q', y', h1, h2, .inl (by rcases h3 with h3 | ⟨h3, _⟩ <;> omega)⟩
  clo j hj q' hq' y hy := by
    by_cases hjk : j < k
    · exact h.clo j hjk q' hq' y hy
    · obtain rfl : j = k := by omega
      rw [hq] at hq'
      obtain rfl : q = q' := by injection hq'
      exact h.cur q hq y (hd y hy)
  cur q _ y hy := by cases hy
theorem PInv.least {ps : List (List Nat)} {k : Nat} (h : PInv has n ps k []) (hk : ps.length < k) : ∀ (m : Nat) (l : List Nat), l.length = m + 1 → IsWay has n l → ∃ p ∈ ps, wayEnd n p = wayEnd n l ∧ leW p l
  | m, l, hl, hw => by
    have hne : l ≠ [] := by intro e; rw [e] at hl; simp at hl
    have hsp := List.dropLast_concat_getLast hne
    rw [← hsp] at hw
    rw [isWay_append] at hw
    have hend : wayEnd n l = l.getLast hne := by
      conv => lhs; rw [← hsp]
      rw [wayEnd_append]
      rfl
    have hxy : has (wayEnd n l.dropLast) (l.getLast hne) = true := hw.2.1
    cases m with
    | zero =>
      have hd : l.dropLast = [] := List.length_eq_zero_iff.1 (by simp [hl])
      rw [hd] at hxy
      obtain ⟨p, h1, h2, h3⟩ := h.clo 0 (by omega) [] rfl (l.getLast hne) hxy
      refine ⟨p, h1, by rw [h2, hend], ?_⟩
      rw [hd] at hsp
      rw [← hsp]
      exact h3
    | succ m =>
      obtain ⟨q, h1, h2, h3⟩ := PInv.least h hk m l.dropLast (by simp [hl]) hw.1
      obtain ⟨i, hi⟩ := List.mem_iff_getElem?.1 h1
      have hi' : ([] :: ps)[i + 1]? = some q := hi
      have hlt : i + 1 < k := by have := (List.getElem?_eq_some_iff.1 hi).1; omega
      obtain ⟨p, k1, k2, k3⟩ := h.clo (i + 1) hlt q hi' (l.getLast hne) (by rw [h2]; exact hxy)
      refine ⟨p, k1, by rw [k2, hend], leW_tr k3 ?_⟩
      have := leW_snoc (l.getLast hne) h3
      rwa [hsp] at this
end
end Go.Proofs.YtgphngjniplonaaGreatDoor
namespace Go.Proofs.YtgphngjniplonaaGreatDoor
section
variable {N : Nat} {has : Nat → Nat → Bool}
theorem far_spec (hN : ∀ x y, has x y = true → y < N) {a b d : Nat} (ha : a < N) (h : farN N has a b = d + 1) : (∃ l, l.length = d + 1 ∧ IsWay has a l ∧ wayEnd a l = b) ∧ ∀ l, l ≠ [] → IsWay has a l → wayEnd a l = b → d + 1 ≤ l.length := by
  unfold farN at h
  cases hf : (List.range N).find? fun k => stepsN N has a (k + 1) b with
  | none => rw [hf] at h; simp at h
  | some k =>
    rw [hf] at h
    have hk : k = d := by simpa using h
    subst hk
    rw [List.find?_range_eq_some] at hf
    obtain ⟨h1, h2, h3⟩ := hf
    refine ⟨(steps_iff hN ha (k + 1) b).1 h1, fun l hne hw he => ?_⟩
    by_cases hlt : l.length < k + 1
    · exfalso
      have hpos : 0 < l.length := List.length_pos_iff.2 hne
      have := h3 (l.length - 1) (by omega)
      rw [(steps_iff hN ha _ b).2 ⟨l, by omega, hw, he⟩] at this
      simp at this
    · omega
theorem far_way (hN : ∀ x y, has x y = true → y < N) {a b : Nat} (ha : a < N) {l : List Nat} (hne : l ≠ []) (hw : IsWay has a l) (he : wayEnd a l = b) : 0 < farN N has a b ∧ farN N has a b ≤ l.length := by
  have h0 : 0 < farN N has a b := (far_pos hN ha).2 ⟨l, hne, hw, he⟩
  obtain ⟨d, hd⟩ : ∃ d, farN N has a b = d + 1 := ⟨farN N has a b - 1, by omega⟩
  exact ⟨h0, by rw [hd]; exact (far_spec hN ha hd).2 l hne hw he⟩
def greedy (N : Nat) (has : Nat → Nat → Bool) (b : Nat) : Nat → Nat → List Nat
  | 0, _ => []
  | 1, _ => [b]
  | d + 2, a => match (List.range N).find? (fun x => has a x && decide (farN N has x b = d + 1)) with
    | some x => x :: greedy N has b (d + 1) x
    | none => []
theorem leW_cons {x : Nat} {a b : List Nat} (h : leW a b) : leW (x :: a) (x :: b) := by
  rcases h with rfl | h | ⟨h, h'⟩
  · exact .inl rfl
  · exact .inr (.inl (by simp; exact h))
  · exact .inr (.inr ⟨by simp [h], .inr ⟨rfl, h'⟩⟩)
theorem greedy_least (hN : ∀ x y, has x y = true → y < N) {b : Nat} : ∀ (d a : Nat), a < N → farN N has a b = d + 1 →
    ((greedy N has b (d + 1) a).length = d + 1 ∧ IsWay has a (greedy N has b (d + 1) a) ∧ wayEnd a (greedy N has b (d + 1) a) = b) ∧ ∀ l, l ≠ [] → IsWay has a l → wayEnd a l = b → leW (greedy N has b (d + 1) a) l
  | 0, a, ha, hf => by
    obtain ⟨⟨l, h1, h2, h3⟩, hmin⟩ := far_spec hN ha hf
    have hone : ∀ l : List Nat, l.length = 1 → wayEnd a l = b → l = [b] := fun l hl he => by
      match l, hl with
      | [x], _ => exact congrArg (fun z => [z]) he
    have hl := hone l h1 h3
    subst hl
    refine ⟨⟨rfl, h2, rfl⟩, fun l hne hw he => ?_⟩
    by_cases hlen : l.length = 1
    · exact .inl (hone l hlen he).symm
    · have : 0 < l.length := List.length_pos_iff.2 hne
      exact .inr (.inl (by show 1 < l.length; omega))
  | d + 1, a, ha, hf => by
    obtain ⟨⟨l0, h1, h2, h3⟩, hmin⟩ := far_spec hN ha hf
    -- the node behind the first one of a shortest way
    have hstep : ∀ (x : Nat) (l : List Nat), (x :: l).length = d + 1 + 1 → IsWay has a (x :: l) → wayEnd a (x :: l) = b → has a x = true ∧ farN N has x b = d + 1 ∧ x < N := by
      intro x l hl hw he
      have hx : x < N := hN _ _ hw.1
      have hne : l ≠ [] := by intro e; rw [e] at hl; simp at hl
      obtain ⟨k1, k2⟩ := far_way hN hx hne hw.2 he
      refine ⟨hw.1, ?_, hx⟩
      obtain ⟨e, he'⟩ : ∃ e, farN N has x b = e + 1 := ⟨farN N has x b - 1, by omega⟩
      obtain ⟨⟨l', j1, j2, j3⟩, -⟩ := far_spec hN hx he'
      have := hmin (x :: l') (by simp) ⟨hw.1, j2⟩ j3
      simp at this hl
      omega
    have hne0 : l0 ≠ [] := by intro e; rw [e] at h1; simp at h1
    obtain ⟨x0, t0, rfl⟩ := List.exists_cons_of_ne_nil hne0
    obtain ⟨k1, k2, k3⟩ := hstep x0 t0 h1 h2 h3
    have hsome : ((List.range N).find? (fun x => has a x && decide (farN N has x b = d + 1))).isSome = true := by
      rw [List.find?_isSome]
      exact ⟨x0, by simpa using k3, by simp [k1, k2]⟩
    obtain ⟨x, hx⟩ := Option.isSome_iff_exists.1 hsome
    have hg : greedy N has b (d + 1 + 1) a = x :: greedy N has b (d + 1) x := by
      show (match (List.range N).find? (fun x => has a x && decide (farN N has x b = d + 1)) with
        | some x => x :: greedy N has b (d + 1) x
        | none => []) = _
      rw [hx]
    rw [List.find?_range_eq_some] at hx
    obtain ⟨hp, hxN, hfirst⟩ := hx
    rw [List.mem_range] at hxN
    simp only [Bool.and_eq_true, decide_eq_true_eq] at hp
    obtain ⟨⟨i1, i2, i3⟩, ih⟩ := greedy_least hN d x hxN hp.2
    rw [hg]
    refine ⟨⟨by simp [i1], ⟨hp.1, i2⟩, i3⟩, fun l hne hw he => ?_⟩
    have hle := hmin l hne hw he
    by_cases hlen : l.length = d + 1 + 1
    · obtain ⟨y, t, rfl⟩ := List.exists_cons_of_ne_nil hne
      obtain ⟨m1, m2, m3⟩ := hstep y t hlen hw he
      rcases Nat.lt_trichotomy x y with hxy | hxy | hxy
      · exact .inr (.inr ⟨by simp at hlen; simp [i1, hlen], .inl hxy⟩)
      · subst hxy
        exact leW_cons (ih t (by intro e; rw [e] at hlen; simp at hlen) hw.2 he)
      · have := hfirst y hxy
        simp [m1, m2] at this
    · exact .inr (.inl (by simp [i1]; omega))
theorem path_one (hN : ∀ x y, has x y = true → y < N) {n b d : Nat} (hn : n < N) (hf : farN N has n b = d + 1) {ps : List (List Nat)} {k : Nat} (h : PInv has n ps k []) (hk : ps.length < k) {p : List Nat} (hp : p ∈ ps) (hpb : wayEnd n p = b) (hone : ∀ q ∈ ps, wayEnd n q = b → q = p) : p = greedy N has b (d + 1) n := by
  obtain ⟨⟨g1, g2, g3⟩, gmin⟩ := greedy_least hN d n hn hf
  obtain ⟨q, q1, q2, q3⟩ := h.least hk d _ g1 g2
  rw [hone q q1 (q2.trans g3)] at q3
  exact leW_one q3 (gmin p (h.way p hp).1 (h.way p hp).2 hpb)
end
end Go.Proofs.YtgphngjniplonaaGreatDoor
namespace Go.Proofs.YtgphngjniplonaaGreatDoor
section
variable {has : Nat → Nat → Bool} {n : Nat}
theorem last_snoc (a : Nat) (q : List Nat) (y : Nat) : wayEnd a (q ++ [y]) = y := by rw [wayEnd_append]; rfl
theorem PInv.inner {ps : List (List Nat)} {k : Nat} (h : PInv has n ps k []) (hk : ps.length < k) (hu : ∀ p ∈ ps, ∀ q ∈ ps, wayEnd n p = wayEnd n q → p = q) {q : List Nat} {y : Nat} (hp : q ++ [y] ∈ ps) (hq : q ≠ []) : wayEnd n q ≠ n := by
  intro e
  have hw := (h.way _ hp).2
  rw [isWay_append, e] at hw
  obtain ⟨p', h1, h2, h3⟩ := h.least hk 0 [y] rfl hw.2
  have hpp : p' = q ++ [y] := hu p' h1 _ hp (by rw [h2, last_snoc]; rfl)
  rw [hpp] at h3
  have hl : 0 < q.length := List.length_pos_iff.2 hq
  rcases h3 with h3 | h3 | ⟨h3, -⟩
  · have := congrArg List.length h3; simp at this; exact hq this
  · simp at h3
  · simp at h3; exact hq h3
theorem PInv.pre {ps : List (List Nat)} {k : Nat} {ds : List Nat} (h : PInv has n ps k ds) {q : List Nat} {y : Nat} (hp : q ++ [y] ∈ ps) : q = [] ∨ q ∈ ps := by
  obtain ⟨j, q', y', h1, h2, -⟩ := h.frm _ hp
  have : q = q' := by
    have := List.append_inj' h2 rfl
    exact this.1
  subst this
  rcases List.mem_cons.1 (List.mem_of_getElem? h1) with h3 | h3
  · exact .inl h3
  · exact .inr h3
end
end Go.Proofs.YtgphngjniplonaaGreatDoor

namespace Go.Proofs.YtgphngjniplonaaGreatDoor
open Go.RowKit
def tN (n : Int) (l : List GEdge) : Int := if rightG n l = true then n else 0
def tE (n : Int) (l : List GEdge) : List GEdge := if rightG n l = true then putsE (turnL l) else []
theorem turnedAll_any (n : Int) (A : Option Addr) (m c : Nat) (l : List GEdge) (w : World) (h : SliceIs Enc.edge w w.heap.size A m c l) (hm : m ≤ 10000) :
    Calls Tryz.prog 17 #[graphV n A m c] w (fun e w' => ∃ A' k c', e = .returned (graphV (tN n l) A' k c') ∧ SliceIs Enc.edge w' w'.heap.size A' k c' (tE n l) ∧ Below w.heap.size w w') := by
  cases hr : rightG n l with
  | true =>
    refine (turned_any n A m c l w h hm hr).mono ?_
    rintro e w' ⟨A', k, c', rfl, hs, hb⟩
    refine ⟨A', k, c', ?_, ?_, hb⟩
    · unfold tN; rw [if_pos hr]
    · unfold tE; rw [if_pos hr, ← cp_puts]; exact hs
  | false =>
    refine (turned_bad n A m c l w h hr).mono ?_
    rintro e w' ⟨rfl, hb⟩
    refine ⟨none, 0, 0, ?_, ?_, hb⟩
    · unfold tN; rw [if_neg (by rw [hr]; decide)]
    · unfold tE; rw [if_neg (by rw [hr]; decide)]; exact SliceIs.nil
end Go.Proofs.YtgphngjniplonaaGreatDoor

namespace Go.Proofs.YtgphngjniplonaaGreatDoor
open Go.ChangeShapes Go.WideShapes Go.ChangeAt Go.RowKit
set_option linter.unusedVariables false
theorem opens_edge {P : Program} {t a b c : TypeId} (hf : fieldsOf P t = [(a, 0, 1), (b, 1, 1), (c, 2, 1)]) (hz : P.cellsOf t = 3) (ha : P.underlying a = some (.int .i64)) (hb : P.underlying b = some (.int .i64)) (hc : P.underlying c = some .bool) : Opens P t Enc.edge := by
  intro H enc w fuel cs x hx hwt
  obtain ⟨hl, hat⟩ := open_fields hf (by simp) hx hwt
  rw [hz] at hl
  match cs, hl with
  | [u0, u1, u2], _ =>
    obtain ⟨y, n, h, hw⟩ := hat 0 _ rfl
    obtain ⟨k, e0, f0⟩ := opens_int ha _ _ _ _ _ _ h hw
    obtain ⟨y, n, h, hw⟩ := hat 1 _ rfl
    obtain ⟨i, e1, f1⟩ := opens_int hb _ _ _ _ _ _ h hw
    obtain ⟨y, n, h, hw⟩ := hat 2 _ rfl
    obtain ⟨s, e2, _⟩ := DataW.trod_bool hc h
    simp at e0 e1 e2
    subst e0 e1 e2
    exact ⟨⟨k, i, s⟩, rfl, f0, f1⟩
theorem o_edge : Opens Tryz.prog 71 Enc.edge := opens_edge (a := 3) (b := 3) (c := 4) (by kernel_rfl) (by kernel_rfl) (by kernel_rfl) (by kernel_rfl) (by kernel_rfl)
theorem u_edges : Tryz.prog.underlying 29 = some (.slice 71) := by kernel_rfl
theorem o_edges : Opens Tryz.prog 29 (Enc.slice Enc.edge) := opens_slice u_edges o_edge (by kernel_rfl) (by decide) (of_decide_eq_true (by kernel_rfl))
theorem open_graphG {H : Type} {enc : TypeId × Value → H} {P : Program} {w : World} {t a b : TypeId} {v : Value} {d : DataW H} {p : List MemPlace} {r : Reach} {b0 : Nat} (hf : fieldsOf P t = [(a, 0, 1), (b, 1, 1)]) (hz : P.cellsOf t = 2) (ha : P.underlying a = some (.int .i64)) (hb : Opens P b (Enc.slice Enc.edge))
    (hval : Value.okWide P w r b0 t v) (h : DataW.Trod enc P w 0 (fun _ => true) true t v d p) (hwt : ∀ n ∈ d.weights P t, n ≤ reachBytes) :
    ∃ n A m c l, v = .agg #[.int .i64 n, .slice A m c] ∧ fits n ∧ SliceIs Enc.edge w w.heap.size A m c l := by
  obtain ⟨fs, hs⟩ : ∃ fs, P.underlying t = some (.struct fs) := by
    unfold fieldsOf at hf
    split at hf
    · exact ⟨_, by assumption⟩
    · cases hf
  obtain ⟨cs, rfl, hsz⟩ := okWide_struct hs hval
  obtain ⟨fuel, hx⟩ := h
  obtain ⟨hl, hat⟩ := open_fields hf (by simp) hx hwt
  obtain ⟨cs⟩ := cs
  rw [hz] at hsz
  match cs, hsz with
  | [u0, u1], _ =>
    obtain ⟨y, n, h, hw⟩ := hat 0 _ rfl
    obtain ⟨s, e0, f0⟩ := opens_int ha _ _ _ _ _ _ h hw
    obtain ⟨y, n, h, hw⟩ := hat 1 _ rfl
    obtain ⟨l, A, m, c, e1, f1⟩ := hb _ _ _ _ _ _ h hw
    simp [Value.cells] at e0 e1
    subst e0 e1
    exact ⟨s, A, m, c, l, rfl, f0, f1⟩
theorem open_graph {H : Type} {enc : TypeId × Value → H} {w : World} {v : Value} {d : DataW H} {p : List MemPlace} {r : Reach} {b0 : Nat} (hval : Value.okWide Tryz.prog w r b0 31 v) (h : DataW.Trod enc Tryz.prog w 0 (fun _ => true) true 31 v d p) (hwt : ∀ n ∈ d.weights Tryz.prog 31, n ≤ reachBytes) :
    ∃ n A m c l, v = .agg #[.int .i64 n, .slice A m c] ∧ fits n ∧ SliceIs Enc.edge w w.heap.size A m c l :=
  open_graphG (a := 3) (b := 29) (by kernel_rfl) (by kernel_rfl) (by kernel_rfl) o_edges hval h hwt
end Go.Proofs.YtgphngjniplonaaGreatDoor

namespace Go.Proofs.YtgphngjniplonaaGreatDoor
open Go.RowKit
theorem needsF_up (a : Int) : ∀ (l : List GEdge) (last : Int), l.Pairwise (fun x y => lessE x y = true) → (∀ e ∈ l, e.a = a → last ≤ e.b) → (needsF a last l).Pairwise (· < ·) ∧ ∀ b ∈ needsF a last l, last < b
  | [], _, _, _ => by simp [needsF]
  | e :: l, last, hp, hl => by
    rw [List.pairwise_cons] at hp
    unfold needsF
    by_cases h : e.a = a ∧ e.b ≠ last
    · rw [if_pos h]
      have h0 := hl e (List.mem_cons_self ..) h.1
      obtain ⟨h1, h2⟩ := needsF_up a l e.b hp.2 (fun x hx hxa => by
        have h3 := hp.1 x hx
        unfold lessE at h3
        rw [if_pos (by rw [h.1, hxa])] at h3
        split at h3
        · omega
        · have := of_decide_eq_true h3; omega)
      have h5 := h.2
      refine ⟨List.pairwise_cons.2 ⟨h2, h1⟩, fun b hb => ?_⟩
      rcases List.mem_cons.1 hb with rfl | hb
      · omega
      · have := h2 b hb; omega
    · rw [if_neg h]
      exact needsF_up a l last hp.2 (fun x hx => hl x (List.mem_cons_of_mem _ hx))
theorem right_pairs {n : Int} {l : List GEdge} (hr : rightG n l = true) : l.Pairwise (fun x y => lessE x y = true) := by
  rw [List.pairwise_iff_getElem]
  intro i j hi hj hij
  have := right_less hr (i := i) (p := l[i]) (List.getElem?_eq_getElem hi) (j - i - 1) (x := l[j]) (by rw [show i + 1 + (j - i - 1) = j by omega]; exact List.getElem?_eq_getElem hj)
  exact this
theorem needs_at {N : Nat} {l : List GEdge} (hr : rightG (N : Int) l = true) (a : Nat) : ∃ ys : List Nat, needsF (a : Int) (-1) l = ys.map (fun y : Nat => (y : Int)) ∧ ys.Pairwise (· < ·) ∧ (∀ y, y ∈ ys ↔ hasN l a y = true) ∧ ∀ y ∈ ys, y < N := by
  have hw := right_in hr
  have hnn : ∀ b ∈ needsF (a : Int) (-1) l, 0 ≤ b ∧ b < (N : Int) ∧ ∃ e ∈ l, e.a = a ∧ e.b = b := fun b hb => by
    have h1 := (needsF_up (a : Int) l (-1) (right_pairs hr) (fun e he _ => by
      have := hw e he
      simp only [withinE, Bool.and_eq_true, decide_eq_true_eq] at this
      omega)).2 b hb
    have h2 := (needsF_mem (a : Int) l (-1) b).1 (.inl hb)
    rcases h2 with ⟨e, he, h3, h4⟩ | h2
    · have := hw e he
      simp only [withinE, Bool.and_eq_true, decide_eq_true_eq] at this
      exact ⟨by omega, by omega, e, he, h3, h4⟩
    · omega
  have hup := (needsF_up (a : Int) l (-1) (right_pairs hr) (fun e he _ => by
      have := hw e he
      simp only [withinE, Bool.and_eq_true, decide_eq_true_eq] at this
      omega)).1
  have hmap : (needsF (a : Int) (-1) l).map (fun b : Int => ((b.toNat : Nat) : Int)) = needsF (a : Int) (-1) l := by
    have h3 : ∀ b ∈ needsF (a : Int) (-1) l, (fun b : Int => ((b.toNat : Nat) : Int)) b = id b := fun b hb => by
      have := (hnn b hb).1
      simp only [id]
      omega
    rw [List.map_congr_left h3, List.map_id]
  refine ⟨(needsF (a : Int) (-1) l).map Int.toNat, by rw [List.map_map]; exact hmap.symm, ?_, ?_, ?_⟩
  · rw [List.pairwise_map]
    refine List.Pairwise.imp_of_mem (fun {x y} hx hy hxy => ?_) hup
    have h1 := (hnn x hx).1
    have h2 := (hnn y hy).1
    omega
  · intro y
    constructor
    · intro h
      obtain ⟨b, hb, rfl⟩ := List.mem_map.1 h
      obtain ⟨h0, -, e, he, h1, h2⟩ := hnn b hb
      unfold hasN hasL
      rw [List.any_eq_true]
      exact ⟨e, he, by simp only [Bool.and_eq_true, decide_eq_true_eq]; omega⟩
    · intro h
      unfold hasN hasL at h
      rw [List.any_eq_true] at h
      obtain ⟨e, he, h1⟩ := h
      simp only [Bool.and_eq_true, decide_eq_true_eq] at h1
      rcases (needsF_mem (a : Int) l (-1) (y : Int)).2 (.inl ⟨e, he, h1.1, h1.2⟩) with h2 | h2
      · exact List.mem_map.2 ⟨(y : Int), h2, by simp⟩
      · omega
  · intro y h
    obtain ⟨b, hb, rfl⟩ := List.mem_map.1 h
    have := hnn b hb
    omega
theorem needs_out {N : Nat} {l : List GEdge} (hr : rightG (N : Int) l = true) {a : Int} (ha : a < 0 ∨ (N : Int) ≤ a) : needsF a (-1) l = [] := by
  refine List.eq_nil_iff_forall_not_mem.2 fun b hb => ?_
  have hw := right_in hr
  have h1 := (needsF_up a l (-1) (right_pairs hr) (fun e he _ => by
      have := hw e he
      simp only [withinE, Bool.and_eq_true, decide_eq_true_eq] at this
      omega)).2 b hb
  rcases (needsF_mem a l (-1) b).1 (.inl hb) with ⟨e, he, h3, h4⟩ | h2
  · have := hw e he
    simp only [withinE, Bool.and_eq_true, decide_eq_true_eq] at this
    omega
  · omega
abbrev outs (a : Nat) (ps : List (List Nat)) : List Nat := ps.map (wayEnd a)
structure WkS (l : List GEdge) (N a : Nat) (ps : List (List Nat)) (k : Nat) (ds : List Nat) : Prop where
  p : PInv (hasN l) a ps k ds
  b : BInv (hasN l) a (outs a ps) k ds
  lt : ∀ q ∈ ps, wayEnd a q < N
theorem WkS.start (l : List GEdge) (N a : Nat) : WkS l N a [] 0 [] := ⟨PInv.start, BInv.start, fun q h => by cases h⟩
theorem WkS.at_ {l : List GEdge} {N a : Nat} {ps : List (List Nat)} {k : Nat} {ds : List Nat} (_h : WkS l N a ps k ds) {x : Nat} (hx : (a :: outs a ps)[k]? = some x) : ∃ q, ([] :: ps)[k]? = some q ∧ wayEnd a q = x := by
  have e : (a :: outs a ps) = ([] :: ps).map (wayEnd a) := rfl
  rw [e, List.getElem?_map, Option.map_eq_some_iff] at hx
  exact hx
theorem WkS.skip {l : List GEdge} {N a : Nat} {ps : List (List Nat)} {k : Nat} {ds : List Nat} (h : WkS l N a ps k ds) {x y : Nat} (hx : (a :: outs a ps)[k]? = some x) (hy : y ∈ outs a ps) : WkS l N a ps k (ds ++ [y]) := by
  obtain ⟨q, hq, -⟩ := h.at_ hx
  obtain ⟨p, hp, he⟩ := List.mem_map.1 hy
  exact ⟨h.p.skip hq hp he, h.b.skip hy, h.lt⟩
theorem WkS.add {l : List GEdge} {N a : Nat} {ps : List (List Nat)} {k : Nat} {ds : List Nat} (h : WkS l N a ps k ds) {x y : Nat} (hx : (a :: outs a ps)[k]? = some x) (hxy : hasN l x y = true) (hy : y ∉ outs a ps) (hup : ∀ z ∈ ds, z < y) (hN : y < N) :
    ∃ q, wayEnd a q = x ∧ (q = [] ∨ q ∈ ps) ∧ WkS l N a (ps ++ [q ++ [y]]) k (ds ++ [y]) := by
  obtain ⟨q, hq, he⟩ := h.at_ hx
  have hm : q = [] ∨ q ∈ ps := by
    rcases List.mem_cons.1 (List.mem_of_getElem? hq) with h1 | h1
    · exact .inl h1
    · exact .inr h1
  have hw : IsWay (hasN l) a q := by
    rcases hm with rfl | h1
    · trivial
    · exact (h.p.way q h1).2
  refine ⟨q, he, hm, h.p.add hq hw (by rw [he]; exact hxy) hup, ?_, fun p hp => ?_⟩
  · have h1 := h.b.add hx hxy hy
    have e : outs a (ps ++ [q ++ [y]]) = outs a ps ++ [y] := by
      unfold outs
      rw [List.map_append, List.map_singleton, last_snoc]
    rw [e]
    exact h1
  · rcases List.mem_append.1 hp with h1 | h1
    · exact h.lt p h1
    · rw [List.mem_singleton.1 h1, last_snoc]; exact hN
theorem WkS.next {l : List GEdge} {N a : Nat} {ps : List (List Nat)} {k : Nat} {ds : List Nat} (h : WkS l N a ps k ds) {x : Nat} (hx : (a :: outs a ps)[k]? = some x) (hd : ∀ y, hasN l x y = true → y ∈ ds) : WkS l N a ps (k + 1) [] := by
  obtain ⟨q, hq, he⟩ := h.at_ hx
  exact ⟨h.p.next hq (by rw [he]; exact hd), h.b.next hx hd, h.lt⟩
theorem nodup_inj {α β : Type} (f : α → β) : ∀ {l : List α}, (l.map f).Nodup → ∀ x ∈ l, ∀ y ∈ l, f x = f y → x = y
  | [], _, x, hx, _, _, _ => by cases hx
  | z :: l, h, x, hx, y, hy, e => by
    rw [List.map_cons, List.nodup_cons] at h
    rcases List.mem_cons.1 hx with hx1 | hx1
    · rcases List.mem_cons.1 hy with hy1 | hy1
      · rw [hx1, hy1]
      · exact absurd (List.mem_map.2 ⟨y, hy1, by rw [← e, hx1]⟩) h.1
    · rcases List.mem_cons.1 hy with hy1 | hy1
      · exact absurd (List.mem_map.2 ⟨x, hx1, by rw [e, hy1]⟩) h.1
      · exact nodup_inj f h.2 x hx1 y hy1 e
theorem nodup_most {N : Nat} : ∀ {l : List Nat}, l.Nodup → (∀ x ∈ l, x < N) → l.length ≤ N := by
  intro l hn hl
  have h1 := nodup_len l (List.range N) hn (fun x hx => List.mem_range.2 (hl x hx))
  rw [List.length_range] at h1
  exact h1
theorem WkS.most {l : List GEdge} {N a : Nat} {ps : List (List Nat)} {k : Nat} {ds : List Nat} (h : WkS l N a ps k ds) : ps.length ≤ N := by
  have h1 := nodup_most (N := N) h.b.nod (fun x hx => by
    obtain ⟨p, hp, rfl⟩ := List.mem_map.1 hx
    exact h.lt p hp)
  simpa using h1
theorem WkS.one {l : List GEdge} {N a : Nat} {ps : List (List Nat)} {k : Nat} {ds : List Nat} (h : WkS l N a ps k ds) : ∀ p ∈ ps, ∀ q ∈ ps, wayEnd a p = wayEnd a q → p = q := nodup_inj _ h.b.nod
def fmL (a : Nat) (ps : List (List Nat)) : List (Int × Value) := ps.map fun p => (((wayEnd a p : Nat) : Int), Value.int .i64 ((wayEnd a p.dropLast : Nat) : Int))
theorem fmL_snoc (a : Nat) (ps : List (List Nat)) (q : List Nat) (y : Nat) : fmL a (ps ++ [q ++ [y]]) = fmL a ps ++ [(((y : Nat) : Int), Value.int .i64 ((wayEnd a q : Nat) : Int))] := by
  unfold fmL
  rw [List.map_append, List.map_singleton, last_snoc, List.dropLast_concat]
theorem fmL_none {a : Nat} : ∀ {ps : List (List Nat)} {y : Nat}, y ∉ outs a ps → knGet (fmL a ps) (y : Int) = none
  | [], y, _ => rfl
  | p :: ps, y, h => by
    show knGet ((((wayEnd a p : Nat) : Int), _) :: fmL a ps) _ = _
    rw [kvGet_consN, if_neg (fun e => h (by have : wayEnd a p = y := by omega
                                            rw [← this]; exact List.mem_cons_self ..))]
    exact fmL_none (fun hm => h (List.mem_cons_of_mem _ hm))
theorem fmL_set {a : Nat} : ∀ {ps : List (List Nat)} {y : Nat} (v : Value), y ∉ outs a ps → knSet (fmL a ps) (y : Int) v = fmL a ps ++ [((y : Int), v)]
  | [], y, v, _ => rfl
  | p :: ps, y, v, h => by
    show knSet ((((wayEnd a p : Nat) : Int), _) :: fmL a ps) _ _ = _
    unfold knSet
    rw [if_neg (fun e => h (by have : wayEnd a p = y := by omega
                               rw [← this]; exact List.mem_cons_self ..))]
    rw [fmL_set v (fun hm => h (List.mem_cons_of_mem _ hm))]
    rfl
theorem fmL_get {a : Nat} : ∀ {ps : List (List Nat)}, (outs a ps).Nodup → ∀ {p : List Nat}, p ∈ ps → knGet (fmL a ps) ((wayEnd a p : Nat) : Int) = some (.int .i64 ((wayEnd a p.dropLast : Nat) : Int))
  | [], _, p, hp => by cases hp
  | q :: ps, h, p, hp => by
    show knGet ((((wayEnd a q : Nat) : Int), _) :: fmL a ps) _ = _
    rw [kvGet_consN]
    by_cases e : wayEnd a q = wayEnd a p
    · have : q = p := nodup_inj (wayEnd a) h q (List.mem_cons_self ..) p hp e
      subst this
      rw [if_pos rfl]
    · rw [if_neg (fun e' => e (by omega))]
      rcases List.mem_cons.1 hp with rfl | hp
      · exact absurd rfl e
      · exact fmL_get (List.nodup_cons.1 h).2 hp
theorem fmL_not {a : Nat} {ps : List (List Nat)} {z : Int} (h : ∀ y ∈ outs a ps, ((y : Nat) : Int) ≠ z) : knGet (fmL a ps) z = none := by
  induction ps with
  | nil => rfl
  | cons p ps ih =>
    show knGet ((((wayEnd a p : Nat) : Int), _) :: fmL a ps) _ = _
    rw [kvGet_consN, if_neg (h _ (List.mem_cons_self ..))]
    exact ih (fun y hy => h y (List.mem_cons_of_mem _ hy))
end Go.Proofs.YtgphngjniplonaaGreatDoor

namespace Go.Proofs.YtgphngjniplonaaGreatDoor
open Go.RowKit
def okA (n : Int) (l : List GEdge) (a : Int) : Prop := rightG n l = true ∧ 0 ≤ a ∧ a < n
theorem okA_nat {n : Int} {l : List GEdge} {a : Int} (h : okA n l a) : ∃ N A : Nat, n = (N : Int) ∧ a = (A : Int) ∧ A < N ∧ N ≤ 32 ∧ rightG (N : Int) l = true := by
  obtain ⟨h1, h2, h3⟩ := h
  have h4 : n ≤ 32 := by
    unfold rightG at h1
    simp only [Bool.and_eq_true, decide_eq_true_eq] at h1
    omega
  refine ⟨n.toNat, a.toNat, by omega, by omega, by omega, by omega, ?_⟩
  rw [show ((n.toNat : Nat) : Int) = n by omega]
  exact h1
theorem needsG_none {n : Int} {l : List GEdge} {a : Int} (h : ¬ okA n l a) : needsG n l a = [] := by
  unfold needsG
  split
  · rename_i hr
    have hn : 0 ≤ n := by
      have h1 := hr
      unfold rightG at h1
      simp only [Bool.and_eq_true, decide_eq_true_eq] at h1
      omega
    have hr' : rightG ((n.toNat : Nat) : Int) l = true := by rw [show ((n.toNat : Nat) : Int) = n by omega]; exact hr
    refine needs_out hr' ?_
    unfold okA at h
    by_cases h0 : a < 0
    · exact .inl h0
    · right
      rw [show ((n.toNat : Nat) : Int) = n by omega]
      refine Int.not_lt.1 fun h1 => h ⟨hr, by omega, h1⟩
  · rfl
def outsI (a : Int) (ps : List (List Nat)) : List Int := (outs a.toNat ps).map (fun y : Nat => (y : Int))
def quI (a : Int) (ps : List (List Nat)) : List Int := a :: outsI a ps
theorem outsI_len (a : Int) (ps : List (List Nat)) : (outsI a ps).length = ps.length := by simp [outsI, outs]
theorem quI_len (a : Int) (ps : List (List Nat)) : (quI a ps).length = ps.length + 1 := by simp [quI, outsI_len]
theorem outsI_snoc (a : Int) (ps : List (List Nat)) (q : List Nat) (y : Nat) : outsI a (ps ++ [q ++ [y]]) = outsI a ps ++ [((y : Nat) : Int)] := by
  unfold outsI outs
  rw [List.map_append, List.map_singleton, last_snoc, List.map_append]
  rfl
theorem quI_snoc (a : Int) (ps : List (List Nat)) (q : List Nat) (y : Nat) : quI a (ps ++ [q ++ [y]]) = quI a ps ++ [((y : Nat) : Int)] := by
  unfold quI
  rw [outsI_snoc]
  rfl
def WS (n : Int) (l : List GEdge) (a : Int) (ps : List (List Nat)) (k : Nat) (ds : List Nat) : Prop :=
  (okA n l a ∧ WkS l n.toNat a.toNat ps k ds) ∨ (¬ okA n l a ∧ ps = [] ∧ ds = [] ∧ k ≤ 1)
theorem WS.start (n : Int) (l : List GEdge) (a : Int) : WS n l a [] 0 [] := by
  by_cases h : okA n l a
  · exact .inl ⟨h, WkS.start l _ _⟩
  · exact .inr ⟨h, rfl, rfl, by omega⟩
theorem WS.most {n : Int} {l : List GEdge} {a : Int} {ps : List (List Nat)} {k : Nat} {ds : List Nat} (h : WS n l a ps k ds) : ps.length ≤ 32 := by
  rcases h with ⟨h1, h2⟩ | ⟨-, rfl, -, -⟩
  · obtain ⟨N, A, rfl, -, -, h3, -⟩ := okA_nat h1
    have := h2.most
    simp at this
    omega
  · simp
theorem cast_at {A : Nat} {L : List Nat} {k : Nat} {x : Int} (h : (((A : Nat) : Int) :: L.map (fun y : Nat => (y : Int)))[k]? = some x) : ∃ x' : Nat, x = (x' : Int) ∧ (A :: L)[k]? = some x' := by
  have e : (((A : Nat) : Int) :: L.map (fun y : Nat => (y : Int))) = (A :: L).map (fun y : Nat => (y : Int)) := rfl
  rw [e, List.getElem?_map, Option.map_eq_some_iff] at h
  obtain ⟨x', h1, h2⟩ := h
  exact ⟨x', h2.symm, h1⟩
theorem WS.needs {n : Int} {l : List GEdge} {a : Int} {ps : List (List Nat)} {k : Nat} (h : WS n l a ps k []) {x : Int} (hx : (quI a ps)[k]? = some x) :
    ∃ ys : List Nat, needsG n l x = ys.map (fun y : Nat => (y : Int)) ∧
      (∀ ps' pre y post, ys = pre ++ y :: post → WS n l a ps' k pre → (quI a ps')[k]? = some x → (y ∈ outs a.toNat ps' → WS n l a ps' k (pre ++ [y])) ∧ (y ∉ outs a.toNat ps' → ∃ q, x = ((wayEnd a.toNat q : Nat) : Int) ∧ WS n l a (ps' ++ [q ++ [y]]) k (pre ++ [y]))) ∧
      (∀ ps', WS n l a ps' k ys → (quI a ps')[k]? = some x → WS n l a ps' (k + 1) []) := by
  by_cases hk : okA n l a
  · obtain ⟨N, A, rfl, rfl, hAN, hN, hr⟩ := okA_nat hk
    obtain ⟨x', rfl, hx'⟩ := cast_at hx
    obtain ⟨ys, h1, h2, h3, h4⟩ := needs_at hr x'
    have hat : ∀ ps', (quI (A : Int) ps')[k]? = some ((x' : Nat) : Int) → (A :: outs A ps')[k]? = some x' := fun ps' hq => by
      obtain ⟨x2, e1, e2⟩ := cast_at hq
      have : x2 = x' := by omega
      rw [this] at e2
      exact e2
    have hin : ∀ {ps' : List (List Nat)} {k' : Nat} {ds : List Nat}, WS (N : Int) l (A : Int) ps' k' ds → WkS l N A ps' k' ds := fun h => by
      rcases h with ⟨-, h⟩ | ⟨h, -⟩
      · simpa using h
      · exact absurd hk h
    have hout : ∀ {ps' : List (List Nat)} {k' : Nat} {ds : List Nat}, WkS l N A ps' k' ds → WS (N : Int) l (A : Int) ps' k' ds := fun h => .inl ⟨hk, by simpa using h⟩
    refine ⟨ys, ?_, ?_, ?_⟩
    · unfold needsG; rw [if_pos hr]; exact h1
    · intro ps' pre y post he hw hq
      have hy : y ∈ ys := by rw [he]; simp
      refine ⟨fun hm => hout ((hin hw).skip (hat ps' hq) (by simpa using hm)), fun hm => ?_⟩
      obtain ⟨q, e1, -, e3⟩ := (hin hw).add (hat ps' hq) ((h3 y).1 hy) (by simpa using hm) (fun z hz => by
        rw [he] at h2
        exact (List.pairwise_append.1 h2).2.2 z hz y (List.mem_cons_self ..)) (h4 y hy)
      exact ⟨q, by simp [e1], hout e3⟩
    · intro ps' hw hq
      exact hout ((hin hw).next (hat ps' hq) (fun y hy => (h3 y).2 hy))
  · rcases h with ⟨h1, -⟩ | ⟨-, rfl, -, hk1⟩
    · exact absurd h1 hk
    · have hk0 : k = 0 ∧ x = a := by
        cases k with
        | zero => simp [quI] at hx; exact ⟨rfl, hx.symm⟩
        | succ k => have := (List.getElem?_eq_some_iff.1 hx).1; simp [quI, outsI, outs] at this
      obtain ⟨rfl, rfl⟩ := hk0
      refine ⟨[], by rw [needsG_none hk]; rfl, ?_, ?_⟩
      · intro ps' pre y post he
        simp at he
      · intro ps' hw _
        rcases hw with ⟨h1, -⟩ | ⟨-, h2, -, -⟩
        · exact absurd h1 hk
        · exact .inr ⟨hk, h2, rfl, by omega⟩
end Go.Proofs.YtgphngjniplonaaGreatDoor
