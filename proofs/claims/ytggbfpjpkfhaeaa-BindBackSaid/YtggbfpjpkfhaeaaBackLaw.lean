/- The plain law of BindBack: what an atom and a tuple that meet make is the tuple. No program. -/
import Derived.Test.YtggbfpjpkfhaeaaMake
import Derived.Test.YtggbfpjpkfhaeaaMeet
import Derived.Test.YtggbfpjpkfhaeaaPut
namespace Go.Proofs.Ytggbfpjpkfhaeaa
open Go.RowKit

theorem meetL_spec : ∀ (l : List (GTold × GV)) (f f' : ByteArray → Option GV), meetL l f = some f' →
    (∀ s v, f s = some v → f' s = some v) ∧ ∀ p ∈ l, (p.1.x.toList = [] → p.1.v = p.2) ∧ (p.1.x.toList ≠ [] → f' p.1.x = some p.2)
  | [], f, f', h => by
    simp only [meetL, Option.some.injEq] at h
    subst h
    exact ⟨fun _ _ h => h, fun p hp => by cases hp⟩
  | p :: l, f, f', h => by
    simp only [meetL] at h
    cases h1 : meet1 p.1 p.2 f with
    | none => rw [h1] at h; cases h
    | some f1 =>
      rw [h1] at h
      obtain ⟨hm, hl⟩ := meetL_spec l f1 f' h
      have h2 : (∀ s v, f s = some v → f1 s = some v) ∧ (p.1.x.toList = [] → p.1.v = p.2) ∧ (p.1.x.toList ≠ [] → f1 p.1.x = some p.2) := by
        unfold meet1 at h1
        by_cases he : p.1.x.toList = []
        · rw [if_pos he] at h1
          by_cases hv : p.1.v = p.2
          · rw [if_pos hv] at h1
            simp only [Option.some.injEq] at h1
            subst h1
            exact ⟨fun _ _ h => h, fun _ => hv, fun h => absurd he h⟩
          · rw [if_neg hv] at h1; cases h1
        · rw [if_neg he] at h1
          cases hf : f p.1.x with
          | none =>
            rw [hf] at h1
            simp only [Option.some.injEq] at h1
            subst h1
            refine ⟨fun s v hs => ?_, fun h => absurd h he, fun _ => by simp [upd]⟩
            unfold upd
            by_cases e : p.1.x = s
            · subst e; rw [hf] at hs; cases hs
            · rw [if_neg e]; exact hs
          | some u =>
            rw [hf] at h1
            by_cases hu : u = p.2
            · simp only [hu, if_true, Option.some.injEq] at h1
              subst h1
              exact ⟨fun _ _ h => h, fun h => absurd h he, fun _ => by rw [hf, hu]⟩
            · simp only [hu, if_false] at h1; cases h1
      refine ⟨fun s v hs => hm s v (h2.1 s v hs), fun q hq => ?_⟩
      rcases List.mem_cons.1 hq with rfl | hq
      · exact ⟨h2.2.1, fun hne => hm _ _ (h2.2.2 hne)⟩
      · exact hl q hq

theorem putL_spec : ∀ (l : List GTold) (acc : List ByteArray), acc.Nodup → (∀ s ∈ acc, s.toList ≠ []) →
    (putL acc l).Nodup ∧ (∀ s ∈ putL acc l, s.toList ≠ [] ∧ (s ∈ acc ∨ ∃ t ∈ l, t.x = s)) ∧ (∀ s ∈ acc, s ∈ putL acc l) ∧ (∀ t ∈ l, t.x.toList ≠ [] → t.x ∈ putL acc l) ∧ (putL acc l).length ≤ acc.length + l.length
  | [], acc, h, h0 => ⟨h, fun s hs => ⟨h0 s hs, .inl hs⟩, fun s hs => hs, fun t ht _ => absurd ht (by simp), Nat.le_refl _⟩
  | t :: l, acc, h, h0 => by
    have e : putL acc (t :: l) = putL (put1 acc t) l := rfl
    rw [e]
    have hp : (put1 acc t).Nodup ∧ (∀ s ∈ put1 acc t, s.toList ≠ []) ∧ (∀ s ∈ put1 acc t, s ∈ acc ∨ t.x = s) ∧ (∀ s ∈ acc, s ∈ put1 acc t) ∧ (t.x.toList ≠ [] → t.x ∈ put1 acc t) ∧ (put1 acc t).length ≤ acc.length + 1 := by
      unfold put1
      by_cases hc : (t.x.toList.isEmpty || decide (t.x ∈ acc)) = true
      · rw [if_pos hc]
        refine ⟨h, h0, fun s hs => .inl hs, fun s hs => hs, fun hne => ?_, by omega⟩
        simp only [Bool.or_eq_true, decide_eq_true_eq, List.isEmpty_iff] at hc
        exact hc.resolve_left hne
      · rw [if_neg hc]
        simp only [Bool.or_eq_true, decide_eq_true_eq, List.isEmpty_iff, not_or] at hc
        refine ⟨?_, fun s hs => ?_, fun s hs => ?_, fun s hs => by simp [hs], fun _ => by simp, by simp⟩
        · rw [List.nodup_append]
          refine ⟨h, by simp, fun a ha b hb => ?_⟩
          simp at hb
          subst hb
          intro hab
          subst hab
          exact hc.2 ha
        · rcases List.mem_append.1 hs with hs | hs
          · exact h0 s hs
          · simp at hs; subst hs; exact hc.1
        · rcases List.mem_append.1 hs with hs | hs
          · exact .inl hs
          · simp at hs; exact .inr hs.symm
    obtain ⟨a1, a2, a3, a4, a5, a6⟩ := hp
    obtain ⟨b1, b2, b3, b4, b5⟩ := putL_spec l (put1 acc t) a1 a2
    refine ⟨b1, fun s hs => ⟨(b2 s hs).1, ?_⟩, fun s hs => b3 s (a4 s hs), fun u hu hne => ?_, by simp only [List.length_cons]; omega⟩
    · rcases (b2 s hs).2 with hh | ⟨u, hu, e⟩
      · rcases a3 s hh with hh | hh
        · exact .inl hh
        · exact .inr ⟨t, List.mem_cons_self, hh⟩
      · exact .inr ⟨u, List.mem_cons_of_mem _ hu, e⟩
    · rcases List.mem_cons.1 hu with rfl | hu
      · exact b3 _ (a5 hne)
      · exact b4 u hu hne

theorem rowOf_all {f : ByteArray → Option GV} : ∀ (l : List ByteArray), (∀ s ∈ l, ∃ v, f s = some v) → ∃ r, rowOf f l = some r ∧ r.length = l.length ∧ ∀ (i : Nat) (s : ByteArray), l[i]? = some s → ∃ v, r[i]? = some v ∧ f s = some v
  | [], _ => ⟨[], rfl, rfl, fun i s h => by simp at h⟩
  | s :: l, h => by
    obtain ⟨v, hv⟩ := h s List.mem_cons_self
    obtain ⟨r, hr, hl, hi⟩ := rowOf_all l (fun s hs => h s (List.mem_cons_of_mem _ hs))
    refine ⟨v :: r, by simp [rowOf, hv, hr], by simp [hl], fun i u hu => ?_⟩
    cases i with
    | zero => simp at hu; subst hu; exact ⟨v, rfl, hv⟩
    | succ i => simp at hu; exact hi i u hu

theorem getT_zip {vars : List ByteArray} {r : List GV} (hn : vars.Nodup) : ∀ {i : Nat} {s : ByteArray} {v : GV}, vars[i]? = some s → r[i]? = some v → getT (zipT vars r) s = some v := by
  induction vars generalizing r with
  | nil => intro i s v h; simp at h
  | cons x vars ih =>
    intro i s v h1 h2
    cases r with
    | nil => simp at h2
    | cons y r =>
      rw [List.nodup_cons] at hn
      cases i with
      | zero => simp at h1 h2; subst h1 h2; simp [zipT, getT]
      | succ i =>
        simp at h1 h2
        have hs : s ∈ vars := List.mem_of_getElem? h1
        have hne : (x == s) = false := by
          have : x ≠ s := fun e => hn.1 (e ▸ hs)
          simpa using this
        have := ih hn.2 h1 h2
        simpa [zipT, getT, hne] using this

theorem makeL_all {g : ByteArray → Option GV} : ∀ (a : List GTold) (t : List GV), a.length = t.length → (∀ (i : Nat) (x : GTold) (v : GV), a[i]? = some x → t[i]? = some v → termSpec g x = (v, 0)) → makeL g a = (t, 0)
  | [], [], _, _ => rfl
  | x :: a, v :: t, hl, h => by
    have h0 := h 0 x v rfl rfl
    have h1 := makeL_all a t (by simpa using hl) (fun i x v hx hv => h (i + 1) x v (by simpa using hx) (by simpa using hv))
    simp [makeL, h0, h1]
  | [], _ :: _, hl, _ => by simp at hl
  | _ :: _, [], hl, _ => by simp at hl

/-- what BindBack finds, step by step -/
theorem back_law {a : List GTold} {t : List GV} {f0 f : ByteArray → Option GV} (hm : meetF a t f0 = some f) (ht6 : t.length ≤ 6) (htr : ∀ v ∈ t, rightB v = true) (har : ∀ x ∈ a, x.x.toList = [] → rightB x.v = true) :
    ∃ r, rowSpec f (putL [] a) = (r, 0) ∧ backSpec r (putL [] a) = (zipT (putL [] a) r, 0) ∧ (putL [] a).Nodup ∧ r.length = (putL [] a).length ∧ (∀ g : ByteArray → Option GV, (∀ s, g s = getT (zipT (putL [] a) r) s) → makeSpec g a = (t, 0)) := by
  unfold meetF at hm
  have hlen : a.length = t.length := by
    by_cases h : a.length = t.length
    · exact h
    · rw [if_neg h] at hm; cases hm
  rw [if_pos hlen] at hm
  obtain ⟨-, hz⟩ := meetL_spec _ _ _ hm
  obtain ⟨b1, b2, -, b4, b5⟩ := putL_spec a [] (by simp) (by simp)
  simp only [List.length_nil, Nat.zero_add] at b5
  have hpair : ∀ (i : Nat) (x : GTold) (v : GV), a[i]? = some x → t[i]? = some v → (x, v) ∈ a.zip t := fun i x v hx hv => by
    refine List.mem_of_getElem? (i := i) ?_
    rw [List.getElem?_zip_eq_some]
    exact ⟨hx, hv⟩
  have hvars : ∀ s ∈ putL [] a, ∃ v, f s = some v := fun s hs => by
    obtain ⟨hne, hh⟩ := b2 s hs
    rcases hh with hh | ⟨x, hx, rfl⟩
    · cases hh
    · obtain ⟨i, hi, rfl⟩ := List.mem_iff_getElem.1 hx
      have h2 := List.getElem?_eq_getElem (l := t) (i := i) (by omega)
      exact ⟨_, (hz _ (hpair i _ _ (List.getElem?_eq_getElem hi) h2)).2 hne⟩
  obtain ⟨r, hr, hrl, hri⟩ := rowOf_all _ hvars
  have hr6 : ¬ 6 < (putL [] a).length := by omega
  refine ⟨r, by simp [rowSpec, hr6, hr], by simp [backSpec, hrl, b1], b1, hrl, fun g hg => ?_⟩
  have ha6 : ¬ 6 < a.length := by omega
  unfold makeSpec
  rw [if_neg ha6]
  refine makeL_all a t hlen fun i x v hx hv => ?_
  have hp := hz _ (hpair i x v hx hv)
  have hxm : x ∈ a := List.mem_of_getElem? hx
  have hvm : v ∈ t := List.mem_of_getElem? hv
  unfold termSpec
  by_cases he : x.x.toList = []
  · rw [if_pos he, if_pos (har x hxm he), hp.1 he]
  · rw [if_neg he]
    obtain ⟨j, hj, hjx⟩ := List.mem_iff_getElem.1 (b4 x hxm he)
    have hjx' : (putL [] a)[j]? = some x.x := by rw [List.getElem?_eq_getElem hj, hjx]
    obtain ⟨u, hu, hfu⟩ := hri j x.x hjx'
    have huv : u = v := by have := hp.2 he; rw [hfu] at this; simpa using this
    subst huv
    have hgx : g x.x = some u := by rw [hg]; exact getT_zip b1 hjx' hu
    rw [hgx]
    simp [htr u hvm]
end Go.Proofs.Ytggbfpjpkfhaeaa
