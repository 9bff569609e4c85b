/- My own texts DgB7, DrawnU, DgPutF, as far as this claim needs them. -/
import Derived.Test.YtgphngjniplonaaGreatDoorZp27
set_option linter.unusedVariables false
set_option linter.unusedSimpArgs false
set_option maxRecDepth 1000000
set_option maxHeartbeats 16000000
namespace Go.Proofs.YtgphngjniplonaaGreatDoor
open Go.RowKit
end Go.Proofs.YtgphngjniplonaaGreatDoor
namespace Go.Proofs.YtgphngjniplonaaGreatDoor
open Go.RowKit
end Go.Proofs.YtgphngjniplonaaGreatDoor
namespace Go.Proofs.YtgphngjniplonaaGreatDoor
def putE : List GEdge → GEdge → List GEdge
  | [], e => [e]
  | x :: t, e => if lessE x e = true then x :: putE t e else if x = e then x :: t else e :: x :: t
def putsE (L : List GEdge) : List GEdge := L.foldl putE []
theorem putE_mem : ∀ {l : List GEdge} {e z : GEdge}, z ∈ putE l e ↔ z ∈ l ∨ z = e
  | [], e, z => by simp [putE]
  | x :: t, e, z => by
    unfold putE
    split
    · rw [List.mem_cons, putE_mem (l := t), List.mem_cons, or_assoc]
    · split
      · rename_i _ h; subst h
        constructor
        · exact .inl
        · rintro (h | rfl)
          · exact h
          · exact List.mem_cons_self ..
      · rw [List.mem_cons]
        constructor
        · rintro (h | h)
          · exact .inr h
          · exact .inl h
        · rintro (h | h)
          · exact .inr h
          · exact .inl h
theorem putE_up : ∀ {l : List GEdge} {e : GEdge}, l.Pairwise (fun x y => lessE x y = true) → (putE l e).Pairwise (fun x y => lessE x y = true)
  | [], e, _ => by simp [putE]
  | x :: t, e, h => by
    rw [List.pairwise_cons] at h
    unfold putE
    split
    · rename_i hx
      rw [List.pairwise_cons]
      refine ⟨fun z hz => ?_, putE_up h.2⟩
      rcases putE_mem.1 hz with hz | hz
      · exact h.1 z hz
      · rw [hz]; exact hx
    · rename_i hx
      split
      · rw [List.pairwise_cons]; exact h
      · rename_i hne
        have hex : lessE e x = true := by
          cases h1 : lessE e x with
          | true => rfl
          | false =>
            have hx' : lessE x e = false := by simpa using hx
            exact absurd (lessE_total hx' h1) hne
        rw [List.pairwise_cons, List.pairwise_cons]
        refine ⟨fun z hz => ?_, h⟩
        rcases List.mem_cons.1 hz with hz | hz
        · rw [hz]; exact hex
        · exact lessE_trans hex (h.1 z hz)
theorem foldl_put (L : List GEdge) : ∀ {l : List GEdge}, l.Pairwise (fun x y => lessE x y = true) → (L.foldl putE l).Pairwise (fun x y => lessE x y = true) ∧ ∀ z, z ∈ L.foldl putE l ↔ z ∈ l ∨ z ∈ L := by
  induction L with
  | nil => intro l h; exact ⟨h, fun z => by simp⟩
  | cons e L ih =>
    intro l h
    obtain ⟨h1, h2⟩ := ih (putE_up (e := e) h)
    refine ⟨h1, fun z => ?_⟩
    show z ∈ L.foldl putE (putE l e) ↔ _
    rw [h2, putE_mem, List.mem_cons, or_assoc]
theorem up_same : ∀ {l m : List GEdge}, l.Pairwise (fun x y => lessE x y = true) → m.Pairwise (fun x y => lessE x y = true) → (∀ z, z ∈ l ↔ z ∈ m) → l = m
  | [], [], _, _, _ => rfl
  | [], y :: m, _, _, h => by have := (h y).2 (List.mem_cons_self ..); cases this
  | x :: l, [], _, _, h => by have := (h x).1 (List.mem_cons_self ..); cases this
  | x :: l, y :: m, hl, hm, h => by
    rw [List.pairwise_cons] at hl hm
    have hxy : x = y := by
      rcases List.mem_cons.1 ((h x).1 (List.mem_cons_self ..)) with h1 | h1
      · exact h1
      · rcases List.mem_cons.1 ((h y).2 (List.mem_cons_self ..)) with h2 | h2
        · exact h2.symm
        · have := lessE_trans (hm.1 x h1) (hl.1 y h2)
          rw [lessE_irr] at this; cases this
    subst hxy
    have : l = m := up_same hl.2 hm.2 (fun z => by
      constructor
      · intro hz
        rcases List.mem_cons.1 ((h z).1 (List.mem_cons_of_mem _ hz)) with h1 | h1
        · have := hl.1 z hz; rw [h1, lessE_irr] at this; cases this
        · exact h1
      · intro hz
        rcases List.mem_cons.1 ((h z).2 (List.mem_cons_of_mem _ hz)) with h1 | h1
        · have := hm.1 z hz; rw [h1, lessE_irr] at this; cases this
        · exact h1)
    rw [this]
theorem cpE_has : ∀ (L : List GEdge) (z : GEdge), z ∈ cpE L ↔ z ∈ L
  | [], _ => Iff.rfl
  | [y], _ => Iff.rfl
  | x :: y :: l, z => by
    unfold cpE
    split
    · rename_i h
      rw [cpE_has (y :: l), ← h, List.mem_cons, List.mem_cons, List.mem_cons, ← or_assoc, or_self]
    · rw [List.mem_cons, cpE_has (y :: l), List.mem_cons (a := z) (b := x)]
theorem cpE_up : ∀ {L : List GEdge}, L.Pairwise (fun x y => (!lessE y x) = true) → (cpE L).Pairwise (fun x y => lessE x y = true)
  | [], _ => List.Pairwise.nil
  | [y], _ => by simp [cpE]
  | x :: y :: l, h => by
    rw [List.pairwise_cons] at h
    have ih := cpE_up h.2
    have h2 := h.2
    rw [List.pairwise_cons] at h2
    unfold cpE
    split
    · exact ih
    · rename_i hne
      have hxy : lessE x y = true := by
        cases h1 : lessE x y with
        | true => rfl
        | false =>
          have h3 := h.1 y (List.mem_cons_self ..)
          simp only [Bool.not_eq_true'] at h3
          exact absurd (lessE_total h1 h3) hne
      rw [List.pairwise_cons]
      refine ⟨fun z hz => ?_, ih⟩
      rcases List.mem_cons.1 ((cpE_has _ z).1 hz) with h3 | h3
      · rw [h3]; exact hxy
      · have h4 := h2.1 z h3
        simp only [Bool.not_eq_true'] at h4
        cases h5 : lessE y z with
        | true => exact lessE_trans hxy h5
        | false => rw [← lessE_total h5 h4]; exact hxy
theorem cp_puts (L : List GEdge) : cpE (sortE L) = putsE L := by
  obtain ⟨h1, h2⟩ := foldl_put L (l := []) List.Pairwise.nil
  refine up_same (cpE_up (sortE_sorted L)) h1 (fun z => ?_)
  rw [cpE_has, (sortE_perm L).mem_iff]
  show _ ↔ z ∈ L.foldl putE []
  rw [h2]
  simp
theorem putsE_snoc (L : List GEdge) (e : GEdge) : putsE (L ++ [e]) = putE (putsE L) e := by
  unfold putsE; rw [List.foldl_append]; rfl
end Go.Proofs.YtgphngjniplonaaGreatDoor
namespace Go.Proofs.YtgphngjniplonaaGreatDoor
section
variable {has : Nat → Nat → Bool} {n : Nat}
end
end Go.Proofs.YtgphngjniplonaaGreatDoor

namespace Go.Proofs.YtgphngjniplonaaGreatDoor
open Go.RowKit
structure MidU (use : Nat → Option Nat) (ops : Array Oper) (base : Array Value) (L : Nat) (G : Nat → World → Prop) (F : Nat → Value → World → Prop) (listed : Array Bool) (a : Act) (w : World) : Prop where
  defers : a.defers = []
  size : a.tmps.size = base.size
  lsize : listed.size = ops.size
  closed : ∀ (i : Nat) (o : Oper), ops[i]? = some o → listed.getD i false = true → ∀ e ∈ o.after, Region.binds .any e = true → listed.getD e.on false = true
  old : ∀ t : Nat, (∀ (i : Nat) (o : Oper), i < L → ops[i]? = some o → o.dst ≠ some t) → a.tmps[t]? = base[t]?
  glob : ∀ j, j ≤ L → listed.getD j false = false → G j w
  fact : ∀ (i : Nat) (o : Oper) (d : Tmp), ops[i]? = some o → o.dst = some d → listed.getD i false = true → (∀ k, use i = some k → listed.getD k false = false) → ∃ v, a.tmps[d]? = some v ∧ F i v w
section
variable {P : Program} {ops : Array Oper} {Q : Exit → Act → World → Prop}
theorem drawnU_law {id : Nat} {a : Act} {w : World} (hm : P.follows .mixedOrders = true) (L : Nat) (G : Nat → World → Prop) (F : Nat → Value → World → Prop) (R : Nat → World → World → Prop) (use : Nat → Option Nat)
    (hd : a.defers = []) (hL : L + 1 = ops.size) (hg : ∀ (i : Nat) (o : Oper), ops[i]? = some o → o.guard = none) (hord : ∀ (i : Nat) (o : Oper), ops[i]? = some o → ∀ e ∈ o.after, e.on < i)
    (hdst : ∀ (i j : Nat) (o o' : Oper) (d : Tmp), ops[i]? = some o → ops[j]? = some o' → o.dst = some d → o'.dst = some d → i = j) (hsz : ∀ (i : Nat) (o : Oper) (d : Tmp), ops[i]? = some o → o.dst = some d → d < a.tmps.size)
    (hanc : ∀ j, j < L → j ∈ ancs ops ops.size L)
    (hG : ∀ j, j ≤ L → G j w.drew) (hFm : ∀ i j v w w', i ≠ j → i < L → j < L → use i ≠ some j → (∀ k, use i = some k → k ∉ ancs ops ops.size j) → j ∉ ancs ops ops.size i → F i v w → R j w w' → F i v w') (hGm : ∀ i j w w', i ≠ j → i < L → j ≤ L → j ∉ ancs ops ops.size i → G j w → R i w w' → G j w')
    (hstep : ∀ (i : Nat) (o : Oper) (a' : Act) (w' : World), ops[i]? = some o → i < L → a'.defers = [] → a'.tmps.size = a.tmps.size → (∀ t : Nat, (∀ (i : Nat) (o : Oper), i < L → ops[i]? = some o → o.dst ≠ some t) → a'.tmps[t]? = a.tmps[t]?) → G i w' → G L w' →
      (∀ e ∈ o.after, Region.binds .any e = true → (∀ k, use e.on = some k → k = i) → ∀ oj d, ops[e.on]? = some oj → oj.dst = some d → ∃ v, a'.tmps[d]? = some v ∧ F e.on v w') → o.wp P a' w' (fun a2 w2 => ∃ v, a2 = a'.put o.dst v ∧ R i w' w2 ∧ F i v w2) Q)
    (hlast : ∀ (o : Oper) (a' : Act) (w' : World), ops[L]? = some o → a'.defers = [] → a'.tmps.size = a.tmps.size → (∀ t : Nat, (∀ (i : Nat) (o : Oper), i < L → ops[i]? = some o → o.dst ≠ some t) → a'.tmps[t]? = a.tmps[t]?) → G L w' →
      (∀ (i : Nat) (oj : Oper) (d : Tmp), i < L → use i = none → ops[i]? = some oj → oj.dst = some d → ∃ v, a'.tmps[d]? = some v ∧ F i v w') → o.wp P a' w' (fun a2 w2 => Q .normal a2 w2) Q) :
    (Code.region id ops true).wp P Q a w := by
  have main : ∀ (fuel : Nat) (listed : Array Bool) (a' : Act) (w' : World), MidU use ops a.tmps L G F listed a' w' → listed.getD L true = false → listed.toList.count false ≤ fuel → wpAny P .any ops Q fuel listed a' w' := by
    intro fuel
    induction fuel with
    | zero =>
      intro listed a' w' hM hoff hc
      have : false ∈ listed.toList := by
        have hl : L < listed.size := by rw [hM.lsize]; omega
        have h1 : listed[L]? = some false := by simp [hl] at hoff ⊢; exact hoff
        exact List.mem_iff_getElem?.2 ⟨L, by simpa using h1⟩
      have := List.count_pos_iff.2 this
      omega
    | succ fuel ih =>
      intro listed a' w' hM hoff hc
      refine ⟨fun hr => ?_, fun i hi => ?_⟩
      · exfalso
        obtain ⟨i, h1, h2⟩ := least_off listed (fun _ => True) ops.size ⟨L, by omega, hoff⟩
        have hil : i < listed.size := by
          rcases Nat.lt_or_ge i listed.size with h | h
          · exact h
          · simp [Array.getElem?_eq_none h] at h1
        have hio : i < ops.size := by rw [← hM.lsize]; exact hil
        have : i ∈ Region.ready .any ops listed := mem_ready.2 ⟨h1, ops[i], by simp [hio], fun e he _ => by
          have h3 := hord i ops[i] (by simp [hio]) e he
          have h4 := h2 e.on h3
          rwa [getD_any (by omega) true false] at h4⟩
        rw [hr] at this; cases this
      · obtain ⟨h1, o, ho, h2⟩ := mem_ready.1 hi
        have hio : i < ops.size := (Array.getElem?_eq_some_iff.1 ho).1
        have hil : i < listed.size := by rw [hM.lsize]; exact hio
        have hw : Region.wanted o (yielded ops a'.tmps) = true := by simp [Region.wanted, hg i o ho]
        unfold wpOp
        rw [ho]
        simp only [hw, if_true]
        left
        by_cases hiL : i = L
        · subst hiL
          have hall : ∀ j, j < i → listed.getD j false = true := fun j hj => ancs_listed hM.closed ops.size i o ho h2 j (hanc j hj)
          refine Oper.wp_mono (fun a2 w2 h => ?_) (hlast o a' w' ho hM.defers hM.size hM.old (hM.glob i (Nat.le_refl _) (by rw [getD_any (c := true) (by omega)]; exact hoff)) (fun j oj d hj huj hoj hdj => hM.fact j oj d hoj hdj (hall j hj) (fun k hk => by rw [huj] at hk; cases hk)))
          refine wpAny_end ?_ h fuel
          apply List.eq_nil_iff_forall_not_mem.2
          intro j hj
          obtain ⟨h3, oj, hoj, -⟩ := mem_ready.1 hj
          have hjo : j < ops.size := (Array.getElem?_eq_some_iff.1 hoj).1
          by_cases hji : i = j
          · subst hji; rw [getD_set_same hil] at h3; cases h3
          · rw [getD_set_other hji, getD_any (c := false) (by omega), hall j (by omega)] at h3; cases h3
        · have hiL' : i < L := by omega
          have hif : listed.getD i false = false := by rw [getD_any (c := true) (by omega)]; exact h1
          refine Oper.wp_mono (fun a2 w2 h => ?_) (hstep i o a' w' ho hiL' hM.defers hM.size hM.old (hM.glob i (by omega) hif) (hM.glob L (Nat.le_refl _) (by rw [getD_any (c := true) (by rw [hM.lsize]; omega)]; exact hoff)) (fun e he hb huk oj d hoj hdj => hM.fact e.on oj d hoj hdj (h2 e he hb) (fun k hk => by rw [huk k hk]; exact hif)))
          obtain ⟨v, rfl, hb, hF⟩ := h
          have hfac : ∀ (j : Nat) (oj : Oper) (d : Tmp), i ≠ j → ops[j]? = some oj → oj.dst = some d → listed.getD j false = true → (∀ k, use j = some k → (listed.setIfInBounds i true).getD k false = false) → ∃ v, a'.tmps[d]? = some v ∧ F j v w2 := fun j oj d hji hoj hdj hlj huj => by
            have hne : use j ≠ some i := fun e => by have := huj i e; rw [getD_set_same hil] at this; cases this
            have huj' : ∀ k, use j = some k → listed.getD k false = false := fun k hk => by
              have := huj k hk
              rwa [getD_set_other (fun e => hne (by rw [e]; exact hk))] at this
            obtain ⟨u, hu, hFu⟩ := hM.fact j oj d hoj hdj hlj huj'
            have hjs : j < ops.size := (Array.getElem?_eq_some_iff.1 hoj).1
            have hjL : j ≠ L := fun e => by rw [e, getD_any (c := true) (by rw [hM.lsize]; omega), hoff] at hlj; cases hlj
            exact ⟨u, hu, hFm j i u _ _ (Ne.symm hji) (by omega) hiL' hne (fun k hk hmem => by
              have := ancs_listed hM.closed ops.size i o ho h2 k hmem
              rw [huj' k hk] at this; cases this) (fun hmem => by
              have := ancs_listed hM.closed ops.size j oj hoj (hM.closed j oj hoj hlj) i hmem
              rw [hif] at this; cases this) hFu hb⟩
          refine ih _ _ _ ⟨?_, ?_, ?_, ?_, ?_, ?_, ?_⟩ (by rw [getD_set_other hiL]; exact hoff) ?_
          · cases o.dst <;> exact hM.defers
          · cases o.dst <;> simp [Act.put, hM.size]
          · simp [hM.lsize]
          · intro j oj hoj hlj e he hbe
            by_cases hje : i = e.on
            · rw [hje]; exact getD_set_same (by omega)
            · rw [getD_set_other hje]
              by_cases hji : i = j
              · subst hji
                have : oj = o := by rw [ho] at hoj; injection hoj with hoj; exact hoj.symm
                subst this
                exact h2 e he hbe
              · rw [getD_set_other hji] at hlj
                exact hM.closed j oj hoj hlj e he hbe
          · intro t ht
            rw [← hM.old t ht]
            have := ht i o hiL' ho
            cases hd : o.dst with
            | none => rfl
            | some d => simp only [Act.put]; exact Array.getElem?_setIfInBounds_ne (by intro e; rw [hd, e] at this; exact this rfl)
          · intro j hj hlj
            by_cases hji : i = j
            · subst hji; rw [getD_set_same hil] at hlj; cases hlj
            · rw [getD_set_other hji] at hlj
              refine hGm i j _ _ hji hiL' hj (fun hmem => ?_) (hM.glob j hj hlj) hb
              have := ancs_listed hM.closed ops.size i o ho h2 j hmem
              rw [hlj] at this; cases this
          · intro j oj d hoj hdj hlj huj
            by_cases hji : i = j
            · subst hji
              have : oj = o := by rw [ho] at hoj; injection hoj with hoj; exact hoj.symm
              subst this
              have hds := hsz i oj d hoj hdj
              refine ⟨v, ?_, hF⟩
              rw [hdj]
              simp [Act.put, hM.size, hds]
            · rw [getD_set_other hji] at hlj
              obtain ⟨u, hu, hFu⟩ := hfac j oj d hji hoj hdj hlj huj
              refine ⟨u, ?_, hFu⟩
              rw [← hu]
              cases hd : o.dst with
              | none => rfl
              | some d' => simp only [Act.put]; exact Array.getElem?_setIfInBounds_ne (by intro e; exact hji (hdst i j o oj d ho hoj (by rw [hd, e]) hdj))
          · have h3 : listed.toList[i]? = some false := by simp [hil] at h1 ⊢; exact h1
            have h4 := count_set _ _ h3
            rw [Array.toList_setIfInBounds]
            omega
  have hLo : L < ops.size := by omega
  refine wp_region_any hm (main ops.size (Array.replicate ops.size false) a _ ⟨hd, rfl, by simp, ?_, fun _ _ => rfl, fun j hj _ => hG j hj, ?_⟩ (by simp [hLo]) ?_)
  · intro i o ho hl
    have hio : i < ops.size := (Array.getElem?_eq_some_iff.1 ho).1
    simp [hio] at hl
  · intro i o d ho _ hl _
    have hio : i < ops.size := (Array.getElem?_eq_some_iff.1 ho).1
    simp [hio] at hl
  · refine Nat.le_trans List.count_le_length ?_
    simp
def waitsForU (ops : Array Oper) (use : Nat → Option Nat) (i j : Nat) : Option Tmp := match use j with
  | none => waitsFor ops i j
  | some k => if k = i then waitsFor ops i j else none
theorem drawnU {id : Nat} {a : Act} {w : World} (hm : P.follows .mixedOrders = true) (L n : Nat) (G : Nat → World → Prop) (F : Nat → Value → World → Prop) (R : Nat → World → World → Prop) (use : Nat → Option Nat)
    (hn : a.tmps.size = n) (hok : drawnOk ops L n = true) (hd : a.defers = [])
    (hG : ∀ j, j ≤ L → G j w.drew) (hFm : ∀ i j v w w', i ≠ j → i < L → j < L → use i ≠ some j → (∀ k, use i = some k → k ∉ ancs ops ops.size j) → j ∉ ancs ops ops.size i → F i v w → R j w w' → F i v w') (hGm : ∀ i j w w', i ≠ j → i < L → j ≤ L → j ∉ ancs ops ops.size i → G j w → R i w w' → G j w')
    (hstep : ∀ (i : Nat) (o : Oper) (a' : Act) (w' : World), i < L → ops[i]? = some o → a'.defers = [] → (∀ t : Nat, (ops.toList.take L).all (fun o => !decide (o.dst = some t)) = true → a'.tmps[t]? = a.tmps[t]?) → G i w' → G L w' →
      (∀ j d, waitsForU ops use i j = some d → ∃ v, a'.tmps[d]? = some v ∧ F j v w') → o.wp P a' w' (fun a2 w2 => ∃ v, a2 = a'.put o.dst v ∧ R i w' w2 ∧ F i v w2) Q)
    (hlast : ∀ (o : Oper) (a' : Act) (w' : World), ops[L]? = some o → a'.defers = [] → a'.tmps.size = n → (∀ t : Nat, (ops.toList.take L).all (fun o => !decide (o.dst = some t)) = true → a'.tmps[t]? = a.tmps[t]?) → G L w' →
      (∀ i d, i < L → use i = none → dstOf ops i = some d → ∃ v, a'.tmps[d]? = some v ∧ F i v w') → o.wp P a' w' (fun a2 w2 => Q .normal a2 w2) Q) :
    (Code.region id ops true).wp P Q a w := by
  simp only [drawnOk, Bool.and_eq_true, decide_eq_true_eq, List.all_eq_true, List.mem_range] at hok
  obtain ⟨⟨hL, h1⟩, h2⟩ := hok
  have hall : ∀ (i : Nat) (o : Oper), ops[i]? = some o → o.guard.isNone = true ∧ (∀ e ∈ o.after.toList, e.on < i) ∧ (∀ d, o.dst = some d → d < n ∧ ∀ j o', ops[j]? = some o' → o'.dst = some d → i = j) := by
    intro i o ho
    have hi : i < ops.size := (Array.getElem?_eq_some_iff.1 ho).1
    have := h1 i hi
    rw [ho] at this
    simp only [Bool.and_eq_true, List.all_eq_true, decide_eq_true_eq] at this
    obtain ⟨k1, k2, k3⟩ := this
    refine ⟨k1, k2, fun d hd => ?_⟩
    rw [hd] at k3
    simp only [Bool.and_eq_true, List.all_eq_true, decide_eq_true_eq, List.mem_range, Bool.or_eq_true] at k3
    refine ⟨k3.1, fun j o' ho' hd' => ?_⟩
    have hj : j < ops.size := (Array.getElem?_eq_some_iff.1 ho').1
    rcases k3.2 j hj with h | h
    · exact h
    · rw [ho'] at h; simp [hd'] at h
  have hold : ∀ t : Nat, (ops.toList.take L).all (fun o => !decide (o.dst = some t)) = true → ∀ (i : Nat) (o : Oper), i < L → ops[i]? = some o → o.dst ≠ some t := by
    intro t ht i o hi ho
    have hm : o ∈ ops.toList.take L := by
      have := List.mem_of_getElem? (l := ops.toList.take L) (i := i) (a := o) (by rw [List.getElem?_take_of_lt hi]; simpa using ho)
      exact this
    have := List.all_eq_true.1 ht o hm
    simpa using this
  refine drawnU_law hm L G F R use hd hL (fun i o ho => by have := (hall i o ho).1; simpa using this) (fun i o ho e he => (hall i o ho).2.1 e (by simpa using he)) (fun i j o o' d ho ho' hd hd' => ((hall i o ho).2.2 d hd).2 j o' ho' hd') (fun i o d ho hd => by rw [hn]; exact ((hall i o ho).2.2 d hd).1)
    (fun j hj => by simpa using h2 j hj) hG hFm hGm ?_ ?_
  · intro i o a' w' ho hi hd' hs hold' hGi hGL hw
    refine hstep i o a' w' hi ho hd' (fun t ht => hold' t (hold t ht)) hGi hGL (fun j d hj => ?_)
    have huj : (∀ k, use j = some k → k = i) ∧ waitsFor ops i j = some d := by
      unfold waitsForU at hj
      cases hu : use j with
      | none => rw [hu] at hj; exact ⟨fun k hk => (by cases hk), hj⟩
      | some k =>
        rw [hu] at hj
        simp only at hj
        split at hj
        · rename_i hk; subst hk; exact ⟨fun k' hk' => (by injection hk' with hk'; exact hk'.symm), hj⟩
        · cases hj
    obtain ⟨huj, hj⟩ := huj
    unfold waitsFor at hj
    rw [ho] at hj
    simp only at hj
    split at hj
    · rename_i hany
      obtain ⟨e, he, he2⟩ := List.any_eq_true.1 hany
      simp only [Bool.and_eq_true, decide_eq_true_eq] at he2
      obtain ⟨rfl, hb⟩ := he2
      cases ho2 : ops[e.on]? with
      | none => rw [ho2] at hj; cases hj
      | some oj => rw [ho2] at hj; exact hw e (by simpa using he) hb huj oj d ho2 hj
    · cases hj
  · intro o a' w' ho hd' hs hold' hGL hw
    refine hlast o a' w' ho hd' (by rw [hs, hn]) (fun t ht => hold' t (hold t ht)) hGL (fun i d hi hui hd => ?_)
    unfold dstOf at hd
    cases ho2 : ops[i]? with
    | none => rw [ho2] at hd; cases hd
    | some oj => rw [ho2] at hd; exact hw i oj d hi hui ho2 hd
theorem drawnU2 {P : Program} {ops : Array Oper} {Q : Exit → Act → World → Prop} {id : Nat} {a : Act} {w : World} (hm : P.follows .mixedOrders = true) (L n : Nat) (ds : List Nat) (G : Nat → World → Prop) (F : Nat → Value → World → Prop) (R : Nat → World → World → Prop) (use : Nat → Option Nat)
    (hn : a.tmps.size = n) (hok : drawnOk ops L n = true) (hds : (ops.toList.take L).filterMap (·.dst) = ds) (hd : a.defers = [])
    (hG : ∀ j, j ≤ L → G j w.drew) (hFm : ∀ i j v w w', i ≠ j → i < L → j < L → use i ≠ some j → (∀ k, use i = some k → k ∉ ancs ops ops.size j) → j ∉ ancs ops ops.size i → F i v w → R j w w' → F i v w') (hGm : ∀ i j w w', i ≠ j → i < L → j ≤ L → j ∉ ancs ops ops.size i → G j w → R i w w' → G j w')
    (hstep : ∀ (i : Nat) (o : Oper) (a' : Act) (w' : World), i < L → ops[i]? = some o → a'.defers = [] → (∀ t : Nat, (ops.toList.take L).all (fun o => !decide (o.dst = some t)) = true → a'.tmps[t]? = a.tmps[t]?) → G i w' → G L w' →
      (∀ j d, waitsForU ops use i j = some d → ∃ v, a'.tmps[d]? = some v ∧ F j v w') → o.wp P a' w' (fun a2 w2 => ∃ v, a2 = a'.put o.dst v ∧ R i w' w2 ∧ F i v w2) Q)
    (hlast : ∀ (o : Oper) (u : Nat → Value) (w' : World), ops[L]? = some o → G L w' → (∀ i d, i < L → use i = none → dstOf ops i = some d → F i (u d) w') → o.wp P (ds.foldl (fun x d => x.put (some d) (u d)) a) w' (fun a2 w2 => Q .normal a2 w2) Q) :
    (Code.region id ops true).wp P Q a w := by
  refine drawnU hm L n G F R use hn hok hd hG hFm hGm hstep ?_
  intro o a' w' ho hd' hs hold hGL hw
  obtain ⟨u, hu, huv⟩ := frame_of (a := a) (a' := a') ds (by rw [hs, hn]) (by rw [hd', hd]) (fun t ht => hold t (List.all_eq_true.2 fun o ho => by
    simp only [Bool.not_eq_true', decide_eq_false_iff_not]
    intro e
    exact ht (by rw [← hds]; exact List.mem_filterMap.2 ⟨o, ho, e⟩)))
  rw [hu]
  refine hlast o u w' ho hGL (fun i d hi hui hdd => ?_)
  obtain ⟨v, hv, hF⟩ := hw i d hi hui hdd
  rw [huv d v hv]
  exact hF
def keepOk (ops : Array Oper) (L : Nat) (use : Nat → Option Nat) (pair : Nat → Nat → Bool) : Bool :=
  (List.range L).all fun i => (List.range L).all fun j => decide (i = j) || (decide (use i = some j) || ((match use i with | some k => (ancs ops ops.size j).contains k | none => false) || ((ancs ops ops.size i).contains j || pair i j)))
theorem keepOk_pair {ops : Array Oper} {L : Nat} {use : Nat → Option Nat} {pair : Nat → Nat → Bool} (h : keepOk ops L use pair = true) {i j : Nat} (hij : i ≠ j) (hi : i < L) (hj : j < L) (h1 : use i ≠ some j) (h2 : ∀ k, use i = some k → k ∉ ancs ops ops.size j) (h3 : j ∉ ancs ops ops.size i) : pair i j = true := by
  have q := List.all_eq_true.1 (List.all_eq_true.1 h i (List.mem_range.2 hi)) j (List.mem_range.2 hj)
  simp only [Bool.or_eq_true, decide_eq_true_eq, List.contains_iff_mem] at q
  rcases q with q | q | q | q | q
  · exact absurd q hij
  · exact absurd q h1
  · cases hu : use i with
    | none => rw [hu] at q; cases q
    | some k =>
      rw [hu] at q
      exact absurd (by simpa using q) (h2 k hu)
  · exact absurd q h3
  · exact q
theorem drawnU3 {id : Nat} {a : Act} {w : World} (hm : P.follows .mixedOrders = true) (L n : Nat) (ds : List Nat) (G : World → Prop) (F : Nat → Value → World → Prop) (R : Nat → World → World → Prop) (use : Nat → Option Nat) (pair : Nat → Nat → Bool)
    (hn : a.tmps.size = n) (hok : drawnOk ops L n = true) (hds : (ops.toList.take L).filterMap (·.dst) = ds) (hpr : keepOk ops L use pair = true) (hd : a.defers = [])
    (hG : G w.drew) (hFm : ∀ i j v w w', i ≠ j → pair i j = true → F i v w → R j w w' → F i v w') (hGm : ∀ i w w', G w → R i w w' → G w')
    (hstep : ∀ (i : Nat) (o : Oper) (a' : Act) (w' : World), i < L → ops[i]? = some o → a'.defers = [] → (∀ t : Nat, (ops.toList.take L).all (fun o => !decide (o.dst = some t)) = true → a'.tmps[t]? = a.tmps[t]?) → G w' →
      (∀ j d, waitsForU ops use i j = some d → ∃ v, a'.tmps[d]? = some v ∧ F j v w') → o.wp P a' w' (fun a2 w2 => ∃ v, a2 = a'.put o.dst v ∧ R i w' w2 ∧ F i v w2) Q)
    (hlast : ∀ (o : Oper) (u : Nat → Value) (w' : World), ops[L]? = some o → G w' → (∀ i d, i < L → use i = none → dstOf ops i = some d → F i (u d) w') → o.wp P (ds.foldl (fun x d => x.put (some d) (u d)) a) w' (fun a2 w2 => Q .normal a2 w2) Q) :
    (Code.region id ops true).wp P Q a w :=
  drawnU2 hm L n ds (fun _ => G) F R use hn hok hds hd (fun _ _ => hG) (fun i j v w w' hij hi hj h1 h2 h3 hf hr => hFm i j v w w' hij (keepOk_pair hpr hij hi hj h1 h2 h3) hf hr) (fun i _ w w' _ _ _ _ hg hr => hGm i w w' hg hr)
    (fun i o a' w' hi ho hd' hold hG _ hw => hstep i o a' w' hi ho hd' hold hG hw) hlast
end
end Go.Proofs.YtgphngjniplonaaGreatDoor

namespace Go.Proofs.YtgphngjniplonaaGreatDoor
open Go.RowKit
theorem put_bounds {k n : Nat} (hk : k ≤ n) (hn : n ≤ 5000) : 0 + k ≤ maxLen ∧ (0 + k) * 24 ≤ 140737488355328 ∧ k + 1 ≤ maxLen ∧ (k + 1) * 24 ≤ 140737488355328 ∧ k + 1 + (n - k) ≤ maxLen ∧ (k + 1 + (n - k)) * 24 ≤ 140737488355328 := by
  simp only [maxLen]
  refine ⟨?_, ?_, ?_, ?_, ?_, ?_⟩ <;> omega
theorem op_empty {P : Program} {o : Oper} {a : Act} {w : World} {K : Act → World → Prop} {Q : Exit → Act → World → Prop} (t e : TypeId) (ho : o.op = .buildSlice t 0 #[]) (hu : P.underlying t = some (.slice e)) {ie : TypeInfo} (hie : P.info? e = some ie)
    (h : K (a.put o.dst (.slice (some ⟨w.heap.size, 0, none⟩) 0 0)) (w.alloc (.cells #[] e))) : o.wp P a w K Q := by
  have hrun : (Instr.buildSlice t 0 #[]).run P w = .ok (.slice (some ⟨w.heap.size, 0, none⟩) 0 0) (w.alloc (.cells #[] e)) := by
    simp [Instr.buildSlice, run_underlying hu, sizeOf, typeInfo, hie, Instr.fill, newRow]
    congr 2
    apply Array.ext
    · simp
    · intro i h1 h2; simp at h2
  unfold Oper.wp execOp
  simp only [ho, Sem.run_bind, List.map_toArray, List.map_nil, hrun, Result.andThen_ok]
  exact h
def putF (l : List GEdge) (q : GEdge) (A : Option Addr) (n c k : Nat) (S5 : Option Addr) (c5 B : Nat) : Nat → Value → World → Prop
  | 0, v, w => ∃ g, v = .slice (some ⟨g, 0, none⟩) 0 0 ∧ B ≤ g ∧ w.heap[g]? = some (.cells #[] 49 (0, 0))
  | 1, v, _ => v = .slice A n c
  | 2, v, _ => v = .int .i64 (k : Int)
  | 3, v, _ => v = .slice A k c
  | 4, v, w => ∃ A2 c2, v = .slice A2 k c2 ∧ w.ownsRow B 49 3 (.slice A2 k c2) k ((l.take k).flatMap GEdge.cells)
  | 5, v, _ => v = q.v
  | 6, v, w => ∃ g, v = .slice (some ⟨g, 0, none⟩) 1 1 ∧ B ≤ g ∧ w.heap[g]? = some (.cells (GEdge.cells q).toArray 49 (0, 0))
  | 7, v, w => ∃ A2 c2, v = .slice A2 (k + 1) c2 ∧ w.ownsRow B 49 3 (.slice A2 (k + 1) c2) (k + 1) ((l.take k ++ [q]).flatMap GEdge.cells)
  | 8, v, _ => v = .slice A n c
  | 9, v, _ => v = .int .i64 (k : Int)
  | 10, v, _ => v = .slice S5 (n - k) c5
  | 11, v, w => ∃ A2 c2, v = .slice A2 (k + 1 + (n - k)) c2 ∧ w.ownsRow B 49 3 (.slice A2 (k + 1 + (n - k)) c2) (k + 1 + (n - k)) ((l.take k ++ [q] ++ l.drop k).flatMap GEdge.cells)
  | _, _, _ => True
def putR (B : Nat) : Nat → World → World → Prop
  | 0, w, w' => Below w.heap.size w w'
  | 4, w, w' => Below B w w' ∧ ∃ g, w.heap[g]? = some (.cells #[] 49 (0, 0)) ∧ w.grownBy w' (some g)
  | 6, w, w' => Below w.heap.size w w'
  | 7, w, w' => Below B w w'
  | 11, w, w' => Below B w w'
  | _, w, w' => w' = w
def putUse : Nat → Option Nat
  | 0 => some 4
  | 4 => some 7
  | 6 => some 7
  | 7 => some 11
  | _ => none
def putPair (i j : Nat) : Bool := match i with
  | 0 => !decide (j ∈ [4, 7, 11])
  | 4 => !decide (j ∈ [4, 7, 11])
  | 6 => !decide (j ∈ [7, 11])
  | 7 => !decide (j ∈ [4, 7, 11])
  | 11 => !decide (j ∈ [4, 7, 11])
  | _ => true
theorem putR_cases {B j : Nat} {w w' : World} (h : putR B j w w') (hj : j ∉ [4, 7, 11]) : Below w.heap.size w w' := by
  unfold putR at h
  split at h
  · exact h
  · simp at hj
  · exact h
  · simp at hj
  · simp at hj
  · subst h; exact Below.refl _ _
theorem putR_glob {B j : Nat} {X w w' : World} (hX : B = X.heap.size) (h1 : Below X.heap.size X w) (h : putR B j w w') : Below X.heap.size X w' := by
  subst hX
  by_cases hj : j ∈ [4, 7, 11]
  · refine h1.trans ?_
    simp at hj
    rcases hj with rfl | rfl | rfl
    · exact h.1
    · exact h
    · exact h
  · exact h1.trans ((putR_cases h hj).mono h1.size)
theorem putF_keep {l : List GEdge} {q : GEdge} {A : Option Addr} {n c k : Nat} {S5 : Option Addr} {c5 B : Nat} {i j : Nat} {v : Value} {w w' : World} (hij : i ≠ j) (hp : putPair i j = true) (h : putF l q A n c k S5 c5 B i v w) (hr : putR B j w w') : putF l q A n c k S5 c5 B i v w' := by
  unfold putPair at hp
  unfold putF at h ⊢
  split at hp
  · have hb := putR_cases hr (by simpa using hp)
    obtain ⟨g, h1, h2, h3⟩ := h
    exact ⟨g, h1, h2, (hb.block _ (Array.getElem?_eq_some_iff.1 h3).1).trans h3⟩
  · have hb := putR_cases hr (by simpa using hp)
    obtain ⟨A2, c2, h1, h2⟩ := h
    exact ⟨A2, c2, h1, own_below h2 hb⟩
  · obtain ⟨g, h1, h2, h3⟩ := h
    refine ⟨g, h1, h2, ?_⟩
    by_cases hj : j ∈ [4, 7, 11]
    · have hj4 : j = 4 := by simp at hj hp; omega
      subst hj4
      obtain ⟨-, g', h4, h5⟩ := hr
      refine (h5.block g (Array.getElem?_eq_some_iff.1 h3).1 (fun e => ?_)).trans h3
      injection e with e
      subst e
      rw [h3] at h4
      injection h4 with h4
      injection h4 with h4 _ _
      simp [GEdge.cells] at h4
    · exact ((putR_cases hr hj).block _ (Array.getElem?_eq_some_iff.1 h3).1).trans h3
  · have hb := putR_cases hr (by simpa using hp)
    obtain ⟨A2, c2, h1, h2⟩ := h
    exact ⟨A2, c2, h1, own_below h2 hb⟩
  · have hb := putR_cases hr (by simpa using hp)
    obtain ⟨A2, c2, h1, h2⟩ := h
    exact ⟨A2, c2, h1, own_below h2 hb⟩
  · rename_i hh0 hh4 hh6 hh7 hh11
    match i, hh0, hh4, hh6, hh7, hh11, h with
    | 1, _, _, _, _, _, h => exact h
    | 2, _, _, _, _, _, h => exact h
    | 3, _, _, _, _, _, h => exact h
    | 5, _, _, _, _, _, h => exact h
    | 8, _, _, _, _, _, h => exact h
    | 9, _, _, _, _, _, h => exact h
    | 10, _, _, _, _, _, h => exact h
    | n + 12, _, _, _, _, _, h => exact h
    | 0, h0, _, _, _, _, _ => exact absurd rfl h0
    | 4, _, h0, _, _, _, _ => exact absurd rfl h0
    | 6, _, _, h0, _, _, _ => exact absurd rfl h0
    | 7, _, _, _, h0, _, _ => exact absurd rfl h0
    | 11, _, _, _, _, h0, _ => exact absurd rfl h0
end Go.Proofs.YtgphngjniplonaaGreatDoor
