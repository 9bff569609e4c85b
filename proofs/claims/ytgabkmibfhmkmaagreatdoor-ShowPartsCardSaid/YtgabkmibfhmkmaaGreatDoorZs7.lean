/- My own texts DrawnJ, TwoJ, as far as this claim needs them. -/
import Derived.Test.YtgabkmibfhmkmaaGreatDoorZs4
set_option linter.unusedVariables false
set_option linter.unusedSimpArgs false
namespace Go.Proofs.YtgabkmibfhmkmaaGreatDoor
open Go.RowKit
/-- what is known in the midst of the region -/
structure MidJ (ops : Array Oper) (base : Array Value) (L : Nat) (G : Nat → World → Prop) (F : Nat → Value → World → Prop) (J : (Nat → Bool) → Array Value → World → Prop) (listed : Array Bool) (a : Act) (w : World) : Prop where
  defers : a.defers = []
  size : a.tmps.size = base.size
  lsize : listed.size = ops.size
  closed : ∀ (i : Nat) (o : Oper), ops[i]? = some o → listed.getD i false = true → ∀ e ∈ o.after, Region.binds .any e = true → listed.getD e.on false = true
  old : ∀ t : Nat, (∀ (i : Nat) (o : Oper), i < L → ops[i]? = some o → o.dst ≠ some t) → a.tmps[t]? = base[t]?
  glob : ∀ j, j ≤ L → listed.getD j false = false → G j w
  fact : ∀ (i : Nat) (o : Oper) (d : Tmp), ops[i]? = some o → o.dst = some d → listed.getD i false = true → ∃ v, a.tmps[d]? = some v ∧ F i v w
  joint : J (fun j => listed.getD j false) a.tmps w
section
variable {P : Program} {ops : Array Oper} {Q : Exit → Act → World → Prop}
/-- the law -/
theorem drawn_lawJ {id : Nat} {a : Act} {w : World} (hm : P.follows .mixedOrders = true) (L : Nat) (G : Nat → World → Prop) (F : Nat → Value → World → Prop) (R : Nat → World → World → Prop) (J : (Nat → Bool) → Array Value → World → Prop)
    (hd : a.defers = []) (hL : L + 1 = ops.size) (hg : ∀ (i : Nat) (o : Oper), ops[i]? = some o → o.guard = none) (hord : ∀ (i : Nat) (o : Oper), ops[i]? = some o → ∀ e ∈ o.after, Region.binds .any e = true → e.on < i)
    (hdst : ∀ (i j : Nat) (o o' : Oper) (d : Tmp), ops[i]? = some o → ops[j]? = some o' → o.dst = some d → o'.dst = some d → i = j) (hsz : ∀ (i : Nat) (o : Oper) (d : Tmp), ops[i]? = some o → o.dst = some d → d < a.tmps.size)
    (hanc : ∀ j, j < L → j ∈ ancs ops ops.size L)
    (hJ0 : J (fun _ => false) a.tmps w.drew) (hG : ∀ j, j ≤ L → G j w.drew) (hFm : ∀ i j v w w', i ≠ j → i < L → j < L → F i v w → R j w w' → F i v w') (hGm : ∀ i j w w', i ≠ j → i < L → j ≤ L → j ∉ ancs ops ops.size i → G j w → R i w w' → G j w')
    (hstep : ∀ (l : Nat → Bool) (i : Nat) (o : Oper) (a' : Act) (w' : World), J l a'.tmps w' → l i = false → (∀ e ∈ o.after, Region.binds .any e = true → l e.on = true) → ops[i]? = some o → i < L → a'.defers = [] → a'.tmps.size = a.tmps.size → (∀ t : Nat, (∀ (i : Nat) (o : Oper), i < L → ops[i]? = some o → o.dst ≠ some t) → a'.tmps[t]? = a.tmps[t]?) → G i w' → G L w' →
      (∀ e ∈ o.after, Region.binds .any e = true → ∀ oj d, ops[e.on]? = some oj → oj.dst = some d → ∃ v, a'.tmps[d]? = some v ∧ F e.on v w') → o.wp P a' w' (fun a2 w2 => ∃ v, a2 = a'.put o.dst v ∧ R i w' w2 ∧ F i v w2 ∧ ∀ l' : Nat → Bool, l' i = true → (∀ j, j ≠ i → l' j = l j) → J l' (a'.put o.dst v).tmps w2) Q)
    (hlast : ∀ (l : Nat → Bool) (o : Oper) (a' : Act) (w' : World), J l a'.tmps w' → (∀ j, j < L → l j = true) → ops[L]? = some o → a'.defers = [] → a'.tmps.size = a.tmps.size → (∀ t : Nat, (∀ (i : Nat) (o : Oper), i < L → ops[i]? = some o → o.dst ≠ some t) → a'.tmps[t]? = a.tmps[t]?) → G L w' →
      (∀ (i : Nat) (oj : Oper) (d : Tmp), i < L → ops[i]? = some oj → oj.dst = some d → ∃ v, a'.tmps[d]? = some v ∧ F i v w') → o.wp P a' w' (fun a2 w2 => Q .normal a2 w2) Q) :
    (Code.region id ops true).wp P Q a w := by
  have main : ∀ (fuel : Nat) (listed : Array Bool) (a' : Act) (w' : World), MidJ ops a.tmps L G F J listed a' w' → listed.getD L true = false → listed.toList.count false ≤ fuel → wpAny P .any ops Q fuel listed a' w' := by
    intro fuel
    induction fuel with
    | zero =>
      intro listed a' w' hM hoff hc
      have : false ∈ listed.toList := by
        have hl : L < listed.size := by rw [hM.lsize]; omega
        have h1 : listed[L]? = some false := by simp [hl] at hoff ⊢; exact hoff
        exact List.mem_iff_getElem?.2 ⟨L, by simpa using h1⟩
      have := List.count_pos_iff.2 this
      omega
    | succ fuel ih =>
      intro listed a' w' hM hoff hc
      refine ⟨fun hr => ?_, fun i hi => ?_⟩
      · exfalso
        obtain ⟨i, h1, h2⟩ := least_off listed (fun _ => True) ops.size ⟨L, by omega, hoff⟩
        have hil : i < listed.size := by
          rcases Nat.lt_or_ge i listed.size with h | h
          · exact h
          · simp [Array.getElem?_eq_none h] at h1
        have hio : i < ops.size := by rw [← hM.lsize]; exact hil
        have : i ∈ Region.ready .any ops listed := mem_ready.2 ⟨h1, ops[i], by simp [hio], fun e he hbe => by
          have h3 := hord i ops[i] (by simp [hio]) e he hbe
          have h4 := h2 e.on h3
          rwa [getD_any (by omega) true false] at h4⟩
        rw [hr] at this; cases this
      · obtain ⟨h1, o, ho, h2⟩ := mem_ready.1 hi
        have hio : i < ops.size := (Array.getElem?_eq_some_iff.1 ho).1
        have hil : i < listed.size := by rw [hM.lsize]; exact hio
        have hw : Region.wanted o (yielded ops a'.tmps) = true := by simp [Region.wanted, hg i o ho]
        unfold wpOp
        rw [ho]
        simp only [hw, if_true]
        left
        by_cases hiL : i = L
        · subst hiL
          have hall : ∀ j, j < i → listed.getD j false = true := fun j hj => ancs_listed hM.closed ops.size i o ho h2 j (hanc j hj)
          refine Oper.wp_mono (fun a2 w2 h => ?_) (hlast _ o a' w' hM.joint hall ho hM.defers hM.size hM.old (hM.glob i (Nat.le_refl _) (by rw [getD_any (c := true) (by omega)]; exact hoff)) (fun j oj d hj hoj hdj => hM.fact j oj d hoj hdj (hall j hj)))
          refine wpAny_end ?_ h fuel
          apply List.eq_nil_iff_forall_not_mem.2
          intro j hj
          obtain ⟨h3, oj, hoj, -⟩ := mem_ready.1 hj
          have hjo : j < ops.size := (Array.getElem?_eq_some_iff.1 hoj).1
          by_cases hji : i = j
          · subst hji; rw [getD_set_same hil] at h3; cases h3
          · rw [getD_set_other hji, getD_any (c := false) (by omega), hall j (by omega)] at h3; cases h3
        · have hiL' : i < L := by omega
          have hif : listed.getD i false = false := by rw [getD_any (c := true) (by omega)]; exact h1
          refine Oper.wp_mono (fun a2 w2 h => ?_) (hstep _ i o a' w' hM.joint hif h2 ho hiL' hM.defers hM.size hM.old (hM.glob i (by omega) hif) (hM.glob L (Nat.le_refl _) (by rw [getD_any (c := true) (by rw [hM.lsize]; omega)]; exact hoff)) (fun e he hb oj d hoj hdj => hM.fact e.on oj d hoj hdj (h2 e he hb)))
          obtain ⟨v, rfl, hb, hF, hJ⟩ := h
          have hfac : ∀ (j : Nat) (oj : Oper) (d : Tmp), i ≠ j → ops[j]? = some oj → oj.dst = some d → listed.getD j false = true → ∃ v, a'.tmps[d]? = some v ∧ F j v w2 := fun j oj d hji hoj hdj hlj => by
            obtain ⟨u, hu, hFu⟩ := hM.fact j oj d hoj hdj hlj
            have hjs : j < ops.size := (Array.getElem?_eq_some_iff.1 hoj).1
            have hjL : j ≠ L := fun e => by rw [e, getD_any (c := true) (by rw [hM.lsize]; omega), hoff] at hlj; cases hlj
            exact ⟨u, hu, hFm j i u _ _ (Ne.symm hji) (by omega) hiL' hFu hb⟩
          refine ih _ _ _ ⟨?_, ?_, ?_, ?_, ?_, ?_, ?_, hJ _ (getD_set_same hil) (fun j hj => getD_set_other (Ne.symm hj))⟩ (by rw [getD_set_other hiL]; exact hoff) ?_
          · cases o.dst <;> exact hM.defers
          · cases o.dst <;> simp [Act.put, hM.size]
          · simp [hM.lsize]
          · intro j oj hoj hlj e he hbe
            by_cases hje : i = e.on
            · rw [hje]; exact getD_set_same (by omega)
            · rw [getD_set_other hje]
              by_cases hji : i = j
              · subst hji
                have : oj = o := by rw [ho] at hoj; injection hoj with hoj; exact hoj.symm
                subst this
                exact h2 e he hbe
              · rw [getD_set_other hji] at hlj
                exact hM.closed j oj hoj hlj e he hbe
          · intro t ht
            rw [← hM.old t ht]
            have := ht i o hiL' ho
            cases hd : o.dst with
            | none => rfl
            | some d => simp only [Act.put]; exact Array.getElem?_setIfInBounds_ne (by intro e; rw [hd, e] at this; exact this rfl)
          · intro j hj hlj
            by_cases hji : i = j
            · subst hji; rw [getD_set_same hil] at hlj; cases hlj
            · rw [getD_set_other hji] at hlj
              refine hGm i j _ _ hji hiL' hj (fun hmem => ?_) (hM.glob j hj hlj) hb
              have := ancs_listed hM.closed ops.size i o ho h2 j hmem
              rw [hlj] at this; cases this
          · intro j oj d hoj hdj hlj
            by_cases hji : i = j
            · subst hji
              have : oj = o := by rw [ho] at hoj; injection hoj with hoj; exact hoj.symm
              subst this
              have hds := hsz i oj d hoj hdj
              refine ⟨v, ?_, hF⟩
              rw [hdj]
              simp [Act.put, hM.size, hds]
            · rw [getD_set_other hji] at hlj
              obtain ⟨u, hu, hFu⟩ := hfac j oj d hji hoj hdj hlj
              refine ⟨u, ?_, hFu⟩
              rw [← hu]
              cases hd : o.dst with
              | none => rfl
              | some d' => simp only [Act.put]; exact Array.getElem?_setIfInBounds_ne (by intro e; exact hji (hdst i j o oj d ho hoj (by rw [hd, e]) hdj))
          · have h3 : listed.toList[i]? = some false := by simp [hil] at h1 ⊢; exact h1
            have h4 := count_set _ _ h3
            rw [Array.toList_setIfInBounds]
            omega
  have hLo : L < ops.size := by omega
  refine wp_region_any hm (main ops.size (Array.replicate ops.size false) a _ ⟨hd, rfl, by simp, ?_, fun _ _ => rfl, fun j hj _ => hG j hj, ?_, by
    have : (fun j => (Array.replicate ops.size false).getD j false) = fun _ => false := by
      funext j
      by_cases h : j < ops.size <;> simp [h]
    rw [this]; exact hJ0⟩ (by simp [hLo]) ?_)
  · intro i o ho hl
    have hio : i < ops.size := (Array.getElem?_eq_some_iff.1 ho).1
    simp [hio] at hl
  · intro i o d ho _ hl
    have hio : i < ops.size := (Array.getElem?_eq_some_iff.1 ho).1
    simp [hio] at hl
  · refine Nat.le_trans List.count_le_length ?_
    simp
/-- what the law asks of a region, to be reckoned -/
def drawnOkJ (ops : Array Oper) (L n : Nat) : Bool :=
  decide (L + 1 = ops.size) && ((List.range ops.size).all fun i => match ops[i]? with
    | none => true
    | some o => o.guard.isNone && (o.after.toList.all (fun e => decide (e.on < i) || !Region.binds .any e) && (match o.dst with
      | none => true
      | some d => decide (d < n) && (List.range ops.size).all (fun j => decide (i = j) || (match ops[j]? with | none => true | some o' => !decide (o'.dst = some d)))))) &&
  (List.range L).all (fun j => (ancs ops ops.size L).contains j)
theorem drawnJ {id : Nat} {a : Act} {w : World} (hm : P.follows .mixedOrders = true) (L n : Nat) (G : Nat → World → Prop) (F : Nat → Value → World → Prop) (R : Nat → World → World → Prop) (J : (Nat → Bool) → Array Value → World → Prop)
    (hn : a.tmps.size = n) (hok : drawnOkJ ops L n = true) (hd : a.defers = [])
    (hJ0 : J (fun _ => false) a.tmps w.drew) (hG : ∀ j, j ≤ L → G j w.drew) (hFm : ∀ i j v w w', i ≠ j → i < L → j < L → F i v w → R j w w' → F i v w') (hGm : ∀ i j w w', i ≠ j → i < L → j ≤ L → j ∉ ancs ops ops.size i → G j w → R i w w' → G j w')
    (hstep : ∀ (l : Nat → Bool) (i : Nat) (o : Oper) (a' : Act) (w' : World), J l a'.tmps w' → l i = false → (∀ e ∈ o.after, Region.binds .any e = true → l e.on = true) → i < L → ops[i]? = some o → a'.defers = [] → a'.tmps.size = n → (∀ t : Nat, (ops.toList.take L).all (fun o => !decide (o.dst = some t)) = true → a'.tmps[t]? = a.tmps[t]?) → G i w' → G L w' →
      (∀ j d, waitsFor ops i j = some d → ∃ v, a'.tmps[d]? = some v ∧ F j v w') → o.wp P a' w' (fun a2 w2 => ∃ v, a2 = a'.put o.dst v ∧ R i w' w2 ∧ F i v w2 ∧ ∀ l' : Nat → Bool, l' i = true → (∀ j, j ≠ i → l' j = l j) → J l' (a'.put o.dst v).tmps w2) Q)
    (hlast : ∀ (l : Nat → Bool) (o : Oper) (a' : Act) (w' : World), J l a'.tmps w' → (∀ j, j < L → l j = true) → ops[L]? = some o → a'.defers = [] → a'.tmps.size = n → (∀ t : Nat, (ops.toList.take L).all (fun o => !decide (o.dst = some t)) = true → a'.tmps[t]? = a.tmps[t]?) → G L w' →
      (∀ i d, i < L → dstOf ops i = some d → ∃ v, a'.tmps[d]? = some v ∧ F i v w') → o.wp P a' w' (fun a2 w2 => Q .normal a2 w2) Q) :
    (Code.region id ops true).wp P Q a w := by
  simp only [drawnOkJ, Bool.and_eq_true, decide_eq_true_eq, List.all_eq_true, List.mem_range] at hok
  obtain ⟨⟨hL, h1⟩, h2⟩ := hok
  have hall : ∀ (i : Nat) (o : Oper), ops[i]? = some o → o.guard.isNone = true ∧ (∀ e ∈ o.after.toList, Region.binds .any e = true → e.on < i) ∧ (∀ d, o.dst = some d → d < n ∧ ∀ j o', ops[j]? = some o' → o'.dst = some d → i = j) := by
    intro i o ho
    have hi : i < ops.size := (Array.getElem?_eq_some_iff.1 ho).1
    have := h1 i hi
    rw [ho] at this
    simp only [Bool.and_eq_true, List.all_eq_true] at this
    obtain ⟨k1, k2, k3⟩ := this
    refine ⟨k1, fun e he hb => by have := k2 e he; simpa [hb] using this, fun d hd => ?_⟩
    rw [hd] at k3
    simp only [Bool.and_eq_true, List.all_eq_true, decide_eq_true_eq, List.mem_range, Bool.or_eq_true] at k3
    refine ⟨k3.1, fun j o' ho' hd' => ?_⟩
    have hj : j < ops.size := (Array.getElem?_eq_some_iff.1 ho').1
    rcases k3.2 j hj with h | h
    · exact h
    · rw [ho'] at h; simp [hd'] at h
  have hold : ∀ t : Nat, (ops.toList.take L).all (fun o => !decide (o.dst = some t)) = true → ∀ (i : Nat) (o : Oper), i < L → ops[i]? = some o → o.dst ≠ some t := by
    intro t ht i o hi ho
    have hm : o ∈ ops.toList.take L := by
      have := List.mem_of_getElem? (l := ops.toList.take L) (i := i) (a := o) (by rw [List.getElem?_take_of_lt hi]; simpa using ho)
      exact this
    have := List.all_eq_true.1 ht o hm
    simpa using this
  refine drawn_lawJ hm L G F R J hd hL (fun i o ho => by have := (hall i o ho).1; simpa using this) (fun i o ho e he hb => (hall i o ho).2.1 e (by simpa using he) hb) (fun i j o o' d ho ho' hd hd' => ((hall i o ho).2.2 d hd).2 j o' ho' hd') (fun i o d ho hd => by rw [hn]; exact ((hall i o ho).2.2 d hd).1)
    (fun j hj => by simpa using h2 j hj) hJ0 hG hFm hGm ?_ ?_
  · intro l i o a' w' hJ hli hlw ho hi hd' hs hold' hGi hGL hw
    refine hstep l i o a' w' hJ hli hlw hi ho hd' (by rw [hs, hn]) (fun t ht => hold' t (hold t ht)) hGi hGL (fun j d hj => ?_)
    unfold waitsFor at hj
    rw [ho] at hj
    simp only at hj
    split at hj
    · rename_i hany
      obtain ⟨e, he, he2⟩ := List.any_eq_true.1 hany
      simp only [Bool.and_eq_true, decide_eq_true_eq] at he2
      obtain ⟨rfl, hb⟩ := he2
      cases ho2 : ops[e.on]? with
      | none => rw [ho2] at hj; cases hj
      | some oj => rw [ho2] at hj; exact hw e (by simpa using he) hb oj d ho2 hj
    · cases hj
  · intro l o a' w' hJ hlL ho hd' hs hold' hGL hw
    refine hlast l o a' w' hJ hlL ho hd' (by rw [hs, hn]) (fun t ht => hold' t (hold t ht)) hGL (fun i d hi hd => ?_)
    unfold dstOf at hd
    cases ho2 : ops[i]? with
    | none => rw [ho2] at hd; cases hd
    | some oj => rw [ho2] at hd; exact hw i oj d hi ho2 hd
/-- the same, the frame at the last operation told -/
theorem drawnJ2 {P : Program} {ops : Array Oper} {Q : Exit → Act → World → Prop} {id : Nat} {a : Act} {w : World} (hm : P.follows .mixedOrders = true) (L n : Nat) (ds : List Nat) (G : Nat → World → Prop) (F : Nat → Value → World → Prop) (R : Nat → World → World → Prop) (J : (Nat → Bool) → Array Value → World → Prop)
    (hn : a.tmps.size = n) (hok : drawnOkJ ops L n = true) (hds : (ops.toList.take L).filterMap (·.dst) = ds) (hd : a.defers = [])
    (hJ0 : J (fun _ => false) a.tmps w.drew) (hG : ∀ j, j ≤ L → G j w.drew) (hFm : ∀ i j v w w', i ≠ j → i < L → j < L → F i v w → R j w w' → F i v w') (hGm : ∀ i j w w', i ≠ j → i < L → j ≤ L → j ∉ ancs ops ops.size i → G j w → R i w w' → G j w')
    (hstep : ∀ (l : Nat → Bool) (i : Nat) (o : Oper) (a' : Act) (w' : World), J l a'.tmps w' → l i = false → (∀ e ∈ o.after, Region.binds .any e = true → l e.on = true) → i < L → ops[i]? = some o → a'.defers = [] → a'.tmps.size = n → (∀ t : Nat, (ops.toList.take L).all (fun o => !decide (o.dst = some t)) = true → a'.tmps[t]? = a.tmps[t]?) → G i w' → G L w' →
      (∀ j d, waitsFor ops i j = some d → ∃ v, a'.tmps[d]? = some v ∧ F j v w') → o.wp P a' w' (fun a2 w2 => ∃ v, a2 = a'.put o.dst v ∧ R i w' w2 ∧ F i v w2 ∧ ∀ l' : Nat → Bool, l' i = true → (∀ j, j ≠ i → l' j = l j) → J l' (a'.put o.dst v).tmps w2) Q)
    (hlast : ∀ (l : Nat → Bool) (o : Oper) (u : Nat → Value) (w' : World), J l (ds.foldl (fun x d => x.put (some d) (u d)) a).tmps w' → (∀ j, j < L → l j = true) → ops[L]? = some o → G L w' → (∀ i d, i < L → dstOf ops i = some d → F i (u d) w') → o.wp P (ds.foldl (fun x d => x.put (some d) (u d)) a) w' (fun a2 w2 => Q .normal a2 w2) Q) :
    (Code.region id ops true).wp P Q a w := by
  refine drawnJ hm L n G F R J hn hok hd hJ0 hG hFm hGm hstep ?_
  intro l o a' w' hJ hlL ho hd' hs hold hGL hw
  obtain ⟨u, hu, huv⟩ := frame_of (a := a) (a' := a') ds (by rw [hs, hn]) (by rw [hd', hd]) (fun t ht => hold t (List.all_eq_true.2 fun o ho => by
    simp only [Bool.not_eq_true', decide_eq_false_iff_not]
    intro e
    exact ht (by rw [← hds]; exact List.mem_filterMap.2 ⟨o, ho, e⟩)))
  rw [hu] at hJ ⊢
  refine hlast l o u w' hJ hlL ho hGL (fun i d hi hdd => ?_)
  obtain ⟨v, hv, hF⟩ := hw i d hi hdd
  rw [huv d v hv]
  exact hF
end
end Go.Proofs.YtgabkmibfhmkmaaGreatDoor

namespace Go.Proofs.YtgabkmibfhmkmaaGreatDoor
open Go.RowKit
theorem below_set {B g : Nat} {w0 w : World} (hb : Below B w0 w) (hg : B ≤ g) (cs : Array Value) : Below B w0 (w.setRow g cs) :=
  ⟨hb.os, hb.tape, hb.output, by rw [setRow_size]; exact hb.size, fun k hk => (setRow_ne (by omega)).trans (hb.block k hk)⟩
theorem below_al {B : Nat} {w0 w : World} (hb : Below B w0 w) (hB : B ≤ w.heap.size) (o : Obj) : Below B w0 (w.alloc o) :=
  hb.trans ((belowA (Below.refl _ w) o).mono hB)
theorem range_on {w w' : World} {b o : Nat} {cs : List Value} (h : w.rangeAt b o cs) (hb : Below w.heap.size w w') : w'.rangeAt b o cs := fun j v hj => below_cell hb (h j v hj)
/-- two boxes, i and j, filled one behind the other -/
def twoJ (B T i0 i1 i2 d0 d1 : Nat) (c1 zs : Array Value) (l : Nat → Bool) (t : Array Value) (W : World) : Prop :=
  ∃ g h : Nat, (l i0 = true → t[d0]? = some (.pointer (some ⟨g, 0, none⟩)) ∧ B ≤ g ∧ g < W.heap.size ∧ ∃ cs : Array Value, cs.size = zs.size ∧ W.heap[g]? = some (.cells cs T (0, 0)) ∧ (l i2 = true → cs = c1) ∧ (l i2 = false → cs = zs)) ∧
    (l i1 = true → t[d1]? = some (.pointer (some ⟨h, 0, none⟩)) ∧ B ≤ h ∧ h < W.heap.size ∧ W.heap[h]? = some (.cells zs T (0, 0))) ∧
    (l i0 = true → l i1 = true → g ≠ h) ∧ (l i2 = true → l i0 = true)
theorem twoJ_val {B T i0 i1 i2 d0 d1 : Nat} {c1 zs : Array Value} {l l' : Nat → Bool} {a : Act} {W : World} {o : Option Tmp} {v : Value} {i : Nat} (h : twoJ B T i0 i1 i2 d0 d1 c1 zs l a.tmps W)
    (n0 : i ≠ i0) (n1 : i ≠ i1) (n2 : i ≠ i2) (m0 : o ≠ some d0) (m1 : o ≠ some d1) (_ : l' i = true) (hl : ∀ j, j ≠ i → l' j = l j) : twoJ B T i0 i1 i2 d0 d1 c1 zs l' (a.put o v).tmps W := by
  obtain ⟨g, k, h1, h2, h3, h4⟩ := h
  have hp : ∀ d : Nat, o ≠ some d → (a.put o v).tmps[d]? = a.tmps[d]? := fun d hd => by
    cases o with
    | none => rfl
    | some q => simp only [Act.put]; exact Array.getElem?_setIfInBounds_ne (by intro e; exact hd (by rw [e]))
  refine ⟨g, k, ?_, ?_, ?_, ?_⟩
  · rw [hl _ (Ne.symm n0), hl _ (Ne.symm n2), hp _ m0]; exact h1
  · rw [hl _ (Ne.symm n1), hp _ m1]; exact h2
  · rw [hl _ (Ne.symm n0), hl _ (Ne.symm n1)]; exact h3
  · rw [hl _ (Ne.symm n0), hl _ (Ne.symm n2)]; exact h4
theorem twoJ_a0 {B T i0 i1 i2 d0 d1 : Nat} {c1 zs : Array Value} {l l' : Nat → Bool} {a : Act} {W : World} (h : twoJ B T i0 i1 i2 d0 d1 c1 zs l a.tmps W)
    (n1 : i1 ≠ i0) (n2 : i2 ≠ i0) (m1 : d1 ≠ d0) (hd : d0 < a.tmps.size) (hB : B ≤ W.heap.size) (ho : l i0 = false) (_ : l' i0 = true) (hl : ∀ j, j ≠ i0 → l' j = l j) : twoJ B T i0 i1 i2 d0 d1 c1 zs l' (a.put (some d0) (.pointer (some ⟨W.heap.size, 0, none⟩))).tmps (W.alloc (.cells zs T)) := by
  obtain ⟨g, k, h1, h2, h3, h4⟩ := h
  refine ⟨W.heap.size, k, fun _ => ⟨by simp [Act.put, hd], hB, by simp, zs, rfl, heapNew rfl, fun h => ?_, fun _ => rfl⟩, ?_, ?_, fun _ => by assumption⟩
  · rw [hl _ n2] at h; rw [h4 h] at ho; cases ho
  · rw [hl _ n1]
    intro h
    obtain ⟨k1, k2, k3, k5⟩ := h2 h
    refine ⟨?_, k2, by simp; omega, heapOld k5⟩
    simp only [Act.put]; exact (Array.getElem?_setIfInBounds_ne (Ne.symm m1)).trans k1
  · intro _ h
    rw [hl _ n1] at h
    have := (h2 h).2.2.1
    omega
theorem twoJ_a1 {B T i0 i1 i2 d0 d1 : Nat} {c1 zs : Array Value} {l l' : Nat → Bool} {a : Act} {W : World} (h : twoJ B T i0 i1 i2 d0 d1 c1 zs l a.tmps W)
    (n0 : i0 ≠ i1) (n2 : i2 ≠ i1) (m0 : d0 ≠ d1) (hd : d1 < a.tmps.size) (hB : B ≤ W.heap.size) (_ : l' i1 = true) (hl : ∀ j, j ≠ i1 → l' j = l j) : twoJ B T i0 i1 i2 d0 d1 c1 zs l' (a.put (some d1) (.pointer (some ⟨W.heap.size, 0, none⟩))).tmps (W.alloc (.cells zs T)) := by
  obtain ⟨g, k, h1, h2, h3, h4⟩ := h
  refine ⟨g, W.heap.size, ?_, fun _ => ⟨by simp [Act.put, hd], hB, by simp, heapNew rfl⟩, ?_, ?_⟩
  · rw [hl _ n0, hl _ n2]
    intro h
    obtain ⟨k1, k2, k3, cs, k4, k5, k6⟩ := h1 h
    refine ⟨?_, k2, by simp; omega, cs, k4, heapOld k5, k6⟩
    simp only [Act.put]; exact (Array.getElem?_setIfInBounds_ne (Ne.symm m0)).trans k1
  · intro h _
    rw [hl _ n0] at h
    have := (h1 h).2.2.1
    omega
  · rw [hl _ n0, hl _ n2]; exact h4
theorem twoJ_s {B T i0 i1 i2 d0 d1 : Nat} {c1 zs : Array Value} {l l' : Nat → Bool} {a : Act} {W : World} {g : Nat} {v : Value} (h : twoJ B T i0 i1 i2 d0 d1 c1 zs l a.tmps W)
    (n0 : i0 ≠ i2) (n1 : i1 ≠ i2) (hg : a.tmps[d0]? = some (.pointer (some ⟨g, 0, none⟩))) (hc : c1.size = zs.size) (ho : l i0 = true) (hs2 : l' i2 = true) (hl : ∀ j, j ≠ i2 → l' j = l j) : twoJ B T i0 i1 i2 d0 d1 c1 zs l' (a.put none v).tmps (W.setRow g c1) := by
  obtain ⟨g', k, h1, h2, h3, h4⟩ := h
  obtain ⟨k1, k2, k3, cs, k4, k5, k6⟩ := h1 ho
  obtain rfl : g' = g := by rw [hg] at k1; injection k1 with k1; injection k1 with k1; injection k1 with k1; injection k1 with k1; exact k1.symm
  refine ⟨g', k, fun _ => ⟨hg, k2, by rw [setRow_size]; exact k3, c1, hc, setRow_at k5, fun _ => rfl, fun h => ?_⟩, ?_, ?_, fun _ => by rw [hl _ n0]; exact ho⟩
  · rw [hs2] at h; cases h
  · rw [hl _ n1]
    intro h
    obtain ⟨q1, q2, q3, q5⟩ := h2 h
    exact ⟨q1, q2, by rw [setRow_size]; exact q3, (setRow_ne (Ne.symm (h3 ho h))).trans q5⟩
  · rw [hl _ n0, hl _ n1]; exact h3
/-- the law, the frame at the last operation told, and J of a frame that is not written out -/
theorem drawnJ3 {P : Program} {ops : Array Oper} {Q : Exit → Act → World → Prop} {id : Nat} {a : Act} {w : World} (hm : P.follows .mixedOrders = true) (L n : Nat) (ds : List Nat) (G : Nat → World → Prop) (F : Nat → Value → World → Prop) (R : Nat → World → World → Prop) (J : (Nat → Bool) → Array Value → World → Prop)
    (hn : a.tmps.size = n) (hok : drawnOkJ ops L n = true) (hds : (ops.toList.take L).filterMap (·.dst) = ds) (hd : a.defers = [])
    (hJ0 : J (fun _ => false) a.tmps w.drew) (hG : ∀ j, j ≤ L → G j w.drew) (hFm : ∀ i j v w w', i ≠ j → i < L → j < L → F i v w → R j w w' → F i v w') (hGm : ∀ i j w w', i ≠ j → i < L → j ≤ L → j ∉ ancs ops ops.size i → G j w → R i w w' → G j w')
    (hstep : ∀ (l : Nat → Bool) (i : Nat) (o : Oper) (a' : Act) (w' : World), J l a'.tmps w' → l i = false → (∀ e ∈ o.after, Region.binds .any e = true → l e.on = true) → i < L → ops[i]? = some o → a'.defers = [] → a'.tmps.size = n → (∀ t : Nat, (ops.toList.take L).all (fun o => !decide (o.dst = some t)) = true → a'.tmps[t]? = a.tmps[t]?) → G i w' → G L w' →
      (∀ j d, waitsFor ops i j = some d → ∃ v, a'.tmps[d]? = some v ∧ F j v w') → o.wp P a' w' (fun a2 w2 => ∃ v, a2 = a'.put o.dst v ∧ R i w' w2 ∧ F i v w2 ∧ ∀ l' : Nat → Bool, l' i = true → (∀ j, j ≠ i → l' j = l j) → J l' (a'.put o.dst v).tmps w2) Q)
    (hlast : ∀ (l : Nat → Bool) (o : Oper) (u : Nat → Value) (w' : World) (t : Array Value), J l t w' → (∀ d, d ∈ ds → d < n → t[d]? = some (u d)) → (∀ j, j < L → l j = true) → ops[L]? = some o → G L w' → (∀ i d, i < L → dstOf ops i = some d → F i (u d) w') → o.wp P (ds.foldl (fun x d => x.put (some d) (u d)) a) w' (fun a2 w2 => Q .normal a2 w2) Q) :
    (Code.region id ops true).wp P Q a w :=
  drawnJ2 hm L n ds G F R J hn hok hds hd hJ0 hG hFm hGm hstep fun l o u w' hJ hl ho hGL hw => hlast l o u w' _ hJ (fun d hd hdn => by rw [puts_get u d ds a (by omega), if_pos hd]) hl ho hGL hw
/-- at the region's last operation -/
theorem twoJ_fin {B T i0 i1 i2 d0 d1 : Nat} {c1 zs : Array Value} {l : Nat → Bool} {t : Array Value} {W : World} {v0 v1 : Value} (h : twoJ B T i0 i1 i2 d0 d1 c1 zs l t W)
    (h0 : l i0 = true) (h1 : l i1 = true) (h2 : l i2 = true) (m0 : t[d0]? = some v0) (m1 : t[d1]? = some v1) :
    ∃ g h : Nat, v0 = .pointer (some ⟨g, 0, none⟩) ∧ v1 = .pointer (some ⟨h, 0, none⟩) ∧ B ≤ g ∧ B ≤ h ∧ g ≠ h ∧ W.heap[g]? = some (.cells c1 T (0, 0)) ∧ ∃ cs : Array Value, cs = zs ∧ W.heap[h]? = some (.cells cs T (0, 0)) := by
  obtain ⟨g, h, j1, j2, j3, -⟩ := h
  obtain ⟨t6, hBg, _, cs, _, hrow, hcs1, -⟩ := j1 h0
  obtain rfl := hcs1 h2
  obtain ⟨t7, hBh, _, hrow2⟩ := j2 h1
  rw [m0] at t6
  rw [m1] at t7
  exact ⟨g, h, Option.some.inj t6, Option.some.inj t7, hBg, hBh, j3 h0 h1, hrow, zs, rfl, hrow2⟩
end Go.Proofs.YtgabkmibfhmkmaaGreatDoor
