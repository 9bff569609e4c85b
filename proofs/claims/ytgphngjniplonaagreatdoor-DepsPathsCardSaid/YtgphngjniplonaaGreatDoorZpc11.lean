/- My own texts DrawnE, as far as this claim needs them. -/
import Derived.Test.YtgphngjniplonaaGreatDoorZp30
import Derived.Test.YtgphngjniplonaaGreatDoorZpc1
set_option linter.unusedVariables false
set_option linter.unusedSimpArgs false
set_option maxRecDepth 1000000
set_option maxHeartbeats 16000000
namespace Go.Proofs.YtgphngjniplonaaGreatDoor
open Go.RowKit
structure MidE (D : List Deferred) (use : Nat → Option Nat) (ops : Array Oper) (base : Array Value) (L : Nat) (G : Nat → World → Prop) (F : Nat → Value → World → Prop) (listed : Array Bool) (a : Act) (w : World) : Prop where
  defers : a.defers = D
  size : a.tmps.size = base.size
  lsize : listed.size = ops.size
  closed : ∀ (i : Nat) (o : Oper), ops[i]? = some o → listed.getD i false = true → ∀ e ∈ o.after, Region.binds .any e = true → listed.getD e.on false = true
  old : ∀ t : Nat, (∀ (i : Nat) (o : Oper), i < L → ops[i]? = some o → o.dst ≠ some t) → a.tmps[t]? = base[t]?
  glob : ∀ j, j ≤ L → listed.getD j false = false → G j w
  fact : ∀ (i : Nat) (o : Oper) (d : Tmp), ops[i]? = some o → o.dst = some d → listed.getD i false = true → (∀ k, use i = some k → listed.getD k false = false) → ∃ v, a.tmps[d]? = some v ∧ F i v w
section
variable {P : Program} {ops : Array Oper} {Q : Exit → Act → World → Prop} {D : List Deferred}
theorem drawnE_law {id : Nat} {a : Act} {w : World} (hm : P.follows .mixedOrders = true) (L : Nat) (G : Nat → World → Prop) (F : Nat → Value → World → Prop) (R : Nat → World → World → Prop) (use : Nat → Option Nat)
    (hd : a.defers = D) (hL : L + 1 = ops.size) (hg : ∀ (o : Oper), ops[L]? = some o → o.guard = none) (hord : ∀ (i : Nat) (o : Oper), ops[i]? = some o → ∀ e ∈ o.after, Region.binds .any e = true → e.on < i)
    (hdst : ∀ (i j : Nat) (o o' : Oper) (d : Tmp), ops[i]? = some o → ops[j]? = some o' → o.dst = some d → o'.dst = some d → i = j) (hsz : ∀ (i : Nat) (o : Oper) (d : Tmp), ops[i]? = some o → o.dst = some d → d < a.tmps.size)
    (hanc : ∀ j, j < L → j ∈ ancs ops ops.size L)
    (hG : ∀ j, j ≤ L → G j w.drew) (hFm : ∀ i j v w w', i ≠ j → i < L → j < L → use i ≠ some j → (∀ k, use i = some k → k ∉ ancs ops ops.size j) → j ∉ ancs ops ops.size i → F i v w → R j w w' → F i v w') (hGm : ∀ i j w w', i ≠ j → i < L → j ≤ L → j ∉ ancs ops ops.size i → G j w → R i w w' → G j w')
    (hstep : ∀ (i : Nat) (o : Oper) (a' : Act) (w' : World), ops[i]? = some o → i < L → a'.defers = D → a'.tmps.size = a.tmps.size → (∀ t : Nat, (∀ (i : Nat) (o : Oper), i < L → ops[i]? = some o → o.dst ≠ some t) → a'.tmps[t]? = a.tmps[t]?) → G i w' → G L w' →
      (∀ e ∈ o.after, Region.binds .any e = true → (∀ k, use e.on = some k → k = i) → ∀ oj d, ops[e.on]? = some oj → oj.dst = some d → ∃ v, a'.tmps[d]? = some v ∧ F e.on v w') → (Region.wanted o (yielded ops a'.tmps) = true ∧ o.wp P a' w' (fun a2 w2 => ∃ v, a2 = a'.put o.dst v ∧ R i w' w2 ∧ F i v w2) Q) ∨ (Region.wanted o (yielded ops a'.tmps) = false ∧ R i w' w' ∧ F i undef w'))
    (hlast : ∀ (o : Oper) (a' : Act) (w' : World), ops[L]? = some o → a'.defers = D → a'.tmps.size = a.tmps.size → (∀ t : Nat, (∀ (i : Nat) (o : Oper), i < L → ops[i]? = some o → o.dst ≠ some t) → a'.tmps[t]? = a.tmps[t]?) → G L w' →
      (∀ (i : Nat) (oj : Oper) (d : Tmp), i < L → use i = none → ops[i]? = some oj → oj.dst = some d → ∃ v, a'.tmps[d]? = some v ∧ F i v w') → o.wp P a' w' (fun a2 w2 => Q .normal a2 w2) Q) :
    (Code.region id ops true).wp P Q a w := by
  have main : ∀ (fuel : Nat) (listed : Array Bool) (a' : Act) (w' : World), MidE D use ops a.tmps L G F listed a' w' → listed.getD L true = false → listed.toList.count false ≤ fuel → wpAny P .any ops Q fuel listed a' w' := by
    intro fuel
    induction fuel with
    | zero =>
      intro listed a' w' hM hoff hc
      have : false ∈ listed.toList := by
        have hl : L < listed.size := by rw [hM.lsize]; omega
        have h1 : listed[L]? = some false := by simp [hl] at hoff ⊢; exact hoff
        exact List.mem_iff_getElem?.2 ⟨L, by simpa using h1⟩
      have := List.count_pos_iff.2 this
      omega
    | succ fuel ih =>
      intro listed a' w' hM hoff hc
      refine ⟨fun hr => ?_, fun i hi => ?_⟩
      · exfalso
        obtain ⟨i, h1, h2⟩ := least_off listed (fun _ => True) ops.size ⟨L, by omega, hoff⟩
        have hil : i < listed.size := by
          rcases Nat.lt_or_ge i listed.size with h | h
          · exact h
          · simp [Array.getElem?_eq_none h] at h1
        have hio : i < ops.size := by rw [← hM.lsize]; exact hil
        have : i ∈ Region.ready .any ops listed := mem_ready.2 ⟨h1, ops[i], by simp [hio], fun e he hbi => by
          have h3 := hord i ops[i] (by simp [hio]) e he hbi
          have h4 := h2 e.on h3
          rwa [getD_any (by omega) true false] at h4⟩
        rw [hr] at this; cases this
      · obtain ⟨h1, o, ho, h2⟩ := mem_ready.1 hi
        have hio : i < ops.size := (Array.getElem?_eq_some_iff.1 ho).1
        have hil : i < listed.size := by rw [hM.lsize]; exact hio
        unfold wpOp
        rw [ho]
        by_cases hiL : i = L
        · subst hiL
          have hw : Region.wanted o (yielded ops a'.tmps) = true := by simp [Region.wanted, hg o ho]
          simp only [hw, if_true]
          left
          have hall : ∀ j, j < i → listed.getD j false = true := fun j hj => ancs_listed hM.closed ops.size i o ho h2 j (hanc j hj)
          refine Oper.wp_mono (fun a2 w2 h => ?_) (hlast o a' w' ho hM.defers hM.size hM.old (hM.glob i (Nat.le_refl _) (by rw [getD_any (c := true) (by omega)]; exact hoff)) (fun j oj d hj huj hoj hdj => hM.fact j oj d hoj hdj (hall j hj) (fun k hk => by rw [huj] at hk; cases hk)))
          refine wpAny_end ?_ h fuel
          apply List.eq_nil_iff_forall_not_mem.2
          intro j hj
          obtain ⟨h3, oj, hoj, -⟩ := mem_ready.1 hj
          have hjo : j < ops.size := (Array.getElem?_eq_some_iff.1 hoj).1
          by_cases hji : i = j
          · subst hji; rw [getD_set_same hil] at h3; cases h3
          · rw [getD_set_other hji, getD_any (c := false) (by omega), hall j (by omega)] at h3; cases h3
        · have hiL' : i < L := by omega
          have hif : listed.getD i false = false := by rw [getD_any (c := true) (by omega)]; exact h1
          have cont : ∀ v w2, R i w' w2 → F i v w2 → wpAny P .any ops Q fuel (listed.setIfInBounds i true) (a'.put o.dst v) w2 := by
            intro v w2 hb hF
            have hfac : ∀ (j : Nat) (oj : Oper) (d : Tmp), i ≠ j → ops[j]? = some oj → oj.dst = some d → listed.getD j false = true → (∀ k, use j = some k → (listed.setIfInBounds i true).getD k false = false) → ∃ v, a'.tmps[d]? = some v ∧ F j v w2 := fun j oj d hji hoj hdj hlj huj => by
              have hne : use j ≠ some i := fun e => by have := huj i e; rw [getD_set_same hil] at this; cases this
              have huj' : ∀ k, use j = some k → listed.getD k false = false := fun k hk => by
                have := huj k hk
                rwa [getD_set_other (fun e => hne (by rw [e]; exact hk))] at this
              obtain ⟨u, hu, hFu⟩ := hM.fact j oj d hoj hdj hlj huj'
              have hjs : j < ops.size := (Array.getElem?_eq_some_iff.1 hoj).1
              have hjL : j ≠ L := fun e => by rw [e, getD_any (c := true) (by rw [hM.lsize]; omega), hoff] at hlj; cases hlj
              exact ⟨u, hu, hFm j i u _ _ (Ne.symm hji) (by omega) hiL' hne (fun k hk hmem => by
                have := ancs_listed hM.closed ops.size i o ho h2 k hmem
                rw [huj' k hk] at this; cases this) (fun hmem => by
                have := ancs_listed hM.closed ops.size j oj hoj (hM.closed j oj hoj hlj) i hmem
                rw [hif] at this; cases this) hFu hb⟩
            refine ih _ _ _ ⟨?_, ?_, ?_, ?_, ?_, ?_, ?_⟩ (by rw [getD_set_other hiL]; exact hoff) ?_
            · cases o.dst <;> exact hM.defers
            · cases o.dst <;> simp [Act.put, hM.size]
            · simp [hM.lsize]
            · intro j oj hoj hlj e he hbe
              by_cases hje : i = e.on
              · rw [hje]; exact getD_set_same (by omega)
              · rw [getD_set_other hje]
                by_cases hji : i = j
                · subst hji
                  have : oj = o := by rw [ho] at hoj; injection hoj with hoj; exact hoj.symm
                  subst this
                  exact h2 e he hbe
                · rw [getD_set_other hji] at hlj
                  exact hM.closed j oj hoj hlj e he hbe
            · intro t ht
              rw [← hM.old t ht]
              have := ht i o hiL' ho
              cases hd : o.dst with
              | none => rfl
              | some d => simp only [Act.put]; exact Array.getElem?_setIfInBounds_ne (by intro e; rw [hd, e] at this; exact this rfl)
            · intro j hj hlj
              by_cases hji : i = j
              · subst hji; rw [getD_set_same hil] at hlj; cases hlj
              · rw [getD_set_other hji] at hlj
                refine hGm i j _ _ hji hiL' hj (fun hmem => ?_) (hM.glob j hj hlj) hb
                have := ancs_listed hM.closed ops.size i o ho h2 j hmem
                rw [hlj] at this; cases this
            · intro j oj d hoj hdj hlj huj
              by_cases hji : i = j
              · subst hji
                have : oj = o := by rw [ho] at hoj; injection hoj with hoj; exact hoj.symm
                subst this
                have hds := hsz i oj d hoj hdj
                refine ⟨v, ?_, hF⟩
                rw [hdj]
                simp [Act.put, hM.size, hds]
              · rw [getD_set_other hji] at hlj
                obtain ⟨u, hu, hFu⟩ := hfac j oj d hji hoj hdj hlj huj
                refine ⟨u, ?_, hFu⟩
                rw [← hu]
                cases hd : o.dst with
                | none => rfl
                | some d' => simp only [Act.put]; exact Array.getElem?_setIfInBounds_ne (by intro e; exact hji (hdst i j o oj d ho hoj (by rw [hd, e]) hdj))
            · have h3 : listed.toList[i]? = some false := by simp [hil] at h1 ⊢; exact h1
              have h4 := count_set _ _ h3
              rw [Array.toList_setIfInBounds]
              omega
          rcases hstep i o a' w' ho hiL' hM.defers hM.size hM.old (hM.glob i (by omega) hif) (hM.glob L (Nat.le_refl _) (by rw [getD_any (c := true) (by rw [hM.lsize]; omega)]; exact hoff)) (fun e he hb huk oj d hoj hdj => hM.fact e.on oj d hoj hdj (h2 e he hb) (fun k hk => by rw [huk k hk]; exact hif)) with ⟨hw, h⟩ | ⟨hw, hR, hF⟩
          · simp only [hw, if_true]
            left
            refine Oper.wp_mono (fun a2 w2 h => ?_) h
            obtain ⟨v, rfl, hb, hF⟩ := h
            exact cont v w2 hb hF
          · simp only [hw]
            exact cont undef w' hR hF
  have hLo : L < ops.size := by omega
  refine wp_region_any hm (main ops.size (Array.replicate ops.size false) a _ ⟨hd, rfl, by simp, ?_, fun _ _ => rfl, fun j hj _ => hG j hj, ?_⟩ (by simp [hLo]) ?_)
  · intro i o ho hl
    have hio : i < ops.size := (Array.getElem?_eq_some_iff.1 ho).1
    simp [hio] at hl
  · intro i o d ho _ hl _
    have hio : i < ops.size := (Array.getElem?_eq_some_iff.1 ho).1
    simp [hio] at hl
  · refine Nat.le_trans List.count_le_length ?_
    simp
theorem drawnEG {id : Nat} {a : Act} {w : World} (hm : P.follows .mixedOrders = true) (L n : Nat) (ds : List Nat) (G : World → Prop) (F : Nat → Value → World → Prop) (R : Nat → World → World → Prop) (use : Nat → Option Nat) (pair : Nat → Nat → Bool)
    (hn : a.tmps.size = n) (hok : drawnGOk ops L n = true) (hds : (ops.toList.take L).filterMap (·.dst) = ds) (hpr : keepOk ops L use pair = true) (hd : a.defers = D)
    (hG : G w.drew) (hFm : ∀ i j v w w', i ≠ j → pair i j = true → F i v w → R j w w' → F i v w') (hGm : ∀ i w w', G w → R i w w' → G w')
    (hstep : ∀ (i : Nat) (o : Oper) (a' : Act) (w' : World), i < L → ops[i]? = some o → a'.defers = D → (∀ t : Nat, (ops.toList.take L).all (fun o => !decide (o.dst = some t)) = true → a'.tmps[t]? = a.tmps[t]?) → G w' →
      (∀ j d, waitsForU ops use i j = some d → ∃ v, a'.tmps[d]? = some v ∧ F j v w') → (Region.wanted o (yielded ops a'.tmps) = true ∧ o.wp P a' w' (fun a2 w2 => ∃ v, a2 = a'.put o.dst v ∧ R i w' w2 ∧ F i v w2) Q) ∨ (Region.wanted o (yielded ops a'.tmps) = false ∧ R i w' w' ∧ F i undef w'))
    (hlast : ∀ (o : Oper) (u : Nat → Value) (w' : World), ops[L]? = some o → G w' → (∀ i d, i < L → use i = none → dstOf ops i = some d → F i (u d) w') → o.wp P (ds.foldl (fun x d => x.put (some d) (u d)) a) w' (fun a2 w2 => Q .normal a2 w2) Q) :
    (Code.region id ops true).wp P Q a w := by
  simp only [drawnGOk, Bool.and_eq_true, decide_eq_true_eq, List.all_eq_true, List.mem_range] at hok
  obtain ⟨hL, hg, h1, h2⟩ := hok
  have hall : ∀ (i : Nat) (o : Oper), ops[i]? = some o → (∀ e ∈ o.after.toList, Region.binds .any e = true → e.on < i) ∧ (∀ d, o.dst = some d → d < n ∧ ∀ (j : Nat) (o' : Oper), ops[j]? = some o' → o'.dst = some d → i = j) := by
    intro i o ho
    have hi : i < ops.size := (Array.getElem?_eq_some_iff.1 ho).1
    have := h1 i hi
    rw [ho] at this
    simp only [Bool.and_eq_true, List.all_eq_true, decide_eq_true_eq, Bool.or_eq_true, Bool.not_eq_true'] at this
    obtain ⟨k2, k3⟩ := this
    refine ⟨fun e he hb => ?_, fun d hd => ?_⟩
    · rcases k2 e he with h | h
      · rw [hb] at h; cases h
      · exact h
    rw [hd] at k3
    simp only [Bool.and_eq_true, List.all_eq_true, decide_eq_true_eq, List.mem_range, Bool.or_eq_true] at k3
    refine ⟨k3.1, fun j o' ho' hd' => ?_⟩
    have hj : j < ops.size := (Array.getElem?_eq_some_iff.1 ho').1
    rcases k3.2 j hj with h | h
    · exact h
    · rw [ho'] at h; simp [hd'] at h
  have hold : ∀ t : Nat, (ops.toList.take L).all (fun o => !decide (o.dst = some t)) = true → ∀ (i : Nat) (o : Oper), i < L → ops[i]? = some o → o.dst ≠ some t := by
    intro t ht i o hi ho
    have hm : o ∈ ops.toList.take L := by
      have := List.mem_of_getElem? (l := ops.toList.take L) (i := i) (a := o) (by rw [List.getElem?_take_of_lt hi]; simpa using ho)
      exact this
    have := List.all_eq_true.1 ht o hm
    simpa using this
  refine drawnE_law hm L (fun _ => G) F R use hd hL (fun o ho => by rw [ho] at hg; simpa using hg) (fun i o ho e he hb => (hall i o ho).1 e (by simpa using he) hb) (fun i j o o' d ho ho' hd hd' => ((hall i o ho).2 d hd).2 j o' ho' hd') (fun i o d ho hd => by rw [hn]; exact ((hall i o ho).2 d hd).1)
    (fun j hj => by simpa using h2 j hj) (fun _ _ => hG) (fun i j v w w' hij hi hj h1 h2 h3 hf hr => hFm i j v w w' hij (keepOk_pair hpr hij hi hj h1 h2 h3) hf hr) (fun i _ w w' _ _ _ _ hg hr => hGm i w w' hg hr) ?_ ?_
  · intro i o a' w' ho hi hd' hs hold' hGi _ hw
    refine hstep i o a' w' hi ho hd' (fun t ht => hold' t (hold t ht)) hGi (fun j d hj => ?_)
    have huj : (∀ k, use j = some k → k = i) ∧ waitsFor ops i j = some d := by
      unfold waitsForU at hj
      cases hu : use j with
      | none => rw [hu] at hj; exact ⟨fun k hk => (by cases hk), hj⟩
      | some k =>
        rw [hu] at hj
        simp only at hj
        split at hj
        · rename_i hk; subst hk; exact ⟨fun k' hk' => (by injection hk' with hk'; exact hk'.symm), hj⟩
        · cases hj
    obtain ⟨huj, hj⟩ := huj
    unfold waitsFor at hj
    rw [ho] at hj
    simp only at hj
    split at hj
    · rename_i hany
      obtain ⟨e, he, he2⟩ := List.any_eq_true.1 hany
      simp only [Bool.and_eq_true, decide_eq_true_eq] at he2
      obtain ⟨rfl, hb⟩ := he2
      cases ho2 : ops[e.on]? with
      | none => rw [ho2] at hj; cases hj
      | some oj => rw [ho2] at hj; exact hw e (by simpa using he) hb huj oj d ho2 hj
    · cases hj
  · intro o a' w' ho hd' hs hold' hGL hw
    obtain ⟨u, hu, huv⟩ := frame_of (a := a) (a' := a') ds (by rw [hs]) (by rw [hd', hd]) (fun t ht => hold' t (fun i o2 hi ho2 e => ht (by
      rw [← hds]
      exact List.mem_filterMap.2 ⟨o2, List.mem_of_getElem? (l := ops.toList.take L) (i := i) (a := o2) (by rw [List.getElem?_take_of_lt hi]; simpa using ho2), e⟩)))
    rw [hu]
    refine hlast o u w' ho hGL (fun i d hi hui hdd => ?_)
    unfold dstOf at hdd
    cases ho2 : ops[i]? with
    | none => rw [ho2] at hdd; cases hdd
    | some oj =>
      rw [ho2] at hdd
      obtain ⟨v, hv, hF⟩ := hw i oj d hi hui ho2 hdd
      rw [huv d v hv]
      exact hF
theorem drawnHD {id : Nat} {a : Act} {w : World} (hm : P.follows .mixedOrders = true) (L n : Nat) (ds : List Nat) (vs : List (Option Value)) (E : Nat → Value → World → Prop)
    (hn : a.tmps.size = n) (hok : drawnGOk ops L n = true) (hds : (ops.toList.take L).filterMap (·.dst) = ds) (hd : a.defers = D)
    (hE : ∀ i v w w', E i v w → Below w.heap.size w w' → E i v w')
    (hstep : ∀ (i : Nat) (o : Oper) (a' : Act) (w' : World), i < L → ops[i]? = some o → a'.defers = D → (∀ t : Nat, (ops.toList.take L).all (fun o => !decide (o.dst = some t)) = true → a'.tmps[t]? = a.tmps[t]?) → Below w.heap.size w w' →
      (∀ j d, waitsFor ops i j = some d → ∃ v, a'.tmps[d]? = some v ∧ fixF vs E j v w') → (Region.wanted o (yielded ops a'.tmps) = true ∧ o.wp P a' w' (fun a2 w2 => ∃ v, a2 = a'.put o.dst v ∧ Below w'.heap.size w' w2 ∧ fixF vs E i v w2) Q) ∨ (Region.wanted o (yielded ops a'.tmps) = false ∧ Below w'.heap.size w' w' ∧ fixF vs E i undef w'))
    (hlast : ∀ (o : Oper) (u : Nat → Value) (w' : World), ops[L]? = some o → Below w.heap.size w w' → (∀ i d, i < L → dstOf ops i = some d → fixF vs E i (u d) w') → o.wp P (ds.foldl (fun x d => x.put (some d) (u d)) a) w' (fun a2 w2 => Q .normal a2 w2) Q) :
    (Code.region id ops true).wp P Q a w := by
  refine drawnEG hm L n ds (fun W => Below w.heap.size w W) (fixF vs E) (fun _ w w' => Below w.heap.size w w') (fun _ => none) (fun _ _ => true) hn hok hds ?_ hd (Below.drew (Below.refl _ _)) (fun i j v w w' _ _ h hr => fixF_keep h (fun h => hE i v w w' h hr)) (fun i w2 w3 h hr => h.trans (hr.mono h.size)) hstep (fun o u w' ho hg h => hlast o u w' ho hg (fun i d hi hdd => h i d hi rfl hdd))
  · unfold keepOk
    rw [List.all_eq_true]
    intro i hi
    rw [List.all_eq_true]
    intro j hj
    simp
end
end Go.Proofs.YtgphngjniplonaaGreatDoor
