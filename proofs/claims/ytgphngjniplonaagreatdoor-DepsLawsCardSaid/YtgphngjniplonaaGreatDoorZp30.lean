/- My own texts DrawnG, DgTd, Idx, DgPl, IdxW, Load, as far as this claim needs them. -/
import Derived.Test.YtgphngjniplonaaGreatDoorZp22
import Derived.Test.YtgphngjniplonaaGreatDoorZp29
set_option linter.unusedVariables false
set_option linter.unusedSimpArgs false
set_option maxRecDepth 1000000
set_option maxHeartbeats 16000000
namespace Go.Proofs.YtgphngjniplonaaGreatDoor
open Go.RowKit
section
variable {P : Program} {ops : Array Oper} {Q : Exit → Act → World → Prop}
theorem drawnG_law {id : Nat} {a : Act} {w : World} (hm : P.follows .mixedOrders = true) (L : Nat) (G : Nat → World → Prop) (F : Nat → Value → World → Prop) (R : Nat → World → World → Prop) (use : Nat → Option Nat)
    (hd : a.defers = []) (hL : L + 1 = ops.size) (hg : ∀ (o : Oper), ops[L]? = some o → o.guard = none) (hord : ∀ (i : Nat) (o : Oper), ops[i]? = some o → ∀ e ∈ o.after, Region.binds .any e = true → e.on < i)
    (hdst : ∀ (i j : Nat) (o o' : Oper) (d : Tmp), ops[i]? = some o → ops[j]? = some o' → o.dst = some d → o'.dst = some d → i = j) (hsz : ∀ (i : Nat) (o : Oper) (d : Tmp), ops[i]? = some o → o.dst = some d → d < a.tmps.size)
    (hanc : ∀ j, j < L → j ∈ ancs ops ops.size L)
    (hG : ∀ j, j ≤ L → G j w.drew) (hFm : ∀ i j v w w', i ≠ j → i < L → j < L → use i ≠ some j → (∀ k, use i = some k → k ∉ ancs ops ops.size j) → j ∉ ancs ops ops.size i → F i v w → R j w w' → F i v w') (hGm : ∀ i j w w', i ≠ j → i < L → j ≤ L → j ∉ ancs ops ops.size i → G j w → R i w w' → G j w')
    (hstep : ∀ (i : Nat) (o : Oper) (a' : Act) (w' : World), ops[i]? = some o → i < L → a'.defers = [] → a'.tmps.size = a.tmps.size → (∀ t : Nat, (∀ (i : Nat) (o : Oper), i < L → ops[i]? = some o → o.dst ≠ some t) → a'.tmps[t]? = a.tmps[t]?) → G i w' → G L w' →
      (∀ e ∈ o.after, Region.binds .any e = true → (∀ k, use e.on = some k → k = i) → ∀ oj d, ops[e.on]? = some oj → oj.dst = some d → ∃ v, a'.tmps[d]? = some v ∧ F e.on v w') → (Region.wanted o (yielded ops a'.tmps) = true ∧ o.wp P a' w' (fun a2 w2 => ∃ v, a2 = a'.put o.dst v ∧ R i w' w2 ∧ F i v w2) Q) ∨ (Region.wanted o (yielded ops a'.tmps) = false ∧ R i w' w' ∧ F i undef w'))
    (hlast : ∀ (o : Oper) (a' : Act) (w' : World), ops[L]? = some o → a'.defers = [] → a'.tmps.size = a.tmps.size → (∀ t : Nat, (∀ (i : Nat) (o : Oper), i < L → ops[i]? = some o → o.dst ≠ some t) → a'.tmps[t]? = a.tmps[t]?) → G L w' →
      (∀ (i : Nat) (oj : Oper) (d : Tmp), i < L → use i = none → ops[i]? = some oj → oj.dst = some d → ∃ v, a'.tmps[d]? = some v ∧ F i v w') → o.wp P a' w' (fun a2 w2 => Q .normal a2 w2) Q) :
    (Code.region id ops true).wp P Q a w := by
  have main : ∀ (fuel : Nat) (listed : Array Bool) (a' : Act) (w' : World), MidU use ops a.tmps L G F listed a' w' → listed.getD L true = false → listed.toList.count false ≤ fuel → wpAny P .any ops Q fuel listed a' w' := by
    intro fuel
    induction fuel with
    | zero =>
      intro listed a' w' hM hoff hc
      have : false ∈ listed.toList := by
        have hl : L < listed.size := by rw [hM.lsize]; omega
        have h1 : listed[L]? = some false := by simp [hl] at hoff ⊢; exact hoff
        exact List.mem_iff_getElem?.2 ⟨L, by simpa using h1⟩
      have := List.count_pos_iff.2 this
      omega
    | succ fuel ih =>
      intro listed a' w' hM hoff hc
      refine ⟨fun hr => ?_, fun i hi => ?_⟩
      · exfalso
        obtain ⟨i, h1, h2⟩ := least_off listed (fun _ => True) ops.size ⟨L, by omega, hoff⟩
        have hil : i < listed.size := by
          rcases Nat.lt_or_ge i listed.size with h | h
          · exact h
          · simp [Array.getElem?_eq_none h] at h1
        have hio : i < ops.size := by rw [← hM.lsize]; exact hil
        have : i ∈ Region.ready .any ops listed := mem_ready.2 ⟨h1, ops[i], by simp [hio], fun e he hbi => by
          have h3 := hord i ops[i] (by simp [hio]) e he hbi
          have h4 := h2 e.on h3
          rwa [getD_any (by omega) true false] at h4⟩
        rw [hr] at this; cases this
      · obtain ⟨h1, o, ho, h2⟩ := mem_ready.1 hi
        have hio : i < ops.size := (Array.getElem?_eq_some_iff.1 ho).1
        have hil : i < listed.size := by rw [hM.lsize]; exact hio
        unfold wpOp
        rw [ho]
        by_cases hiL : i = L
        · subst hiL
          have hw : Region.wanted o (yielded ops a'.tmps) = true := by simp [Region.wanted, hg o ho]
          simp only [hw, if_true]
          left
          have hall : ∀ j, j < i → listed.getD j false = true := fun j hj => ancs_listed hM.closed ops.size i o ho h2 j (hanc j hj)
          refine Oper.wp_mono (fun a2 w2 h => ?_) (hlast o a' w' ho hM.defers hM.size hM.old (hM.glob i (Nat.le_refl _) (by rw [getD_any (c := true) (by omega)]; exact hoff)) (fun j oj d hj huj hoj hdj => hM.fact j oj d hoj hdj (hall j hj) (fun k hk => by rw [huj] at hk; cases hk)))
          refine wpAny_end ?_ h fuel
          apply List.eq_nil_iff_forall_not_mem.2
          intro j hj
          obtain ⟨h3, oj, hoj, -⟩ := mem_ready.1 hj
          have hjo : j < ops.size := (Array.getElem?_eq_some_iff.1 hoj).1
          by_cases hji : i = j
          · subst hji; rw [getD_set_same hil] at h3; cases h3
          · rw [getD_set_other hji, getD_any (c := false) (by omega), hall j (by omega)] at h3; cases h3
        · have hiL' : i < L := by omega
          have hif : listed.getD i false = false := by rw [getD_any (c := true) (by omega)]; exact h1
          have cont : ∀ v w2, R i w' w2 → F i v w2 → wpAny P .any ops Q fuel (listed.setIfInBounds i true) (a'.put o.dst v) w2 := by
            intro v w2 hb hF
            have hfac : ∀ (j : Nat) (oj : Oper) (d : Tmp), i ≠ j → ops[j]? = some oj → oj.dst = some d → listed.getD j false = true → (∀ k, use j = some k → (listed.setIfInBounds i true).getD k false = false) → ∃ v, a'.tmps[d]? = some v ∧ F j v w2 := fun j oj d hji hoj hdj hlj huj => by
              have hne : use j ≠ some i := fun e => by have := huj i e; rw [getD_set_same hil] at this; cases this
              have huj' : ∀ k, use j = some k → listed.getD k false = false := fun k hk => by
                have := huj k hk
                rwa [getD_set_other (fun e => hne (by rw [e]; exact hk))] at this
              obtain ⟨u, hu, hFu⟩ := hM.fact j oj d hoj hdj hlj huj'
              have hjs : j < ops.size := (Array.getElem?_eq_some_iff.1 hoj).1
              have hjL : j ≠ L := fun e => by rw [e, getD_any (c := true) (by rw [hM.lsize]; omega), hoff] at hlj; cases hlj
              exact ⟨u, hu, hFm j i u _ _ (Ne.symm hji) (by omega) hiL' hne (fun k hk hmem => by
                have := ancs_listed hM.closed ops.size i o ho h2 k hmem
                rw [huj' k hk] at this; cases this) (fun hmem => by
                have := ancs_listed hM.closed ops.size j oj hoj (hM.closed j oj hoj hlj) i hmem
                rw [hif] at this; cases this) hFu hb⟩
            refine ih _ _ _ ⟨?_, ?_, ?_, ?_, ?_, ?_, ?_⟩ (by rw [getD_set_other hiL]; exact hoff) ?_
            · cases o.dst <;> exact hM.defers
            · cases o.dst <;> simp [Act.put, hM.size]
            · simp [hM.lsize]
            · intro j oj hoj hlj e he hbe
              by_cases hje : i = e.on
              · rw [hje]; exact getD_set_same (by omega)
              · rw [getD_set_other hje]
                by_cases hji : i = j
                · subst hji
                  have : oj = o := by rw [ho] at hoj; injection hoj with hoj; exact hoj.symm
                  subst this
                  exact h2 e he hbe
                · rw [getD_set_other hji] at hlj
                  exact hM.closed j oj hoj hlj e he hbe
            · intro t ht
              rw [← hM.old t ht]
              have := ht i o hiL' ho
              cases hd : o.dst with
              | none => rfl
              | some d => simp only [Act.put]; exact Array.getElem?_setIfInBounds_ne (by intro e; rw [hd, e] at this; exact this rfl)
            · intro j hj hlj
              by_cases hji : i = j
              · subst hji; rw [getD_set_same hil] at hlj; cases hlj
              · rw [getD_set_other hji] at hlj
                refine hGm i j _ _ hji hiL' hj (fun hmem => ?_) (hM.glob j hj hlj) hb
                have := ancs_listed hM.closed ops.size i o ho h2 j hmem
                rw [hlj] at this; cases this
            · intro j oj d hoj hdj hlj huj
              by_cases hji : i = j
              · subst hji
                have : oj = o := by rw [ho] at hoj; injection hoj with hoj; exact hoj.symm
                subst this
                have hds := hsz i oj d hoj hdj
                refine ⟨v, ?_, hF⟩
                rw [hdj]
                simp [Act.put, hM.size, hds]
              · rw [getD_set_other hji] at hlj
                obtain ⟨u, hu, hFu⟩ := hfac j oj d hji hoj hdj hlj huj
                refine ⟨u, ?_, hFu⟩
                rw [← hu]
                cases hd : o.dst with
                | none => rfl
                | some d' => simp only [Act.put]; exact Array.getElem?_setIfInBounds_ne (by intro e; exact hji (hdst i j o oj d ho hoj (by rw [hd, e]) hdj))
            · have h3 : listed.toList[i]? = some false := by simp [hil] at h1 ⊢; exact h1
              have h4 := count_set _ _ h3
              rw [Array.toList_setIfInBounds]
              omega
          rcases hstep i o a' w' ho hiL' hM.defers hM.size hM.old (hM.glob i (by omega) hif) (hM.glob L (Nat.le_refl _) (by rw [getD_any (c := true) (by rw [hM.lsize]; omega)]; exact hoff)) (fun e he hb huk oj d hoj hdj => hM.fact e.on oj d hoj hdj (h2 e he hb) (fun k hk => by rw [huk k hk]; exact hif)) with ⟨hw, h⟩ | ⟨hw, hR, hF⟩
          · simp only [hw, if_true]
            left
            refine Oper.wp_mono (fun a2 w2 h => ?_) h
            obtain ⟨v, rfl, hb, hF⟩ := h
            exact cont v w2 hb hF
          · simp only [hw]
            exact cont undef w' hR hF
  have hLo : L < ops.size := by omega
  refine wp_region_any hm (main ops.size (Array.replicate ops.size false) a _ ⟨hd, rfl, by simp, ?_, fun _ _ => rfl, fun j hj _ => hG j hj, ?_⟩ (by simp [hLo]) ?_)
  · intro i o ho hl
    have hio : i < ops.size := (Array.getElem?_eq_some_iff.1 ho).1
    simp [hio] at hl
  · intro i o d ho _ hl _
    have hio : i < ops.size := (Array.getElem?_eq_some_iff.1 ho).1
    simp [hio] at hl
  · refine Nat.le_trans List.count_le_length ?_
    simp
def drawnGOk (ops : Array Oper) (L n : Nat) : Bool :=
  decide (L + 1 = ops.size) && ((match ops[L]? with | none => true | some o => o.guard.isNone) && (((List.range ops.size).all fun i => match ops[i]? with
    | none => true
    | some o => (o.after.toList.all (fun e => !Region.binds .any e || decide (e.on < i)) && (match o.dst with
      | none => true
      | some d => decide (d < n) && (List.range ops.size).all (fun j => decide (i = j) || (match ops[j]? with | none => true | some o' => !decide (o'.dst = some d)))))) &&
  (List.range L).all (fun j => (ancs ops ops.size L).contains j)))
theorem wanted_of {o : Oper} {j d : Nat} {b b' : Bool} {t : Array Value} (hg : o.guard = some (j, b)) (hj : dstOf ops j = some d) (ht : t[d]? = some (.bool b')) : Region.wanted o (yielded ops t) = decide (b' = b) := by
  unfold dstOf at hj
  cases ho : ops[j]? with
  | none => rw [ho] at hj; cases hj
  | some o' =>
    rw [ho] at hj
    simp only at hj
    cases b <;> cases b' <;> simp [Region.wanted, hg, yielded, ho, hj, ht]
theorem drawnG {id : Nat} {a : Act} {w : World} (hm : P.follows .mixedOrders = true) (L n : Nat) (ds : List Nat) (G : World → Prop) (F : Nat → Value → World → Prop) (R : Nat → World → World → Prop) (use : Nat → Option Nat) (pair : Nat → Nat → Bool)
    (hn : a.tmps.size = n) (hok : drawnGOk ops L n = true) (hds : (ops.toList.take L).filterMap (·.dst) = ds) (hpr : keepOk ops L use pair = true) (hd : a.defers = [])
    (hG : G w.drew) (hFm : ∀ i j v w w', i ≠ j → pair i j = true → F i v w → R j w w' → F i v w') (hGm : ∀ i w w', G w → R i w w' → G w')
    (hstep : ∀ (i : Nat) (o : Oper) (a' : Act) (w' : World), i < L → ops[i]? = some o → a'.defers = [] → (∀ t : Nat, (ops.toList.take L).all (fun o => !decide (o.dst = some t)) = true → a'.tmps[t]? = a.tmps[t]?) → G w' →
      (∀ j d, waitsForU ops use i j = some d → ∃ v, a'.tmps[d]? = some v ∧ F j v w') → (Region.wanted o (yielded ops a'.tmps) = true ∧ o.wp P a' w' (fun a2 w2 => ∃ v, a2 = a'.put o.dst v ∧ R i w' w2 ∧ F i v w2) Q) ∨ (Region.wanted o (yielded ops a'.tmps) = false ∧ R i w' w' ∧ F i undef w'))
    (hlast : ∀ (o : Oper) (u : Nat → Value) (w' : World), ops[L]? = some o → G w' → (∀ i d, i < L → use i = none → dstOf ops i = some d → F i (u d) w') → o.wp P (ds.foldl (fun x d => x.put (some d) (u d)) a) w' (fun a2 w2 => Q .normal a2 w2) Q) :
    (Code.region id ops true).wp P Q a w := by
  simp only [drawnGOk, Bool.and_eq_true, decide_eq_true_eq, List.all_eq_true, List.mem_range] at hok
  obtain ⟨hL, hg, h1, h2⟩ := hok
  have hall : ∀ (i : Nat) (o : Oper), ops[i]? = some o → (∀ e ∈ o.after.toList, Region.binds .any e = true → e.on < i) ∧ (∀ d, o.dst = some d → d < n ∧ ∀ (j : Nat) (o' : Oper), ops[j]? = some o' → o'.dst = some d → i = j) := by
    intro i o ho
    have hi : i < ops.size := (Array.getElem?_eq_some_iff.1 ho).1
    have := h1 i hi
    rw [ho] at this
    simp only [Bool.and_eq_true, List.all_eq_true, decide_eq_true_eq, Bool.or_eq_true, Bool.not_eq_true'] at this
    obtain ⟨k2, k3⟩ := this
    refine ⟨fun e he hb => ?_, fun d hd => ?_⟩
    · rcases k2 e he with h | h
      · rw [hb] at h; cases h
      · exact h
    rw [hd] at k3
    simp only [Bool.and_eq_true, List.all_eq_true, decide_eq_true_eq, List.mem_range, Bool.or_eq_true] at k3
    refine ⟨k3.1, fun j o' ho' hd' => ?_⟩
    have hj : j < ops.size := (Array.getElem?_eq_some_iff.1 ho').1
    rcases k3.2 j hj with h | h
    · exact h
    · rw [ho'] at h; simp [hd'] at h
  have hold : ∀ t : Nat, (ops.toList.take L).all (fun o => !decide (o.dst = some t)) = true → ∀ (i : Nat) (o : Oper), i < L → ops[i]? = some o → o.dst ≠ some t := by
    intro t ht i o hi ho
    have hm : o ∈ ops.toList.take L := by
      have := List.mem_of_getElem? (l := ops.toList.take L) (i := i) (a := o) (by rw [List.getElem?_take_of_lt hi]; simpa using ho)
      exact this
    have := List.all_eq_true.1 ht o hm
    simpa using this
  refine drawnG_law hm L (fun _ => G) F R use hd hL (fun o ho => by rw [ho] at hg; simpa using hg) (fun i o ho e he hb => (hall i o ho).1 e (by simpa using he) hb) (fun i j o o' d ho ho' hd hd' => ((hall i o ho).2 d hd).2 j o' ho' hd') (fun i o d ho hd => by rw [hn]; exact ((hall i o ho).2 d hd).1)
    (fun j hj => by simpa using h2 j hj) (fun _ _ => hG) (fun i j v w w' hij hi hj h1 h2 h3 hf hr => hFm i j v w w' hij (keepOk_pair hpr hij hi hj h1 h2 h3) hf hr) (fun i _ w w' _ _ _ _ hg hr => hGm i w w' hg hr) ?_ ?_
  · intro i o a' w' ho hi hd' hs hold' hGi _ hw
    refine hstep i o a' w' hi ho hd' (fun t ht => hold' t (hold t ht)) hGi (fun j d hj => ?_)
    have huj : (∀ k, use j = some k → k = i) ∧ waitsFor ops i j = some d := by
      unfold waitsForU at hj
      cases hu : use j with
      | none => rw [hu] at hj; exact ⟨fun k hk => (by cases hk), hj⟩
      | some k =>
        rw [hu] at hj
        simp only at hj
        split at hj
        · rename_i hk; subst hk; exact ⟨fun k' hk' => (by injection hk' with hk'; exact hk'.symm), hj⟩
        · cases hj
    obtain ⟨huj, hj⟩ := huj
    unfold waitsFor at hj
    rw [ho] at hj
    simp only at hj
    split at hj
    · rename_i hany
      obtain ⟨e, he, he2⟩ := List.any_eq_true.1 hany
      simp only [Bool.and_eq_true, decide_eq_true_eq] at he2
      obtain ⟨rfl, hb⟩ := he2
      cases ho2 : ops[e.on]? with
      | none => rw [ho2] at hj; cases hj
      | some oj => rw [ho2] at hj; exact hw e (by simpa using he) hb huj oj d ho2 hj
    · cases hj
  · intro o a' w' ho hd' hs hold' hGL hw
    obtain ⟨u, hu, huv⟩ := frame_of (a := a) (a' := a') ds (by rw [hs]) (by rw [hd', hd]) (fun t ht => hold' t (fun i o2 hi ho2 e => ht (by
      rw [← hds]
      exact List.mem_filterMap.2 ⟨o2, List.mem_of_getElem? (l := ops.toList.take L) (i := i) (a := o2) (by rw [List.getElem?_take_of_lt hi]; simpa using ho2), e⟩)))
    rw [hu]
    refine hlast o u w' ho hGL (fun i d hi hui hdd => ?_)
    unfold dstOf at hdd
    cases ho2 : ops[i]? with
    | none => rw [ho2] at hdd; cases hdd
    | some oj =>
      rw [ho2] at hdd
      obtain ⟨v, hv, hF⟩ := hw i oj d hi hui ho2 hdd
      rw [huv d v hv]
      exact hF
def fixF (vs : List (Option Value)) (E : Nat → Value → World → Prop) (i : Nat) (v : Value) (w : World) : Prop := match vs[i]? with
  | some (some u) => v = u
  | _ => E i v w
theorem fixF_keep {vs : List (Option Value)} {E : Nat → Value → World → Prop} {i : Nat} {v : Value} {w w' : World} (h : fixF vs E i v w) (hE : E i v w → E i v w') : fixF vs E i v w' := by
  unfold fixF at h ⊢
  split at h
  · exact h
  · exact hE h
theorem drawnH {id : Nat} {a : Act} {w : World} (hm : P.follows .mixedOrders = true) (L n : Nat) (ds : List Nat) (vs : List (Option Value)) (E : Nat → Value → World → Prop)
    (hn : a.tmps.size = n) (hok : drawnGOk ops L n = true) (hds : (ops.toList.take L).filterMap (·.dst) = ds) (hd : a.defers = [])
    (hE : ∀ i v w w', E i v w → Below w.heap.size w w' → E i v w')
    (hstep : ∀ (i : Nat) (o : Oper) (a' : Act) (w' : World), i < L → ops[i]? = some o → a'.defers = [] → (∀ t : Nat, (ops.toList.take L).all (fun o => !decide (o.dst = some t)) = true → a'.tmps[t]? = a.tmps[t]?) → Below w.heap.size w w' →
      (∀ j d, waitsFor ops i j = some d → ∃ v, a'.tmps[d]? = some v ∧ fixF vs E j v w') → (Region.wanted o (yielded ops a'.tmps) = true ∧ o.wp P a' w' (fun a2 w2 => ∃ v, a2 = a'.put o.dst v ∧ Below w'.heap.size w' w2 ∧ fixF vs E i v w2) Q) ∨ (Region.wanted o (yielded ops a'.tmps) = false ∧ Below w'.heap.size w' w' ∧ fixF vs E i undef w'))
    (hlast : ∀ (o : Oper) (u : Nat → Value) (w' : World), ops[L]? = some o → Below w.heap.size w w' → (∀ i d, i < L → dstOf ops i = some d → fixF vs E i (u d) w') → o.wp P (ds.foldl (fun x d => x.put (some d) (u d)) a) w' (fun a2 w2 => Q .normal a2 w2) Q) :
    (Code.region id ops true).wp P Q a w := by
  refine drawnG hm L n ds (fun W => Below w.heap.size w W) (fixF vs E) (fun _ w w' => Below w.heap.size w w') (fun _ => none) (fun _ _ => true) hn hok hds ?_ hd (Below.drew (Below.refl _ _)) (fun i j v w w' _ _ h hr => fixF_keep h (fun h => hE i v w w' h hr)) (fun i w2 w3 h hr => h.trans (hr.mono h.size)) hstep (fun o u w' ho hg h => hlast o u w' ho hg (fun i d hi hdd => h i d hi rfl hdd))
  · unfold keepOk
    rw [List.all_eq_true]
    intro i hi
    rw [List.all_eq_true]
    intro j hj
    simp
end
end Go.Proofs.YtgphngjniplonaaGreatDoor

namespace Go.Proofs.YtgphngjniplonaaGreatDoor
open Go.RowKit
theorem putE_len : ∀ (l : List GEdge) (e : GEdge), (putE l e).length ≤ l.length + 1
 | [], e => by simp [putE]
 | x :: t, e => by
  unfold putE
  split
  ·have := putE_len t e; simp; omega
  ·split
   ·simp
   ·simp
end Go.Proofs.YtgphngjniplonaaGreatDoor

namespace Go.Proofs.YtgphngjniplonaaGreatDoor
def idxD (ds : List GDecl) (r : ByteArray) : Option Nat := ds.findIdx? (fun d => decide (d.rel = r))
def idxI : Option Nat → Int
  | some i => (i : Int)
  | none => -1
theorem idxD_hit {ds : List GDecl} {r : ByteArray} {k : Nat} {d : GDecl} (hk : ds[k]? = some d) (hd : d.rel = r) (hn : ∀ y ∈ ds.take k, y.rel ≠ r) : idxD ds r = some k := by
  obtain ⟨hlt, he⟩ := List.getElem?_eq_some_iff.1 hk
  unfold idxD
  rw [List.findIdx?_eq_some_iff_getElem]
  refine ⟨hlt, by rw [he]; simp [hd], fun j hj => ?_⟩
  have hm : ds[j]'(by omega) ∈ ds.take k := List.mem_take_iff_getElem.2 ⟨j, by omega, rfl⟩
  simpa using hn _ hm
theorem idxD_miss {ds : List GDecl} {r : ByteArray} (hn : ∀ y ∈ ds, y.rel ≠ r) : idxD ds r = none := by
  unfold idxD
  rw [List.findIdx?_eq_none_iff]
  intro y hy
  simpa using hn y hy
theorem idxD_lt {ds : List GDecl} {r : ByteArray} {k : Nat} (h : idxD ds r = some k) : k < ds.length := by
  unfold idxD at h
  rw [List.findIdx?_eq_some_iff_getElem] at h
  exact h.1
theorem idxI_none {o : Option Nat} : idxI o < 0 ↔ o = none := by
  cases o with
  | none => simp [idxI]
  | some k => simp only [idxI]; constructor
              · intro h; omega
              · intro h; cases h
theorem formed_decl {p : GProg} (h : formedB p = true) : p.decls.length ≤ 32 ∧ ∀ x ∈ p.decls, declB x = true := by
  unfold formedB at h
  simp only [Bool.and_eq_true, decide_eq_true_eq, List.all_eq_true] at h
  exact ⟨h.1.1, h.2.1⟩
theorem formed_rules {p : GProg} (h : formedB p = true) : p.rules.length ≤ 64 ∧ ∀ x ∈ p.rules, rightRule x = true := by
  unfold formedB at h
  simp only [Bool.and_eq_true, decide_eq_true_eq, List.all_eq_true] at h
  exact ⟨h.1.2, h.2.2⟩
theorem right_body {x : GRule} (h : rightRule x = true) : x.body.length ≤ 8 ∧ ∀ y ∈ x.body, rightLit y = true := by
  unfold rightRule at h
  simp only [Bool.and_eq_true, decide_eq_true_eq, List.all_eq_true] at h
  exact h.2.2
end Go.Proofs.YtgphngjniplonaaGreatDoor

namespace Go.Proofs.YtgphngjniplonaaGreatDoor
def edgeY (p : GProg) (x : GRule) (y : GLit) : List GEdge :=
  match idxD p.decls x.head.rel, idxD p.decls y.atom.rel with
  | some a, some b => [⟨(a : Int), (b : Int), decide (y.k = 2) || decide (0 < x.agg)⟩]
  | _, _ => []
def bodyE (p : GProg) (x : GRule) : List GEdge := x.body.flatMap (edgeY p x)
def ofL (p : GProg) : List GEdge := p.rules.flatMap (bodyE p)
theorem edgeY_none {p : GProg} {x : GRule} {y : GLit} (h : idxI (idxD p.decls x.head.rel) < 0 ∨ idxI (idxD p.decls y.atom.rel) < 0) : edgeY p x y = [] := by
  unfold edgeY
  rcases h with h | h
  · rw [idxI_none.1 h]
  · rw [idxI_none.1 h]; cases idxD p.decls x.head.rel <;> rfl
theorem edgeY_some {p : GProg} {x : GRule} {y : GLit} (h : 0 ≤ idxI (idxD p.decls x.head.rel)) (h2 : 0 ≤ idxI (idxD p.decls y.atom.rel)) :
    edgeY p x y = [⟨idxI (idxD p.decls x.head.rel), idxI (idxD p.decls y.atom.rel), decide (y.k = 2) || decide (0 < x.agg)⟩] := by
  unfold edgeY
  cases h3 : idxD p.decls x.head.rel with
  | none => rw [h3] at h; simp [idxI] at h
  | some a =>
    cases h4 : idxD p.decls y.atom.rel with
    | none => rw [h4] at h2; simp [idxI] at h2
    | some b => rfl
theorem of_within {p : GProg} : ∀ e ∈ ofL p, withinE e (p.decls.length : Int) = true := by
  intro e he
  obtain ⟨x, -, he⟩ := List.mem_flatMap.1 he
  obtain ⟨y, -, he⟩ := List.mem_flatMap.1 he
  unfold edgeY at he
  split at he
  · rename_i a b h1 h2
    rw [List.mem_singleton] at he
    subst he
    have := idxD_lt h1
    have := idxD_lt h2
    simp only [withinE, Bool.and_eq_true, decide_eq_true_eq]
    omega
  · cases he
theorem flat_snoc {α β : Type} (f : α → List β) {l : List α} {k : Nat} {x : α} (h : l[k]? = some x) : (l.take (k + 1)).flatMap f = (l.take k).flatMap f ++ f x := by
  rw [List.take_add_one, h, List.flatMap_append]
  simp
end Go.Proofs.YtgphngjniplonaaGreatDoor

namespace Go.Proofs.YtgphngjniplonaaGreatDoor
open Go.RowKit
def IdxRet (ds : List GDecl) (r : ByteArray) (w : World) (e : Ending) (w' : World) : Prop := e = .returned (.int .i64 (idxI (idxD ds r))) ∧ Below w.heap.size w w'
theorem idxRet_hit {ds : List GDecl} {r : ByteArray} {k : Nat} {d : GDecl} {w w' : World} (hk : ds[k]? = some d) (hd : d.rel = r) (hn : ∀ y ∈ ds.take k, y.rel ≠ r) (hb : Below w.heap.size w w') : IdxRet ds r w (.returned (.int .i64 (k : Int))) w' := by
 refine ⟨?_, hb⟩
 rw [idxD_hit hk hd hn]; rfl
theorem idxRet_miss {ds : List GDecl} {r : ByteArray} {w w' : World} (hn : ∀ y ∈ ds, y.rel ≠ r) (hb : Below w.heap.size w w') : IdxRet ds r w (.returned (.int .i64 (-1))) w' := by
 refine ⟨?_, hb⟩
 rw [idxD_miss hn]; rfl
theorem take_miss {ds : List GDecl} {r : ByteArray} {k : Nat} {d : GDecl} (hk : ds[k]? = some d) (hd : d.rel ≠ r) (hn : ∀ y ∈ ds.take k, y.rel ≠ r) : ∀ y ∈ ds.take (k + 1), y.rel ≠ r := by
 intro y hy
 rw [List.take_add_one, hk] at hy
 rcases List.mem_append.1 hy with hy | hy
 ·exact hn y hy
 ·simp at hy; subst hy; exact hd
theorem rel_eq {x r : ByteArray} (h : x = r) : (x.toList == r.toList) = true ∧ (x == r) = true ∧ decide (x.toList = r.toList) = true := by subst h; simp
theorem rel_ne {x r : ByteArray} (h : x ≠ r) : (x.toList == r.toList) = false ∧ (x == r) = false ∧ decide (x.toList = r.toList) = false := by
 have h1 : x.toList ≠ r.toList := fun e => h ((toList_inj _ _).1 e)
 simp [h1, h]
theorem idx1_any (x : GDecl) (a : Hd) (g : Nat) (r : ByteArray) (B : Bool) (hB : x.rel = r ↔ B = true) (w : World) (hg : w.cell? ⟨g, 0, none⟩ = some (.string r)) :
  Calls Tryz.prog 60 #[.agg #[.string x.rel, a.v, .int .i64 x.pos], .pointer (some ⟨g, 0, none⟩)] w (RetBool B w) := by
 have cg : (w.alloc (.cells #[.string x.rel, a.v, .int .i64 x.pos] 77)).cell? ⟨g, 0, none⟩ = some (.string r) := cellA hg
 have hrb : (w.alloc (.cells #[.string x.rel, a.v, .int .i64 x.pos] 77)).heap[w.heap.size]? = some (.cells #[.string x.rel, a.v, .int .i64 x.pos] 77 (0, 0)) := heapNew rfl
 obtain ⟨b0, b1, b2⟩ := facts3 hrb
 have hbw : Below w.heap.size w (w.alloc (.cells #[.string x.rel, a.v, .int .i64 x.pos] 77)) := belowA (Below.refl _ _) _
 have HB := Lib.hid hbw
 have hE : (x.rel.toList == r.toList) = B ∧ (x.rel == r) = B ∧ decide (x.rel.toList = r.toList) = B := by
  cases B with
  | true => exact rel_eq (hB.2 rfl)
  | false => exact rel_ne (fun e => by have := hB.1 e; cases this)
 obtain ⟨e1, e2, e3⟩ := hE
 clear hg hrb hbw hB
 go_enter Tryz.func60, Tryz.ntmps60
 go_wp2_with fail
 go_ret
 exact ⟨by simp_all, HB.out⟩
theorem idxF_any (A : Option Addr) (n c : Nat) (l : List GDecl) (g : Nat) (r : ByteArray) (w : World) (hl : SliceIs Enc.decl w w.heap.size A n c l) (hg : w.cell? ⟨g, 0, none⟩ = some (.string r)) :
  Calls Tryz.prog 59 #[.slice A n c, .func (.func 60) #[] #[.pointer (some ⟨g, 0, none⟩)]] w (IdxRet l r w) := by
 have hn := hl.bound
 have HL := Lib.hid hl
 have hlen := Lib.hid hl.1
 have Hg := Lib.hid hg
 clear hl hg
 go_enter Tryz.func59, Tryz.ntmps59
 go_wp2_with fail
 go_loopw [5, 8] (fun _ i wr => ∃ k : Nat, k ≤ n ∧ i = .int .i64 k ∧ Hid (∀ y ∈ l.take k, y.rel ≠ r) ∧ Below w.heap.size w wr) (fun _ i _ => n - (intOf i).toNat)
 case atStart => exact ⟨0, by omega, rfl, (fun y hy => by simp at hy), Below.refl _ _⟩
 case round =>
  obtain ⟨k, hk, rfl, hpre, hbr⟩ := hrel
  by_cases hlt : k < n
  ·have HLr := (HL.out.below hbr)
   obtain ⟨b, o, x, a, rfl, hbb, hx, hat, z0, z1, z2⟩ := HLr.decl_at hlt
   have i0 : (0 : Int) ≤ (k : Int) := by omega
   have i1 : (k : Int) < (n : Int) := by omega
   obtain ⟨B, hB⟩ : ∃ B : Bool, x.rel = r ↔ B = true := ⟨decide (x.rel = r), by simp⟩
   have C := Lib.hid (idx1_any x a g r B hB wr (below_cell hbr Hg.out))
   have HT : Hid (B = false → ∀ y ∈ l.take (k + 1), y.rel ≠ r) := fun hf => take_miss hx.out (fun e => by have := hB.1 e; rw [hf] at this; cases this) hpre.out
   have HF : Hid (B = true → ∀ w1, Below w.heap.size w w1 → IdxRet l r w (.returned (.int .i64 (k : Int))) w1) := fun ht w1 h1 => idxRet_hit hx.out (hB.2 ht) hpre.out h1
   clear HLr hat hB
   cases B with
   | false =>
    have HT2 := Lib.hid (HT.out rfl)
    clear HF HT
    go_wp2_with fail
    refine C.out.mono ?_
    rintro e w1 ⟨rfl, hb⟩
    have Hb := Lib.hid hb
    clear hb
    go_wp2_with fail
    go_roundw
    case rel => exact ⟨k + 1, by omega, by go_num, HT2, below_next hbr Hb.out⟩
    case measure => simp [intOf]; omega
   | true =>
    have HF2 := Lib.hid (HF.out rfl)
    clear HF HT
    go_wp2_with fail
    refine C.out.mono ?_
    rintro e w1 ⟨rfl, hb⟩
    have HE := Lib.hid (HF2.out w1 (below_next hbr hb))
    clear hb HF2
    go_wp2_with fail
    go_ret
    exact HE.out
  ·have i1 : ¬ (k : Int) < (n : Int) := by omega
   have HA : Hid (IdxRet l r w (.returned (.int .i64 (-1))) wr) := idxRet_miss (fun y hy => hpre.out y (by rw [List.take_of_length_le (by have := hlen.out; omega)]; exact hy)) hbr
   go_wp2_with fail
   go_ret
   exact HA.out
theorem tyIndex_any (aA : Option Addr) (an ac : Nat) (bv : Value) (l : List GDecl) (r : ByteArray) (w : World) (hl : SliceIs Enc.decl w w.heap.size aA an ac l) :
  Calls Tryz.prog 33 #[.agg #[.slice aA an ac, bv], .string r] w (IdxRet l r w) := by
 obtain ⟨V, hV⟩ : ∃ V, V = (w.alloc (.cells #[.slice aA an ac, bv] 25)).alloc (.cells #[.string r] 9) := ⟨_, rfl⟩
 have HVe := Lib.hid hV.symm
 have hb : Below w.heap.size w V := by rw [hV]; exact belowA (belowA (Below.refl _ _) _) _
 have hr0 : V.heap[w.heap.size]? = some (.cells #[.slice aA an ac, bv] 25 (0, 0)) := by rw [hV]; exact heapOld (heapNew rfl)
 have hr1 : V.heap[w.heap.size + 1]? = some (.cells #[.string r] 9 (0, 0)) := by rw [hV]; exact heapNew (by simp)
 have c0 : V.cell? ⟨w.heap.size, 0, none⟩ = some (.slice aA an ac) := (cell_of_row _ _ 0 _ _ _ hr0).trans rfl
 have C := Lib.hid (idxF_any aA an ac l (w.heap.size + 1) r V (hl.keep hb) ((cell_of_row _ _ 0 _ _ _ hr1).trans rfl))
 have HB := Lib.hid hb
 clear hV hb hr0 hr1 hl
 go_enter Tryz.func33, Tryz.ntmps33
 go_wp2_with (rw [HVe.out])
 refine C.out.mono ?_
 rintro e w1 ⟨rfl, hb1⟩
 have HE : Hid (IdxRet l r w (.returned (.int .i64 (idxI (idxD l r)))) w1) := ⟨rfl, HB.out.trans (hb1.mono HB.out.size)⟩
 clear hb1
 go_wp2_with fail
 go_ret
 exact HE.out
end Go.Proofs.YtgphngjniplonaaGreatDoor

namespace Go.Proofs.YtgphngjniplonaaGreatDoor
open Go.RowKit
theorem run_loadVar_cells {P : Program} (w : World) (g off : Nat) (ty : TypeId) (cs : List Value) (d : TypeDesc) (hc : ∀ j v, cs[j]? = some v → w.cell? ⟨g, off + j, none⟩ = some v)
    (hu : P.underlying ty = some d) (hd : (match d with | .struct _ | .array _ _ => true | _ => false) = true) (hi : (P.info? ty).map (·.size) = some cs.length) :
    (loadVar ty ⟨g, off, none⟩).run P w = .ok (.agg cs.toArray) w := by
  have hl : (loadCells ⟨g, off, none⟩ cs.length).run P w = .ok cs.toArray w :=
    run_loadCells_list (P := P) w ⟨g, off, none⟩ cs (fun j v hv => by
      have hadd : (⟨g, off, none⟩ : Addr).add j = ⟨g, off + j, none⟩ := by unfold Addr.add; split <;> simp_all
      rw [hadd]
      exact hc j v hv)
  cases hq : P.info? ty with
  | none => simp [hq] at hi
  | some i =>
    have hs : i.size = cs.length := by simpa [hq] using hi
    have hagg : (isAgg ty).run P w = .ok true w := by
      unfold isAgg
      rw [Sem.run_bind, run_underlying hu w]
      cases d <;> simp_all
    simp [loadVar, Sem.run_bind, hagg, sizeOf, typeInfo, hq, hs, hl]
theorem wp_load_cells {P : Program} {o : Oper} {a : Act} {w : World} {K : Act → World → Prop} {Q : Exit → Act → World → Prop} (ty : TypeId) (x : Operand) (ho : o.op = .load ty x)
    (g off : Nat) (hx : a.eval x = .pointer (some ⟨g, off, none⟩)) (cs : List Value) (d : TypeDesc) (hc : ∀ j v, cs[j]? = some v → w.cell? ⟨g, off + j, none⟩ = some v)
    (hu : P.underlying ty = some d) (hd : (match d with | .struct _ | .array _ _ => true | _ => false) = true) (hi : (P.info? ty).map (·.size) = some cs.length)
    (h : K (a.put o.dst (.agg cs.toArray)) w) : o.wp P a w K Q := by
  unfold Oper.wp execOp
  simp only [ho, hx, Instr.loadAt, Instr.sureAddr, Sem.run_bind, Sem.run_pure, Result.andThen_ok, run_loadVar_cells w g off ty cs d hc hu hd hi]
  exact h
theorem wpList_load_at {P : Program} {ops : Array Oper} {rest : List Oper} {a : Act} {w : World} {Q : Exit → Act → World → Prop} {dst : Option Tmp} {ty : TypeId} {x : Operand} {tt : TypeId} {ps : String} {af : Array Edge} {gd : Option (Nat × Bool)}
    (g off : Nat) (cs : List Value) (d : TypeDesc) (hc : ∀ j v, cs[j]? = some v → w.cell? ⟨g, off + j, none⟩ = some v)
    (hu : P.underlying ty = some d) (hd : (match d with | .struct _ | .array _ _ => true | _ => false) = true) (hi : (P.info? ty).map (·.size) = some cs.length)
    (hx : a.eval x = .pointer (some ⟨g, off, none⟩)) (hw : Region.wanted (Oper.mk dst (.load ty x) tt ps af gd) (yielded ops a.tmps) = true)
    (h : wpList P ops Q rest (a.put dst (.agg cs.toArray)) w) : wpList P ops Q (Oper.mk dst (.load ty x) tt ps af gd :: rest) a w :=
  wpList_step fun K hK => by
    rw [hw, if_pos rfl]
    exact wp_load_cells ty x rfl g off hx cs d hc hu hd hi (hK _ _ h)
theorem SliceIs.cells_at {α : Type} {E : Enc α} {w : World} {B : Nat} {A : Option Addr} {n c : Nat} {l : List α} (h : SliceIs E w B A n c l) {i : Nat} (hi : i < n) :
    ∃ b o x cs, A = some ⟨b, o, none⟩ ∧ b < B ∧ Hid (l[i]? = some x) ∧ E.ok w B cs x ∧ ∀ j v, cs[j]? = some v → w.cell? ⟨b, o + i * E.sz + j, none⟩ = some v := h.at_ hi
end Go.Proofs.YtgphngjniplonaaGreatDoor
