/- My own texts Drawn, ExpTerms, TSmall, Wide, PushR, CpExp, as far as this claim needs them. -/
import Derived.Test.YtaeedepojpablaaGreatDoorZq8
import Derived.Deep.MidRow
import Derived.Great.Walk
import Derived.Great.BuildSlice
set_option linter.unusedVariables false
set_option linter.unusedSimpArgs false
set_option maxRecDepth 1000000
set_option maxHeartbeats 16000000
namespace Go.Proofs.YtaeedepojpablaaGreatDoor
open Go.RowKit
def ancs (ops : Array Oper) : Nat → Nat → List Nat
 | 0, _ => []
 | f + 1, i => match ops[i]? with
   | none => []
   | some o => (o.after.toList.filter (fun e => Region.binds .any e)).flatMap (fun e => e.on :: ancs ops f e.on)
structure Mid (ops : Array Oper) (base : Array Value) (L : Nat) (G : Nat → World → Prop) (F : Nat → Value → World → Prop) (listed : Array Bool) (a : Act) (w : World) : Prop where
 defers : a.defers = []
 size : a.tmps.size = base.size
 lsize : listed.size = ops.size
 closed : ∀ (i : Nat) (o : Oper), ops[i]? = some o → listed.getD i false = true → ∀ e ∈ o.after, Region.binds .any e = true → listed.getD e.on false = true
 old : ∀ t : Nat, (∀ (i : Nat) (o : Oper), i < L → ops[i]? = some o → o.dst ≠ some t) → a.tmps[t]? = base[t]?
 glob : ∀ j, j ≤ L → listed.getD j false = false → G j w
 fact : ∀ (i : Nat) (o : Oper) (d : Tmp), ops[i]? = some o → o.dst = some d → listed.getD i false = true → ∃ v, a.tmps[d]? = some v ∧ F i v w
theorem ancs_listed {ops : Array Oper} {listed : Array Bool} (hc : ∀ (i : Nat) (o : Oper), ops[i]? = some o → listed.getD i false = true → ∀ e ∈ o.after, Region.binds .any e = true → listed.getD e.on false = true) :
 ∀ (f i : Nat) (o : Oper), ops[i]? = some o → (∀ e ∈ o.after, Region.binds .any e = true → listed.getD e.on false = true) → ∀ j ∈ ancs ops f i, listed.getD j false = true
 | 0, _, _, _, _, j, hj => by cases hj
 | f + 1, i, o, ho, h, j, hj => by
   simp only [ancs, ho] at hj; obtain ⟨e, he, hje⟩ := List.mem_flatMap.1 hj; obtain ⟨he1, he2⟩ := List.mem_filter.1 he; have hl := h e (by simpa using he1) he2; rcases List.mem_cons.1 hje with rfl | hje
   ·exact hl
   ·cases ho2 : ops[e.on]? with
    | none =>
      cases f with
      | zero => cases hje
      | succ f => simp [ancs, ho2] at hje
    | some o2 => exact ancs_listed hc f e.on o2 ho2 (hc e.on o2 ho2 hl) j hje
theorem getD_set_same {l : Array Bool} {i : Nat} {b : Bool} (h : i < l.size) : (l.setIfInBounds i true).getD i b = true := by simp [h]
theorem getD_set_other {l : Array Bool} {i j : Nat} {b : Bool} (h : i ≠ j) : (l.setIfInBounds i true).getD j b = l.getD j b := by
 simp [Array.getElem?_setIfInBounds_ne h]
theorem getD_any {l : Array Bool} {i : Nat} (h : i < l.size) (b c : Bool) : l.getD i b = l.getD i c := by simp [h]
theorem count_set : ∀ (l : List Bool) (i : Nat), l[i]? = some false → (l.set i true).count false + 1 = l.count false
 | [], i, h => by simp at h
 | b :: l, 0, h => by simp at h; subst h; simp
 | b :: l, i + 1, h => by
   have := count_set l i (by simpa using h); simp only [List.set_cons_succ, List.count_cons]; omega
theorem least_off (listed : Array Bool) (P : Nat → Prop) : ∀ (n : Nat), (∃ i, i < n ∧ listed.getD i true = false) → ∃ i, listed.getD i true = false ∧ ∀ j, j < i → listed.getD j true = true
 | 0, ⟨i, hi, _⟩ => by omega
 | n + 1, ⟨i, hi, h⟩ => by
   by_cases hex : ∃ i, i < n ∧ listed.getD i true = false
   ·exact least_off listed P n hex
   ·have hin : i = n := by
     rcases Nat.lt_or_ge i n with hlt | hge
     ·exact absurd ⟨i, hlt, h⟩ hex
     ·omega
    subst hin; refine ⟨i, h, fun j hj => ?_⟩; cases hb : listed.getD j true with
    | true => rfl
    | false => exact absurd ⟨j, hj, hb⟩ hex
section
variable {P : Program} {ops : Array Oper} {Q : Exit → Act → World → Prop}
theorem wpAny_end {listed : Array Bool} {a : Act} {w : World} (hr : Region.ready .any ops listed = []) (h : Q .normal a w) : ∀ fuel, wpAny P .any ops Q fuel listed a w
 | 0 => ⟨hr, h⟩
 | _ + 1 => ⟨fun _ => h, by rw [hr]; simp⟩
theorem drawn_law {id : Nat} {a : Act} {w : World} (hm : P.follows .mixedOrders = true) (L : Nat) (G : Nat → World → Prop) (F : Nat → Value → World → Prop) (R : Nat → World → World → Prop)
 (hd : a.defers = []) (hL : L + 1 = ops.size) (hg : ∀ (i : Nat) (o : Oper), ops[i]? = some o → o.guard = none) (hord : ∀ (i : Nat) (o : Oper), ops[i]? = some o → ∀ e ∈ o.after, e.on < i)
 (hdst : ∀ (i j : Nat) (o o' : Oper) (d : Tmp), ops[i]? = some o → ops[j]? = some o' → o.dst = some d → o'.dst = some d → i = j) (hsz : ∀ (i : Nat) (o : Oper) (d : Tmp), ops[i]? = some o → o.dst = some d → d < a.tmps.size)
 (hanc : ∀ j, j < L → j ∈ ancs ops ops.size L)
 (hG : ∀ j, j ≤ L → G j w.drew) (hFm : ∀ i j v w w', i ≠ j → i < L → j < L → F i v w → R j w w' → F i v w') (hGm : ∀ i j w w', i ≠ j → i < L → j ≤ L → j ∉ ancs ops ops.size i → G j w → R i w w' → G j w')
 (hstep : ∀ (i : Nat) (o : Oper) (a' : Act) (w' : World), ops[i]? = some o → i < L → a'.defers = [] → a'.tmps.size = a.tmps.size → (∀ t : Nat, (∀ (i : Nat) (o : Oper), i < L → ops[i]? = some o → o.dst ≠ some t) → a'.tmps[t]? = a.tmps[t]?) → G i w' → G L w' →
  (∀ e ∈ o.after, Region.binds .any e = true → ∀ oj d, ops[e.on]? = some oj → oj.dst = some d → ∃ v, a'.tmps[d]? = some v ∧ F e.on v w') → o.wp P a' w' (fun a2 w2 => ∃ v, a2 = a'.put o.dst v ∧ R i w' w2 ∧ F i v w2) Q)
 (hlast : ∀ (o : Oper) (a' : Act) (w' : World), ops[L]? = some o → a'.defers = [] → a'.tmps.size = a.tmps.size → (∀ t : Nat, (∀ (i : Nat) (o : Oper), i < L → ops[i]? = some o → o.dst ≠ some t) → a'.tmps[t]? = a.tmps[t]?) → G L w' →
  (∀ (i : Nat) (oj : Oper) (d : Tmp), i < L → ops[i]? = some oj → oj.dst = some d → ∃ v, a'.tmps[d]? = some v ∧ F i v w') → o.wp P a' w' (fun a2 w2 => Q .normal a2 w2) Q) :
 (Code.region id ops true).wp P Q a w := by
 have main : ∀ (fuel : Nat) (listed : Array Bool) (a' : Act) (w' : World), Mid ops a.tmps L G F listed a' w' → listed.getD L true = false → listed.toList.count false ≤ fuel → wpAny P .any ops Q fuel listed a' w' := by
  intro fuel; induction fuel with
  | zero =>
    intro listed a' w' hM hoff hc
    have : false ∈ listed.toList := by
     have hl : L < listed.size := by rw [hM.lsize]; omega
     have h1 : listed[L]? = some false := by simp [hl] at hoff ⊢; exact hoff
     exact List.mem_iff_getElem?.2 ⟨L, by simpa using h1⟩
    have := List.count_pos_iff.2 this; omega
  | succ fuel ih =>
    intro listed a' w' hM hoff hc; refine ⟨fun hr => ?_, fun i hi => ?_⟩
    ·exfalso; obtain ⟨i, h1, h2⟩ := least_off listed (fun _ => True) ops.size ⟨L, by omega, hoff⟩
     have hil : i < listed.size := by
      rcases Nat.lt_or_ge i listed.size with h | h
      ·exact h
      ·simp [Array.getElem?_eq_none h] at h1
     have hio : i < ops.size := by rw [← hM.lsize]; exact hil
     have : i ∈ Region.ready .any ops listed := mem_ready.2 ⟨h1, ops[i], by simp [hio], fun e he _ => by
      have h3 := hord i ops[i] (by simp [hio]) e he; have h4 := h2 e.on h3
      rwa [getD_any (by omega) true false] at h4⟩
     rw [hr] at this; cases this
    ·obtain ⟨h1, o, ho, h2⟩ := mem_ready.1 hi; have hio : i < ops.size := (glt ho)
     have hil : i < listed.size := by rw [hM.lsize]; exact hio
     have hw : Region.wanted o (yielded ops a'.tmps) = true := by simp [Region.wanted, hg i o ho]
     unfold wpOp; rw [ho]; simp only [hw, if_true]; left
     by_cases hiL : i = L
     ·subst hiL; have hall : ∀ j, j < i → listed.getD j false = true := fun j hj => ancs_listed hM.closed ops.size i o ho h2 j (hanc j hj)
      refine Oper.wp_mono (fun a2 w2 h => ?_) (hlast o a' w' ho hM.defers hM.size hM.old (hM.glob i (Nat.le_refl _) (by rw [getD_any (c := true) (by omega)]; exact hoff)) (fun j oj d hj hoj hdj => hM.fact j oj d hoj hdj (hall j hj))); refine wpAny_end ?_ h fuel; apply List.eq_nil_iff_forall_not_mem.2; intro j hj; obtain ⟨h3, oj, hoj, -⟩ := mem_ready.1 hj; have hjo : j < ops.size := (glt hoj)
      by_cases hji : i = j
      ·subst hji; rw [getD_set_same hil] at h3; cases h3
      ·rw [getD_set_other hji, getD_any (c := false) (by omega), hall j (by omega)] at h3; cases h3
     ·have hiL' : i < L := by omega
      have hif : listed.getD i false = false := by rw [getD_any (c := true) (by omega)]; exact h1
      refine Oper.wp_mono (fun a2 w2 h => ?_) (hstep i o a' w' ho hiL' hM.defers hM.size hM.old (hM.glob i (by omega) hif) (hM.glob L (Nat.le_refl _) (by rw [getD_any (c := true) (by rw [hM.lsize]; omega)]; exact hoff)) (fun e he hb oj d hoj hdj => hM.fact e.on oj d hoj hdj (h2 e he hb))); obtain ⟨v, rfl, hb, hF⟩ := h
      have hfac : ∀ (j : Nat) (oj : Oper) (d : Tmp), i ≠ j → ops[j]? = some oj → oj.dst = some d → listed.getD j false = true → ∃ v, a'.tmps[d]? = some v ∧ F j v w2 := fun j oj d hji hoj hdj hlj => by
       obtain ⟨u, hu, hFu⟩ := hM.fact j oj d hoj hdj hlj; have hjs : j < ops.size := (glt hoj)
       have hjL : j ≠ L := fun e => by rw [e, getD_any (c := true) (by rw [hM.lsize]; omega), hoff] at hlj; cases hlj
       exact ⟨u, hu, hFm j i u _ _ (Ne.symm hji) (by omega) hiL' hFu hb⟩
      refine ih _ _ _ ⟨?_, ?_, ?_, ?_, ?_, ?_, ?_⟩ (by rw [getD_set_other hiL]; exact hoff) ?_
      ·cases o.dst <;> exact hM.defers
      ·cases o.dst <;> simp [Act.put, hM.size]
      ·simp [hM.lsize]
      ·intro j oj hoj hlj e he hbe; by_cases hje : i = e.on
       ·rw [hje]; exact getD_set_same (by omega)
       ·rw [getD_set_other hje]; by_cases hji : i = j
        ·subst hji; have : oj = o := by rw [ho] at hoj; injection hoj with hoj; exact hoj.symm
         subst this; exact h2 e he hbe
        ·rw [getD_set_other hji] at hlj; exact hM.closed j oj hoj hlj e he hbe
      ·intro t ht; rw [← hM.old t ht]; have := ht i o hiL' ho; cases hd : o.dst with
       | none => rfl
       | some d => simp only [Act.put]; exact Array.getElem?_setIfInBounds_ne (by intro e; rw [hd, e] at this; exact this rfl)
      ·intro j hj hlj; by_cases hji : i = j
       ·subst hji; rw [getD_set_same hil] at hlj; cases hlj
       ·rw [getD_set_other hji] at hlj; refine hGm i j _ _ hji hiL' hj (fun hmem => ?_) (hM.glob j hj hlj) hb; have := ancs_listed hM.closed ops.size i o ho h2 j hmem; rw [hlj] at this; cases this
      ·intro j oj d hoj hdj hlj; by_cases hji : i = j
       ·subst hji; have : oj = o := by rw [ho] at hoj; injection hoj with hoj; exact hoj.symm
        subst this; have hds := hsz i oj d hoj hdj; refine ⟨v, ?_, hF⟩; rw [hdj]; simp [Act.put, hM.size, hds]
       ·rw [getD_set_other hji] at hlj; obtain ⟨u, hu, hFu⟩ := hfac j oj d hji hoj hdj hlj; refine ⟨u, ?_, hFu⟩; rw [← hu]; cases hd : o.dst with
        | none => rfl
        | some d' => simp only [Act.put]; exact Array.getElem?_setIfInBounds_ne (by intro e; exact hji (hdst i j o oj d ho hoj (by rw [hd, e]) hdj))
      ·have h3 : listed.toList[i]? = some false := by simp [hil] at h1 ⊢; exact h1
       have h4 := count_set _ _ h3; rw [Array.toList_setIfInBounds]; omega
 have hLo : L < ops.size := by omega
 refine wp_region_any hm (main ops.size (Array.replicate ops.size false) a _ ⟨hd, rfl, by simp, ?_, fun _ _ => rfl, fun j hj _ => hG j hj, ?_⟩ (by simp [hLo]) ?_)
 ·intro i o ho hl; have hio : i < ops.size := (glt ho)
  simp [hio] at hl
 ·intro i o d ho _ hl; have hio : i < ops.size := (glt ho)
  simp [hio] at hl
 ·refine Nat.le_trans List.count_le_length ?_; simp
def drawnOk (ops : Array Oper) (L n : Nat) : Bool :=
 decide (L + 1 = ops.size) && ((List.range ops.size).all fun i => match ops[i]? with
  | none => true
  | some o => o.guard.isNone && (o.after.toList.all (fun e => decide (e.on < i)) && (match o.dst with
    | none => true
    | some d => decide (d < n) && (List.range ops.size).all (fun j => decide (i = j) || (match ops[j]? with | none => true | some o' => !decide (o'.dst = some d)))))) &&
 (List.range L).all (fun j => (ancs ops ops.size L).contains j)
def waitsFor (ops : Array Oper) (i j : Nat) : Option Tmp := match ops[i]? with
 | none => none
 | some o => if o.after.toList.any (fun e => decide (e.on = j) && Region.binds .any e) then (match ops[j]? with | none => none | some o' => o'.dst) else none
def dstOf (ops : Array Oper) (j : Nat) : Option Tmp := match ops[j]? with | none => none | some o' => o'.dst
theorem drawn {id : Nat} {a : Act} {w : World} (hm : P.follows .mixedOrders = true) (L n : Nat) (G : Nat → World → Prop) (F : Nat → Value → World → Prop) (R : Nat → World → World → Prop)
 (hn : a.tmps.size = n) (hok : drawnOk ops L n = true) (hd : a.defers = [])
 (hG : ∀ j, j ≤ L → G j w.drew) (hFm : ∀ i j v w w', i ≠ j → i < L → j < L → F i v w → R j w w' → F i v w') (hGm : ∀ i j w w', i ≠ j → i < L → j ≤ L → j ∉ ancs ops ops.size i → G j w → R i w w' → G j w')
 (hstep : ∀ (i : Nat) (o : Oper) (a' : Act) (w' : World), i < L → ops[i]? = some o → a'.defers = [] → (∀ t : Nat, (ops.toList.take L).all (fun o => !decide (o.dst = some t)) = true → a'.tmps[t]? = a.tmps[t]?) → G i w' → G L w' →
  (∀ j d, waitsFor ops i j = some d → ∃ v, a'.tmps[d]? = some v ∧ F j v w') → o.wp P a' w' (fun a2 w2 => ∃ v, a2 = a'.put o.dst v ∧ R i w' w2 ∧ F i v w2) Q)
 (hlast : ∀ (o : Oper) (a' : Act) (w' : World), ops[L]? = some o → a'.defers = [] → a'.tmps.size = n → (∀ t : Nat, (ops.toList.take L).all (fun o => !decide (o.dst = some t)) = true → a'.tmps[t]? = a.tmps[t]?) → G L w' →
  (∀ i d, i < L → dstOf ops i = some d → ∃ v, a'.tmps[d]? = some v ∧ F i v w') → o.wp P a' w' (fun a2 w2 => Q .normal a2 w2) Q) :
 (Code.region id ops true).wp P Q a w := by
 simp only [drawnOk, Bool.and_eq_true, decide_eq_true_eq, List.all_eq_true, List.mem_range] at hok; obtain ⟨⟨hL, h1⟩, h2⟩ := hok
 have hall : ∀ (i : Nat) (o : Oper), ops[i]? = some o → o.guard.isNone = true ∧ (∀ e ∈ o.after.toList, e.on < i) ∧ (∀ d, o.dst = some d → d < n ∧ ∀ j o', ops[j]? = some o' → o'.dst = some d → i = j) := by
  intro i o ho; have hi : i < ops.size := (glt ho)
  have := h1 i hi; rw [ho] at this; simp only [Bool.and_eq_true, List.all_eq_true, decide_eq_true_eq] at this; obtain ⟨k1, k2, k3⟩ := this; refine ⟨k1, k2, fun d hd => ?_⟩; rw [hd] at k3; simp only [Bool.and_eq_true, List.all_eq_true, decide_eq_true_eq, List.mem_range, Bool.or_eq_true] at k3; refine ⟨k3.1, fun j o' ho' hd' => ?_⟩; have hj : j < ops.size := (glt ho')
  rcases k3.2 j hj with h | h
  ·exact h
  ·rw [ho'] at h; simp [hd'] at h
 have hold : ∀ t : Nat, (ops.toList.take L).all (fun o => !decide (o.dst = some t)) = true → ∀ (i : Nat) (o : Oper), i < L → ops[i]? = some o → o.dst ≠ some t := by
  intro t ht i o hi ho
  have hm : o ∈ ops.toList.take L := by
   have := List.mem_of_getElem? (l := ops.toList.take L) (i := i) (a := o) (by rw [List.getElem?_take_of_lt hi]; simpa using ho); exact this
  have := List.all_eq_true.1 ht o hm; simpa using this
 refine drawn_law hm L G F R hd hL (fun i o ho => by have := (hall i o ho).1; simpa using this) (fun i o ho e he => (hall i o ho).2.1 e (by simpa using he)) (fun i j o o' d ho ho' hd hd' => ((hall i o ho).2.2 d hd).2 j o' ho' hd') (fun i o d ho hd => by rw [hn]; exact ((hall i o ho).2.2 d hd).1)
  (fun j hj => by simpa using h2 j hj) hG hFm hGm ?_ ?_
 ·intro i o a' w' ho hi hd' hs hold' hGi hGL hw; refine hstep i o a' w' hi ho hd' (fun t ht => hold' t (hold t ht)) hGi hGL (fun j d hj => ?_); unfold waitsFor at hj; rw [ho] at hj; simp only at hj; split at hj
  ·rename_i hany
   obtain ⟨e, he, he2⟩ := List.any_eq_true.1 hany; simp only [Bool.and_eq_true, decide_eq_true_eq] at he2; obtain ⟨rfl, hb⟩ := he2; cases ho2 : ops[e.on]? with
   | none => rw [ho2] at hj; cases hj
   | some oj => rw [ho2] at hj; exact hw e (by simpa using he) hb oj d ho2 hj
  ·cases hj
 ·intro o a' w' ho hd' hs hold' hGL hw; refine hlast o a' w' ho hd' (by rw [hs, hn]) (fun t ht => hold' t (hold t ht)) hGL (fun i d hi hd => ?_); unfold dstOf at hd; cases ho2 : ops[i]? with
  | none => rw [ho2] at hd; cases hd
  | some oj => rw [ho2] at hd; exact hw i oj d hi ho2 hd
theorem eval_tmp {a : Act} {k : Nat} {v : Value} (h : a.tmps[k]? = some v) : a.eval (.tmp k) = v := by simp [Act.eval, h]
theorem op_bslice {P : Program} {o : Oper} {a : Act} {w : World} {K : Act → World → Prop} {Q : Exit → Act → World → Prop} (t e : TypeId) (len : Nat) (parts : Array (Nat × Operand)) (ho : o.op = .buildSlice t len parts) (s : Nat) (vs : List Value)
 (hu : P.underlying t = some (.slice e)) (hi : (P.info? e).map (fun i => (i.zero.isSome, i.size)) = some (true, s)) (hs : 0 < s) (hl : vs.length = len) (hpos : 0 < len) (hsmall : len * s ≤ 2 ^ 24)
 (hp : (parts.map fun (i, x) => (i, a.eval x)).toList = (vs.zipIdx 0).map fun x => (x.2, x.1)) (h1 : ∀ v ∈ vs, v.cells.size = s)
 (h : K (a.put o.dst (.slice (some ⟨w.heap.size, 0, none⟩) len len)) (w.alloc (.cells (vs.flatMap fun v => v.cells.toList).toArray e))) : o.wp P a w K Q := by
 obtain ⟨ie, hie, h2⟩ := Option.map_eq_some_iff.1 hi; injection h2 with h3 h4
 obtain ⟨z, hz⟩ := Option.isSome_iff_exists.1 h3
 have hne : ¬ len * s = 0 := by
  have := Nat.mul_pos hpos hs; omega
 refine wp_buildSlice t e len parts ho _ ie z hu hie hz (by rw [h4]; omega) (by rw [h4]; exact hne) ?_ h; rw [hp, h4]; exact Great.fill_whole hs vs _ h1 (by simp [hl])
theorem op_build {P : Program} {o : Oper} {a : Act} {w : World} {K : Act → World → Prop} {Q : Exit → Act → World → Prop} (t : TypeId) (parts : Array (Nat × Operand)) (ho : o.op = .build t parts) (ps : List (Nat × Value)) (cells : Array Value)
 (hp : (parts.map fun (i, x) => (i, a.eval x)).toList = ps) (hf : P.built t ps = some cells) (h : K (a.put o.dst (.agg cells)) w) : o.wp P a w K Q := by
 subst hp; exact wp_build t parts ho (by rw [hf]; rfl) (by rw [hf]; exact h)
theorem op_call {P : Program} {o : Oper} {a : Act} {w : World} {K : Act → World → Prop} {Q : Exit → Act → World → Prop} (f : Nat) (c : Call) (ho : o.op = .call c) (hf : c.callee = .value (.func f)) (vs : Array Value) (hv : c.args.map a.eval = vs)
 (fn : Func) (hfn : P.funcs[f]? = some fn) (hb : fn.body.isSome = true) (hng : (fn.name == "runtime.NumGoroutine") = false) (h : Calls P f vs w (fun e w' => ∃ v, e = .returned v ∧ K (a.put o.dst v) w')) : o.wp P a w K Q := by
 have hr : (execOp a.eval o).run P w = .ok (.enter f vs) w := by
  unfold execOp; have hb' : fn.body ≠ none := by intro e; rw [e] at hb; cases hb
  have hn' : fn.name ≠ "runtime.NumGoroutine" := by simpa using hng
  simp [ho, hf, resolve, Deferred.ofValue, invoke, Act.eval, go_sem, callFunc, hv, hfn, hb', hn']
 unfold Oper.wp; rw [hr, Oper.upon_enter]; refine h.mono ?_; rintro e w' ⟨v, rfl, hk⟩; exact hk
theorem puts_size (f : Nat → Value) : ∀ (ds : List Nat) (a : Act), (ds.foldl (fun x d => x.put (some d) (f d)) a).tmps.size = a.tmps.size
 | [], _ => rfl
 | d :: ds, a => by rw [List.foldl_cons, puts_size f ds]; simp [Act.put]
theorem puts_defers (f : Nat → Value) : ∀ (ds : List Nat) (a : Act), (ds.foldl (fun x d => x.put (some d) (f d)) a).defers = a.defers
 | [], _ => rfl
 | d :: ds, a => by rw [List.foldl_cons, puts_defers f ds]; rfl
theorem puts_get (f : Nat → Value) (t : Nat) : ∀ (ds : List Nat) (a : Act), t < a.tmps.size → (ds.foldl (fun x d => x.put (some d) (f d)) a).tmps[t]? = if t ∈ ds then some (f t) else a.tmps[t]?
 | [], _, _ => by simp
 | d :: ds, a, h => by
   rw [List.foldl_cons, puts_get f t ds _ (by simpa [Act.put] using h)]; by_cases h1 : t ∈ ds
   ·simp [h1]
   ·by_cases h2 : t = d
    ·subst h2; simp [h1, Act.put, h]
    ·simp [h1, h2, Act.put, Array.getElem?_setIfInBounds_ne (Ne.symm h2)]
theorem frame_of {a a' : Act} (ds : List Nat) (hs : a'.tmps.size = a.tmps.size) (hd : a'.defers = a.defers) (hold : ∀ t, t ∉ ds → a'.tmps[t]? = a.tmps[t]?) :
 ∃ f : Nat → Value, a' = ds.foldl (fun x d => x.put (some d) (f d)) a ∧ ∀ d v, a'.tmps[d]? = some v → f d = v := by
 refine ⟨fun d => a'.tmps.getD d undef, ?_, fun d v h => by simp [h]⟩
 have h1 : a'.tmps = (ds.foldl (fun x d => x.put (some d) (a'.tmps.getD d undef)) a).tmps := by
  apply Array.ext_getElem?; intro i; by_cases hi : i < a.tmps.size
  ·rw [puts_get _ i ds a hi]; by_cases hm : i ∈ ds
   ·simp [hm, hs, hi]
   ·simp [hm, hold i hm]
  ·rw [Array.getElem?_eq_none (by omega), Array.getElem?_eq_none (by rw [puts_size]; omega)]
 have h2 := (puts_defers (fun d => a'.tmps.getD d undef) ds a)
 cases a' with
 | mk t d =>
   simp only at hd h1 h2 ⊢; rw [← hd] at h2; generalize hq : ds.foldl (fun x d => x.put (some d) (t.getD d undef)) a = q at *; cases q
   simp only at h1 h2; subst h1 h2; rfl
theorem drawn2 {P : Program} {ops : Array Oper} {Q : Exit → Act → World → Prop} {id : Nat} {a : Act} {w : World} (hm : P.follows .mixedOrders = true) (L n : Nat) (ds : List Nat) (G : Nat → World → Prop) (F : Nat → Value → World → Prop) (R : Nat → World → World → Prop)
 (hn : a.tmps.size = n) (hok : drawnOk ops L n = true) (hds : (ops.toList.take L).filterMap (·.dst) = ds) (hd : a.defers = [])
 (hG : ∀ j, j ≤ L → G j w.drew) (hFm : ∀ i j v w w', i ≠ j → i < L → j < L → F i v w → R j w w' → F i v w') (hGm : ∀ i j w w', i ≠ j → i < L → j ≤ L → j ∉ ancs ops ops.size i → G j w → R i w w' → G j w')
 (hstep : ∀ (i : Nat) (o : Oper) (a' : Act) (w' : World), i < L → ops[i]? = some o → a'.defers = [] → (∀ t : Nat, (ops.toList.take L).all (fun o => !decide (o.dst = some t)) = true → a'.tmps[t]? = a.tmps[t]?) → G i w' → G L w' →
  (∀ j d, waitsFor ops i j = some d → ∃ v, a'.tmps[d]? = some v ∧ F j v w') → o.wp P a' w' (fun a2 w2 => ∃ v, a2 = a'.put o.dst v ∧ R i w' w2 ∧ F i v w2) Q)
 (hlast : ∀ (o : Oper) (u : Nat → Value) (w' : World), ops[L]? = some o → G L w' → (∀ i d, i < L → dstOf ops i = some d → F i (u d) w') → o.wp P (ds.foldl (fun x d => x.put (some d) (u d)) a) w' (fun a2 w2 => Q .normal a2 w2) Q) :
 (Code.region id ops true).wp P Q a w := by
 refine drawn hm L n G F R hn hok hd hG hFm hGm hstep ?_; intro o a' w' ho hd' hs hold hGL hw
 obtain ⟨u, hu, huv⟩ := frame_of (a := a) (a' := a') ds (by rw [hs, hn]) (by rw [hd', hd]) (fun t ht => hold t (List.all_eq_true.2 fun o ho => by
  simp only [Bool.not_eq_true', decide_eq_false_iff_not]; intro e
  exact ht (by rw [← hds]; exact List.mem_filterMap.2 ⟨o, ho, e⟩)))
 rw [hu]; refine hlast o u w' ho hGL (fun i d hi hdd => ?_); obtain ⟨v, hv, hF⟩ := hw i d hi hdd; rw [huv d v hv]; exact hF
theorem setRow_at {w : World} {g : Nat} {cs cs' : Array Value} {t : TypeId} {fr : Nat × Nat} (h : w.heap[g]? = some (.cells cs t fr)) : (w.setRow g cs').heap[g]? = some (.cells cs' t fr) := by
 simp [World.setRow, Array.getElem?_modify, h]
theorem setRow_ne {w : World} {g b : Nat} {cs' : Array Value} (h : b ≠ g) : (w.setRow g cs').heap[b]? = w.heap[b]? := by
 simp [World.setRow, Array.getElem?_modify, Ne.symm h]
theorem setRow_size {w : World} {g : Nat} {cs' : Array Value} : (w.setRow g cs').heap.size = w.heap.size := by simp [World.setRow]
end
end Go.Proofs.YtaeedepojpablaaGreatDoor

namespace Go.Proofs.YtaeedepojpablaaGreatDoor
open Go.RowKit
mutual
/-- an expression's terms -/
def leavesE : GExp → List GTold
 | .mk _ t [] => [t]
 | .mk _ _ (k :: ks) => leavesE k ++ leavesL ks
def leavesL : List GExp → List GTold
 | [] => []
 | k :: ks => leavesE k ++ leavesL ks
end
theorem leavesE_nil {e : GExp} (h : e.kids = []) : leavesE e = [e.t] := by
 cases e with
 | mk o t ks => cases ks with
   | nil => rw [leavesE]; rfl
   | cons k ks => cases h
theorem leavesE_kids {e : GExp} (h : e.kids ≠ []) : leavesE e = leavesL e.kids := by
 cases e with
 | mk o t ks => cases ks with
   | nil => exact absurd rfl h
   | cons k ks => rw [leavesE]; show _ = leavesL (k :: ks); rw [leavesL]
theorem own_type {w : World} {base e sz : Nat} {v : Value} {n : Nat} {xs : List Value} (h : w.ownsRow base e sz v n xs) {b : Nat} (hb : v.ownBlock = some b) : ∃ cur, w.heap[b]? = some (.cells cur e (0, 0)) := by
 rcases h.2 with ⟨hn, _⟩ | ⟨g, cap, cur, rfl, hg, hh, r⟩
 ·rw [hn] at hb; cases hb
 ·injection hb with hb; subst hb; exact ⟨cur, hh⟩
end Go.Proofs.YtaeedepojpablaaGreatDoor

namespace Go.Proofs.YtaeedepojpablaaGreatDoor
open Go.RowKit
theorem leavesL_take {l : List GExp} {k : Nat} {e : GExp} (hx : l[k]? = some e) : leavesL (l.take (k + 1)) = leavesL (l.take k) ++ leavesE e := by
 have ha : ∀ a b : List GExp, leavesL (a ++ b) = leavesL a ++ leavesL b := by
  intro a; induction a with
  | nil => intro b; rw [leavesL]; rfl
  | cons x a ih => intro b; rw [List.cons_append, leavesL, leavesL, ih, List.append_assoc]
 rw [List.take_add_one, hx, ha]; simp only [Option.toList_some]; rw [show leavesL [e] = leavesE e by rw [leavesL, leavesL, List.append_nil]]
theorem leavesL_full (l : List GExp) (k : Nat) : leavesL l = leavesL (l.take k) ++ leavesL (l.drop k) := by
 have ha : ∀ a b : List GExp, leavesL (a ++ b) = leavesL a ++ leavesL b := by
  intro a; induction a with
  | nil => intro b; rw [leavesL]; rfl
  | cons x a ih => intro b; rw [List.cons_append, leavesL, leavesL, ih, List.append_assoc]
 rw [← ha, List.take_append_drop]
end Go.Proofs.YtaeedepojpablaaGreatDoor

namespace Go.Proofs.YtaeedepojpablaaGreatDoor
open Go.RowKit Go.Great
theorem setRow_new (w : World) (old cells : Array Value) (T : TypeId) : (w.alloc (.cells old T)).setRow w.heap.size cells = w.alloc (.cells cells T) := by
 have h : ((w.alloc (.cells old T)).setRow w.heap.size cells).heap = (w.alloc (.cells cells T)).heap := by
  apply Array.ext_getElem?; intro i; rcases Nat.lt_trichotomy i w.heap.size with h | h | h
  ·have h1 := Below.heap_alloc w (.cells cells T) i h; have h2 := Below.heap_alloc w (.cells old T) i h; rw [h1, ← h2]; simp only [World.setRow, Array.getElem?_modify]; rw [if_neg (by omega)]
  ·subst h; have h1 := Go.heap_alloc_new w (.cells cells T); have h2 := Go.heap_alloc_new w (.cells old T); rw [h1]; simp only [World.setRow, Array.getElem?_modify, if_true]; rw [h2]; rfl
  ·rw [Array.getElem?_eq_none (by simp [World.setRow]; omega), Array.getElem?_eq_none (by simp; omega)]
 exact congrArg (fun hp => ({ w.alloc (.cells cells T) with heap := hp } : World)) h
section
variable {P : Program}
theorem run_alloc_ty (ev : Operand → Value) (w : World) (o : Oper) (ty : TypeId) (ho : o.op = .alloc ty) (zs : Array Value) (n : Nat) (hi : (P.info? ty).map (fun i => (i.zero, i.size)) = some (some (.agg zs), n)) :
 (execOp ev o).run P w = .ok (.value (.pointer (some ⟨w.heap.size, 0, none⟩))) (w.alloc (.cells zs ty)) := by
 obtain ⟨i, hi1, hi2⟩ := Option.map_eq_some_iff.1 hi; injection hi2 with h1 h2
 have hzv : (zeroValue ty).run P w = .ok (.agg zs) w := by simp [zeroValue, typeInfo, hi1, h1]
 unfold execOp; simp [ho, go_sem, hzv]
theorem wpList_new {ops : Array Oper} {rest : List Oper} {o1 o2 : Oper} {a : Act} {w : World} {Q : Exit → Act → World → Prop} (g1 : o1.guard = none) (g2 : o2.guard = none) (ty : TypeId) (d : Tmp) (x : Operand) (h1 : o1.op = .alloc ty) (hd1 : o1.dst = some d) (h2 : o2.op = .store ty (.tmp d) x) (hd2 : o2.dst = none)
 (zs : Array Value) (cells : Array Value) (hi : (P.info? ty).map (fun i => (i.zero, i.size)) = some (some (.agg zs), zs.size)) (hs : zs.size = cells.size) (hone : cells.all (·.oneCell') = true)
 (hp : (a.put (some d) (.pointer (some ⟨w.heap.size, 0, none⟩))).eval (.tmp d) = .pointer (some ⟨w.heap.size, 0, none⟩)) (hx : (a.put (some d) (.pointer (some ⟨w.heap.size, 0, none⟩))).eval x = .agg cells)
 (h : wpList P ops Q rest (a.put (some d) (.pointer (some ⟨w.heap.size, 0, none⟩))) (w.alloc (.cells cells ty))) : wpList P ops Q (o1 :: o2 :: rest) a w := by
 refine wpList_allocTo g1 (some d) hd1 _ _ (run_alloc_ty _ w o1 ty h1 zs _ hi) ?_; refine wpList_store_rowTo g2 ty (.tmp d) x h2 hd2 w.heap.size cells hp hx ty zs (Go.heap_alloc_new w _) ?_ hs hone ?_
 ·obtain ⟨i, hi1, hi2⟩ := Option.map_eq_some_iff.1 hi; injection hi2 with h3 h4
  rw [hi1]; simp [h4, hs]
 ·rw [setRow_new]; exact h
end
abbrev zLit : List Value := litC ⟨0, ⟨⟨#[]⟩, []⟩, 0, .mk 0 ⟨⟨#[]⟩, ⟨0, 0, ⟨#[]⟩⟩⟩ [], .mk 0 ⟨⟨#[]⟩, ⟨0, 0, ⟨#[]⟩⟩⟩ [], 0⟩ ⟨none, 0, 0⟩ ⟨none, 0, 0⟩ ⟨none, 0, 0⟩
theorem lit_info : (Tryz.prog.info? 80).map (fun i => (i.zero, i.size)) = some (some (.agg zLit.toArray), zLit.toArray.size) := by kernel_rfl
theorem lit_size (x : GLit) (a p q : Hd) : (Tryz.prog.info? 80).map (·.size) = some (litC x a p q).length := by
 show _ = some 17; kernel_rfl
theorem lit_one (x : GLit) (a p q : Hd) : (litC x a p q).toArray.all (·.oneCell') = true := by simp [Value.oneCell']
theorem SliceIs.lit_range {w : World} {B : Nat} {A : Option Addr} {n c d : Nat} {l : List GLit} (h : SliceIs (Enc.lit d) w B A n c l) {i : Nat} (hi : i < n) :
 ∃ (b o : Nat) (x : GLit) (a p q : Hd), A = some ⟨b, o, none⟩ ∧ b < B ∧ Hid (l[i]? = some x) ∧ LitAt d w B x a p q ∧ Hid (w.rangeAt b (o + i * 17) (litC x a p q)) := by
 obtain ⟨b, o, x, cs, hA, hb, hx, ⟨a, p, q, rfl, h1⟩, hc⟩ := h.at_ hi; exact ⟨b, o, x, a, p, q, hA, hb, hx, h1, fun j v hj => by simpa [Enc.lit] using hc j v hj⟩
theorem range_row {w : World} {g : Nat} {T : TypeId} {cs : List Value} (h : w.heap[g]? = some (.cells cs.toArray T (0, 0))) : w.rangeAt g 0 cs := fun j v hj => by
 rw [cell_of_row _ _ _ _ _ _ h]; simpa using hj
end Go.Proofs.YtaeedepojpablaaGreatDoor

namespace Go.Proofs.YtaeedepojpablaaGreatDoor
open Go.RowKit
section
variable {P : Program}
theorem append_blk {w : World} {base t ty e size bytes : Nat} {i : TypeInfo} {z : Value} (ht : P.underlying t = some (.slice e)) (hi : P.info? e = some i) (hz : i.zero = some z) (hsize : i.size = size) (hby : i.bytes = bytes) (hsz : 0 < size)
 {v : Value} {n : Nat} {xs : List Value} (hown : w.ownsRow base e size v n xs) {a : Addr} {m c : Nat} {news : List Value} (hl : news.length = m * size) (hnews : ∀ j u, news[j]? = some u → w.cell? (a.add j) = some u) (h1 : ∀ u ∈ news, u.oneCell' = true)
 (h63 : n + m ≤ maxLen) (hbytes : (n + m) * bytes ≤ 140737488355328) {v' : Value} {w' : World} (hrun : (Builtin.append_ #[t, t] ty #[v, .slice (some a) m c]).run P w = .ok v' w') :
 ∀ b, v'.ownBlock = some b → v.ownBlock = some b ∨ w.heap.size ≤ b := by
 subst hsize; subst hby; have hsmall : n + m ≤ 9223372036854775807 := by simp only [maxLen] at h63; omega
 rcases hown.2 with ⟨rfl, rfl⟩ | ⟨g, cap, cur, rfl, hbg, hg, hnc, hcm, hcs, htake⟩
 ·have hx : xs = [] := List.eq_nil_of_length_eq_zero (by simpa using hown.1); subst hx; by_cases hm : m = 0
  ·subst hm; have hn : news = [] := List.eq_nil_of_length_eq_zero (by simpa using hl); subst hn
   have hr : (Builtin.append_ #[t, t] ty #[.slice none 0 0, .slice (some a) 0 c]).run P w = .ok (.slice none 0 0) w := by
    simp [Builtin.append_, run_underlying ht, sizeOf, typeInfo, hi, Builtin.lenOf, Builtin.firstCells, loadCells, loadCellsFrom]
   rw [hr] at hrun; injection hrun with h2 h3
   subst h2; intro b hb; cases hb
  ·have hr := run_append_nil (P := P) w t ty e i z ht hi hz a m c news hl hnews (by omega) (by omega) (by have hb := hbytes; simp only [Nat.zero_add] at hb; omega); rw [hr] at hrun; injection hrun with h2 h3
   subst h2; intro b hb; right
   simp [Value.ownBlock] at hb
   omega
 ·by_cases hroom : n + m ≤ cap
  ·have hfit : n * i.size + news.length ≤ cur.size := by rw [hl, hcs, ← Nat.add_mul]; exact Nat.mul_le_mul_right _ hroom
   have hr := run_append_room (P := P) w t ty e i ht hi g n cap cur hg a m c news hl hnews h1 hroom hfit; rw [hr] at hrun; injection hrun with h2 h3
   subst h2; intro b hb; left
   simpa [Value.ownBlock] using hb
  ·have holds : ∀ j u, xs[j]? = some u → w.cell? ((⟨g, 0, none⟩ : Addr).add j) = some u := hown.cells (g := g) rfl; have hr := run_append_grow (P := P) w t ty e i z ht hi hz ⟨g, 0, none⟩ n cap xs hown.1 holds a m c news hl hnews (by omega) (by omega) (growslice_fits (by omega) hbytes); rw [hr] at hrun; injection hrun with h2 h3
   subst h2; intro b hb; right
   simp [Value.ownBlock] at hb
   omega
theorem push_more (w : World) {base t ty e size bytes : Nat} {z : Value} (ht : P.underlying t = some (.slice e)) (hi : (P.info? e).map (fun i => (i.zero, i.size, i.bytes)) = some (some z, size, bytes))
 (hzs : z.cells.size = size) (hsz : 0 < size) {A : Option Addr} {n c : Nat} {xs : List Value} (hown : w.ownsRow base e size (.slice A n c) n xs) (g : Nat) (cs : List Value) (hl : cs.length = size) (hg : w.heap[g]? = some (.cells cs.toArray e (0, 0))) (h1 : ∀ u ∈ cs, u.oneCell' = true)
 (h63 : n + 1 ≤ maxLen) (hbytes : (n + 1) * bytes ≤ 140737488355328) (hbase : base ≤ w.heap.size) :
 ∃ A' c' w', (Builtin.append_ #[t, t] ty #[.slice A n c, .slice (some ⟨g, 0, none⟩) 1 1]).run P w = .ok (.slice A' (n + 1) c') w' ∧ w'.ownsRow base e size (.slice A' (n + 1) c') (n + 1) (xs ++ cs) ∧ Out (Value.slice A n c).ownBlock.toList w w' ∧
   (∀ b, (Value.slice A' (n + 1) c').ownBlock = some b → (Value.slice A n c).ownBlock = some b ∨ w.heap.size ≤ b) := by
 obtain ⟨v', w', h2, h3, h4, h5⟩ := run_push_at (P := P) (ty := ty) w ht hi hzs hsz hown g cs hl hg h1 h63 hbytes hbase; obtain ⟨A', c', rfl⟩ := own_form h3; obtain ⟨i, hi', hz, hs, hb⟩ := info_parts hi
 have hnews : ∀ j u, cs[j]? = some u → w.cell? ((⟨g, 0, none⟩ : Addr).add j) = some u := by
  intro j u hu; have hadd : (⟨g, 0, none⟩ : Addr).add j = ⟨g, j, none⟩ := by unfold Addr.add; split <;> simp_all
  rw [hadd, cell_of_row _ g j cs.toArray e (0, 0) hg]; simpa using hu
 exact ⟨A', c', w', h2, h3, grown_out h4, append_blk ht hi' hz hs hb hsz hown (by rw [hl]; omega) hnews h1 h63 hbytes h2⟩
theorem op_val {o : Oper} {a : Act} {w : World} {K : Act → World → Prop} {Q : Exit → Act → World → Prop} (v : Value) (h : (execOp a.eval o).run P w = .ok (.value v) w) (hk : K (a.put o.dst v) w) : o.wp P a w K Q := by
 unfold Oper.wp; rw [h]; exact hk
theorem op_skip {o : Oper} {a : Act} {w w' : World} {K : Act → World → Prop} {Q : Exit → Act → World → Prop} (h : (execOp a.eval o).run P w = .ok .skip w') (hk : K (a.put o.dst undef) w') : o.wp P a w K Q := by
 unfold Oper.wp; rw [h]; exact hk
theorem op_append {w w' : World} {o : Oper} {a : Act} {K : Act → World → Prop} {Q : Exit → Act → World → Prop} {v' : Value} (s x : Operand) (t : TypeId)
 (ho : o.op = .call { callee := .builtin .append, args := #[s, x], argTypes := #[t, t] }) (v xv : Value) (hs : a.eval s = v) (hx : a.eval x = xv)
 (hrun : (Builtin.append_ #[t, t] o.type #[v, xv]).run P w = .ok v' w') (h : K (a.put o.dst v') w') : o.wp P a w K Q := by
 unfold Oper.wp execOp; simp only [ho, resolve, invoke, builtin, Sem.run_bind, Sem.run_pure, Result.andThen_ok, List.map_toArray, List.map_cons, List.map_nil, hs, hx, hrun]; exact h
theorem run_load1 {w : World} {ty e : TypeId} {a : Addr} {v : Value} (hu : P.underlying ty = some (.slice e)) (h : w.cell? a = some v) : (Instr.loadAt ty (.pointer (some a))).run P w = .ok v w := by
 have hagg : (isAgg ty).run P w = .ok false w := by
  unfold isAgg; rw [Sem.run_bind, run_underlying hu w]; rfl
 simp [Instr.loadAt, Instr.sureAddr, loadVar, hagg, go_sem, h]
theorem run_store1 {w : World} {ty : TypeId} {g q : Nat} {A : Option Addr} {n c : Nat} {cs : Array Value} {t : TypeId} (hi : (P.info? ty).map (·.size) = some 1) (hg : w.heap[g]? = some (.cells cs t (0, 0))) (hq : q < cs.size) : (Instr.storeAt ty (.pointer (some ⟨g, q, none⟩)) (.slice A n c)).run P w = .ok () (w.setCell ⟨g, q, none⟩ (.slice A n c)) := by
 obtain ⟨i, hi1, hi2⟩ := Option.map_eq_some_iff.1 hi; have h1 : w.cell? ⟨g, q, none⟩ = some cs[q] := by rw [cell_of_row _ _ _ _ _ _ hg]; simp [hq]
 have h2 : w.frozen? ⟨g, q, none⟩ = false := frozen_of_row _ _ _ _ _ hg; simp [Instr.storeAt, Instr.sureAddr, storeVar, sizeOf, typeInfo, hi1, hi2, go_sem, h1, h2]
theorem own_typeR {w : World} {base e sz : Nat} {v : Value} {n : Nat} {xs : List Value} (h : w.ownsRow base e sz v n xs) {b : Nat} (hb : v.ownBlock = some b) : ∃ cur, w.heap[b]? = some (.cells cur e (0, 0)) := by
 rcases h.2 with ⟨hn, _⟩ | ⟨g, cap, cur, rfl, hg, hh, r⟩
 ·rw [hn] at hb; cases hb
 ·injection hb with hb; subst hb; exact ⟨cur, hh⟩
theorem range_rowR {w : World} {g : Nat} {T : TypeId} {cs : List Value} (h : w.heap[g]? = some (.cells cs.toArray T (0, 0))) : w.rangeAt g 0 cs := fun j v hj => by
 rw [cell_of_row _ _ _ _ _ _ h]; simpa using hj
end
section
variable {α : Type} {E : Enc α}
structure Rows (E : Enc α) (b1 eT : Nat) (W : World) (A : Option Addr) (k c : Nat) (L : List (α × List Value)) : Prop where
 own : W.ownsRow b1 eT E.sz (.slice A k c) k (L.flatMap (·.2))
 len : L.length = k
 far : ∀ p ∈ L, E.ok (sans W (List.range b1 ++ (Value.slice A k c).ownBlock.toList)) W.heap.size p.2 p.1
theorem Rows.nil (b1 eT : Nat) (W : World) : Rows E b1 eT W Option.none 0 0 [] := ⟨World.ownsRow_nil _ _ _ _, rfl, fun _ h => by cases h⟩
theorem Rows.out {b1 eT : Nat} {W W' : World} {A : Option Addr} {k c : Nat} {L : List (α × List Value)} {S : List Nat} (h : Rows E b1 eT W A k c L) (ho : Out S W W') (hS : ∀ b ∈ S, b < W.heap.size → b < b1) : Rows E b1 eT W' A k c L :=
 ⟨own_out' h.own (S := S.filter (fun b => decide (b < W.heap.size))) ⟨ho.os, ho.tape, ho.output, ho.size, fun b hb hn => ho.block b hb (fun hs => hn (List.mem_filter.2 ⟨hs, by simpa using hb⟩))⟩ (fun b hb hm => by
  have h1 := (own_blk h.own hb).1; obtain ⟨h2, h3⟩ := List.mem_filter.1 hm; have := hS b h2 (by simpa using h3)
  omega), h.len,
  fun p hp => E.mono ho.size (ho.kept (T := List.range b1 ++ (Value.slice A k c).ownBlock.toList) (fun b hb hl => List.mem_append_left _ (List.mem_range.2 (hS b hb hl))) (fun _ hb _ => hb)) (h.far p hp)⟩
theorem own_sans {w : World} {S : List Nat} {base e sz : Nat} {v : Value} {n : Nat} {xs : List Value} (h : w.ownsRow base e sz v n xs) (hS : ∀ b ∈ S, b < base) : (sans w S).ownsRow base e sz v n xs := by
 refine ⟨h.1, ?_⟩; rcases h.2 with hn | ⟨g, cap, cur, rfl, hg, hh, r⟩
 ·exact .inl hn
 ·exact .inr ⟨g, cap, cur, rfl, hg, (sans_out (fun hs => by have := hS g hs; omega)).trans hh, r⟩
theorem flat_piece2 (sz : Nat) : ∀ (L : List (α × List Value)) (i : Nat) (p : α × List Value), (∀ q ∈ L, q.2.length = sz) → L[i]? = some p → ((L.flatMap (·.2)).drop (i * sz)).take sz = p.2
 | [], i, p, _, h => by simp at h
 | q :: L, 0, p, hl, h => by
   simp at h; subst h
   simp only [List.flatMap_cons, Nat.zero_mul, List.drop_zero]; rw [← hl q (by simp)]; exact List.take_left
 | q :: L, i + 1, p, hl, h => by
   simp only [List.flatMap_cons]; rw [show (i + 1) * sz = q.2.length + i * sz by rw [hl q (by simp), Nat.add_mul, Nat.one_mul, Nat.add_comm], List.drop_append]; rw [List.drop_eq_nil_of_le (Nat.le_add_right _ _), List.nil_append, Nat.add_sub_cancel_left]; exact flat_piece2 sz L i p (fun q hq => hl q (by simp [hq])) (by simpa using h)
theorem Rows.is {b1 eT : Nat} {W : World} {A : Option Addr} {k c : Nat} {L : List (α × List Value)} (h : Rows E b1 eT W A k c L) (hk : k ≤ reachN) {base : Nat} (hb : base ≤ b1) : SliceFar E W (List.range base) A k c (L.map (·.1)) := by
 have h2 := own_sans (S := List.range base) h.own (fun b hb' => by have := List.mem_range.1 hb'; omega)
 have h3 := SliceIs.of_own (E := E) (l := L.map (·.1)) h2 (by simp [h.len]) hk (fun i x hx => by
  rw [List.getElem?_map, Option.map_eq_some_iff] at hx; obtain ⟨p, hp, rfl⟩ := hx; rw [flat_piece2 E.sz L i p (fun q hq => E.len (h.far q hq)) hp]; rw [sans_size]
  exact E.mono (Nat.le_refl _) ((Out.refl [] W).kept (fun _ h _ => by cases h) (fun b hb' _ => List.mem_append_left _ (List.mem_range.2 (by have := List.mem_range.1 hb'; omega)))) (h.far p (List.mem_of_getElem? hp)))
 rw [sans_size] at h3; exact h3
end
end Go.Proofs.YtaeedepojpablaaGreatDoor

namespace Go.Proofs.YtaeedepojpablaaGreatDoor
open Go.RowKit
abbrev zeC : List Value := [.int .i64 0, .string ⟨#[]⟩, .int .i64 0, .int .i64 0, .string ⟨#[]⟩, .slice none 0 0]
abbrev expC (e : GExp) (A : Option Addr) (n c : Nat) : List Value := [.int .i64 e.op, .string e.t.x, .int .i64 e.t.v.k, .int .i64 e.t.v.n, .string e.t.v.s, .slice A n c]
end Go.Proofs.YtaeedepojpablaaGreatDoor
