/- My own texts DrawnS, as far as this claim needs them. -/
import Derived.Test.YtaeedepojpablaaGreatDoorZq9
set_option linter.unusedVariables false
set_option linter.unusedSimpArgs false
set_option maxRecDepth 1000000
set_option maxHeartbeats 16000000
namespace Go.Proofs.YtaeedepojpablaaGreatDoor
open Go.RowKit
def opnds : Op → Option (List Operand)
 | .move x | .assign x => some [x]
 | .pick c a b => some [c, a, b]
 | .alloc _ => some []
 | .box _ x => some [x]
 | .build _ ps => some (ps.toList.map (·.2))
 | .buildSlice _ _ ps => some (ps.toList.map (·.2))
 | .load _ a => some [a]
 | .store _ a x => some [a, x]
 | .nilCheck x => some [x]
 | .binOp _ _ x y _ => some [x, y]
 | .unOp _ _ x => some [x]
 | .convert _ _ x => some [x]
 | .fieldAddr _ x _ => some [x]
 | .field _ x _ => some [x]
 | .indexAddr _ x i => some [x, i]
 | .index _ x i => some [x, i]
 | .lookup _ x i _ => some [x, i]
 | .mapUpdate _ m k x => some [m, k, x]
 | .slice _ x lo hi mx => some (x :: (lo.toList ++ (hi.toList ++ mx.toList)))
 | .makeFunc _ f c => some (f.toList ++ c.toList)
 | .call c => match c.callee with
   | .value f => some (f :: c.args.toList)
   | .builtin _ => some c.args.toList
   | _ => none
 | _ => none
theorem arr_map_congr {α β : Type} {f g : α → β} (l : Array α) (h : ∀ x ∈ l.toList, f x = g x) : l.map f = l.map g := by
 apply Array.ext'; rw [Array.toList_map, Array.toList_map]; exact List.map_congr_left h
theorem opt_map_congr {α β : Type} {f g : α → β} (l : Option α) (h : ∀ x, l = some x → f x = g x) : l.map f = l.map g := by
 cases l with
 | none => rfl
 | some x => simp [h x rfl]
theorem execOp_congr {ρ ρ' : Operand → Value} {o : Oper} {l : List Operand} (hl : opnds o.op = some l) (h : ∀ x ∈ l, ρ x = ρ' x) : execOp ρ o = execOp ρ' o := by
 unfold execOp; unfold opnds at hl; cases hop : o.op <;> rw [hop] at hl <;> simp only [Option.some.injEq, reduceCtorEq] at hl <;> dsimp only
 case move x => subst hl; rw [h x (by simp)]
 case assign x => subst hl; rw [h x (by simp)]
 case pick c a b => subst hl; rw [h c (by simp), h a (by simp), h b (by simp)]
 case box e x => subst hl; rw [h x (by simp)]
 case build t ps => subst hl; rw [arr_map_congr (f := fun (x : Nat × Operand) => (x.1, ρ x.2)) (g := fun x => (x.1, ρ' x.2)) ps (fun x hx => by rw [h x.2 (List.mem_map.2 ⟨x, hx, rfl⟩)])]
 case buildSlice t n ps => subst hl; rw [arr_map_congr (f := fun (x : Nat × Operand) => (x.1, ρ x.2)) (g := fun x => (x.1, ρ' x.2)) ps (fun x hx => by rw [h x.2 (List.mem_map.2 ⟨x, hx, rfl⟩)])]
 case load t a => subst hl; rw [h a (by simp)]
 case store t a x => subst hl; rw [h a (by simp), h x (by simp)]
 case nilCheck x => subst hl; rw [h x (by simp)]
 case binOp op t x y u => subst hl; rw [h x (by simp), h y (by simp)]
 case unOp op t x => subst hl; rw [h x (by simp)]
 case convert s d x => subst hl; rw [h x (by simp)]
 case fieldAddr s x f => subst hl; rw [h x (by simp)]
 case field s x f => subst hl; rw [h x (by simp)]
 case indexAddr t x i => subst hl; rw [h x (by simp), h i (by simp)]
 case index t x i => subst hl; rw [h x (by simp), h i (by simp)]
 case lookup t x i b => subst hl; rw [h x (by simp), h i (by simp)]
 case mapUpdate t m k x => subst hl; rw [h m (by simp), h k (by simp), h x (by simp)]
 case slice t x lo hi mx =>
  subst hl; rw [h x (by simp), opt_map_congr (f := ρ) (g := ρ') lo (fun y hy => h y (by simp [hy])), opt_map_congr (f := ρ) (g := ρ') hi (fun y hy => h y (by simp [hy])), opt_map_congr (f := ρ) (g := ρ') mx (fun y hy => h y (by simp [hy]))]
 case makeFunc fn f c => subst hl; rw [arr_map_congr (f := ρ) (g := ρ') f (fun x hx => h x (by simp at hx ⊢; exact .inl hx)), arr_map_congr (f := ρ) (g := ρ') c (fun x hx => h x (by simp at hx ⊢; exact .inr hx))]
 case call c =>
  unfold resolve; cases hc : c.callee <;> rw [hc] at hl <;> simp only [Option.some.injEq, reduceCtorEq] at hl
  case value f =>
   subst hl; dsimp only; rw [arr_map_congr (f := ρ) (g := ρ') c.args (fun x hx => h x (List.mem_cons_of_mem _ hx)), h f (by simp)]
  case builtin b =>
   subst hl; dsimp only; rw [arr_map_congr (f := ρ) (g := ρ') c.args h]
section
variable {P : Program} {ops : Array Oper}
def oneQ (J : World → Prop) (dst : Option Tmp) (v : Value) (e : Exit) (a : Act) (w : World) : Prop := e = .normal ∧ a.defers = [] ∧ (∀ d, dst = some d → a.tmps[d]? = some v) ∧ J w
def SeqS (P : Program) (ops : Array Oper) (J : World → Prop) (Q : Exit → Act → World → Prop) : List Oper → Act → Prop
 | [], a => ∀ W, J W → Q .normal a W
 | o :: rest, a => ∃ v, (∀ W, J W → wpList P ops (oneQ J o.dst v) [o] a W) ∧ SeqS P ops J Q rest (a.put o.dst v)
def okS (ops : Array Oper) (n : Nat) : Bool := (List.range ops.size).all fun i => match ops[i]? with
 | none => true
 | some o => (match opnds o.op with
  | none => false
  | some l => l.all (fun x => match x with
    | .tmp t => ops.toList.all (fun o' => !decide (o'.dst = some t)) || o.after.toList.any (fun e => Region.binds .any e && decide ((ops[e.on]?).bind (·.dst) = some t))
    | _ => true)) &&
   (match o.guard with
    | none => true
    | some (j, _) => o.after.toList.any (fun e => Region.binds .any e && decide (e.on = j)) && ((ops[j]?).bind (·.dst)).isSome) &&
   o.after.toList.all (fun e => !Region.binds .any e || decide (e.on < i)) &&
   (match o.dst with
    | none => true
    | some d => decide (d < n) && (List.range ops.size).all (fun j => decide (i = j) || (match ops[j]? with | none => true | some o' => !decide (o'.dst = some d))))
theorem seq_vals {J : World → Prop} {Q : Exit → Act → World → Prop} : ∀ (l : List Oper) (a : Act), SeqS P ops J Q l a → ∃ vals : List Value, vals.length = l.length ∧
 (∀ (i : Nat) (o : Oper) (v : Value), l[i]? = some o → vals[i]? = some v → ∃ a', (∀ W, J W → wpList P ops (oneQ J o.dst v) [o] a' W) ∧ a' = ((l.zip vals).take i).foldl (fun a p => a.put p.1.dst p.2) a) ∧
 (∀ W, J W → Q .normal ((l.zip vals).foldl (fun a p => a.put p.1.dst p.2) a) W)
 | [], a, h => ⟨[], rfl, fun i o v ho _ => by simp at ho, h⟩
 | o :: l, a, ⟨v, h1, h2⟩ => by
   obtain ⟨vals, hl, hv, hq⟩ := seq_vals l _ h2; refine ⟨v :: vals, by simp [hl], fun i o' v' ho hv' => ?_, hq⟩; cases i with
   | zero =>
     simp at ho hv'
     subst ho hv'; exact ⟨a, h1, by simp⟩
   | succ i =>
     obtain ⟨a', ha1, ha2⟩ := hv i o' v' (by simpa using ho) (by simpa using hv'); exact ⟨a', ha1, by simpa using ha2⟩
theorem put_defers (a : Act) (d : Option Tmp) (v : Value) : (a.put d v).defers = a.defers := by cases d <;> rfl
theorem put_size (a : Act) (d : Option Tmp) (v : Value) : (a.put d v).tmps.size = a.tmps.size := by cases d <;> simp [Act.put]
theorem put_same {a : Act} {d : Tmp} {v : Value} (h : d < a.tmps.size) : (a.put (some d) v).tmps[d]? = some v := by simp [Act.put, h]
theorem put_other {a : Act} {d : Option Tmp} {t : Tmp} {v : Value} (h : d ≠ some t) : (a.put d v).tmps[t]? = a.tmps[t]? := by
 cases d with
 | none => rfl
 | some d => simp only [Act.put]; exact Array.getElem?_setIfInBounds_ne (fun e => h (by rw [e]))
theorem fold_defers : ∀ (l : List (Oper × Value)) (a : Act), (l.foldl (fun a p => a.put p.1.dst p.2) a).defers = a.defers
 | [], _ => rfl
 | p :: l, a => by rw [List.foldl_cons, fold_defers l, put_defers]
theorem fold_size : ∀ (l : List (Oper × Value)) (a : Act), (l.foldl (fun a p => a.put p.1.dst p.2) a).tmps.size = a.tmps.size
 | [], _ => rfl
 | p :: l, a => by rw [List.foldl_cons, fold_size l, put_size]
theorem fold_other {t : Tmp} : ∀ (l : List (Oper × Value)) (a : Act), (∀ p ∈ l, p.1.dst ≠ some t) → (l.foldl (fun a p => a.put p.1.dst p.2) a).tmps[t]? = a.tmps[t]?
 | [], _, _ => rfl
 | p :: l, a, h => by rw [List.foldl_cons, fold_other l _ (fun q hq => h q (List.mem_cons_of_mem _ hq)), put_other (h p (List.mem_cons_self ..))]
theorem fold_at {t : Tmp} : ∀ (l : List (Oper × Value)) (a : Act) (i : Nat) (p : Oper × Value), l[i]? = some p → p.1.dst = some t → t < a.tmps.size → (∀ (j : Nat) (q : Oper × Value), i < j → l[j]? = some q → q.1.dst ≠ some t) → (l.foldl (fun a p => a.put p.1.dst p.2) a).tmps[t]? = some p.2
 | [], _, _, _, h, _, _, _ => by simp at h
 | q :: l, a, 0, p, h, hd, ht, hn => by
   simp at h; subst h
   rw [List.foldl_cons, fold_other l _ (fun r hr => by
    obtain ⟨j, hj⟩ := List.mem_iff_getElem?.1 hr
    exact hn (j + 1) r (by omega) (by simpa using hj)), hd, put_same ht]
 | q :: l, a, i + 1, p, h, hd, ht, hn => by
   rw [List.foldl_cons]; exact fold_at l _ i p (by simpa using h) hd (by rw [put_size]; exact ht) (fun j r hj hr => hn (j + 1) r (by omega) (by simpa using hr))
theorem one_transfer {J : World → Prop} {o : Oper} {v : Value} {a a' : Act} {W : World} {K : Act → World → Prop} {Q : Exit → Act → World → Prop} {l : List Operand} (h : wpList P ops (oneQ J o.dst v) [o] a W) (ho : opnds o.op = some l) (he : ∀ x ∈ l, a.eval x = a'.eval x)
 (hg : Region.wanted o (yielded ops a.tmps) = Region.wanted o (yielded ops a'.tmps)) (hd : ∀ d, o.dst = some d → d < a.tmps.size) (hk : ∀ W2, J W2 → K (a'.put o.dst v) W2) :
 if Region.wanted o (yielded ops a'.tmps) then o.wp P a' W K Q ∨ (o.asks P a' W ∧ LetsOut Q) else K (a'.put o.dst undef) W := by
 unfold wpList at h; rw [← hg]
 have hput : ∀ v' W2, oneQ J o.dst v .normal (a.put o.dst v') W2 → K (a'.put o.dst v') W2 := by
  rintro v' W2 ⟨-, -, h3, h4⟩; cases hdd : o.dst with
  | none => have := hk W2 h4; rw [hdd] at this; exact this
  | some d =>
    have h5 := h3 d hdd; rw [hdd, put_same (hd d hdd)] at h5; injection h5 with h5
    subst h5; have := hk W2 h4; rw [hdd] at this; exact this
 split at h
 ·rename_i hw
  rw [if_pos hw]; left
  rcases h with h | ⟨-, ⟨_, _, hh⟩⟩
  ·unfold Oper.wp at h ⊢; rw [execOp_congr ho he] at h; generalize (execOp a'.eval o).run P W = r at h ⊢; cases r with
   | ok n w' =>
     cases n with
     | value v' => exact hput v' w' h
     | skip => exact hput undef w' h
     | defer d =>
       exfalso; have := h.2.1; rw [put_defers] at this; cases this
     | enter f args =>
       exact Calls.mono h (fun e w'' hh => by
        cases e with
        | returned v' => exact hput v' w'' hh
        | panicked c => exact absurd hh.1 (by simp)
        | outgrown => obtain ⟨_, _, hx⟩ := hh; exact absurd hx.1 (by simp))
     | row row args => exact Rows.mono h (fun v' w'' hh => hput v' w'' hh)
     | _ => exact h
   | halt x w' =>
     cases x with
     | panic v' => exact absurd h.1 (by simp)
     | _ => exact h
  ·exact absurd hh.1 (by simp)
 ·rename_i hw
  rw [if_neg hw]; exact hput undef W h
theorem drawnS {id : Nat} {a : Act} {w : World} {Q : Exit → Act → World → Prop} (hm : P.follows .mixedOrders = true) (n : Nat) (J : World → Prop) (hn : a.tmps.size = n) (hok : okS ops n = true) (hd : a.defers = []) (hJ : J w.drew) (h : SeqS P ops J Q ops.toList a) : (Code.region id ops true).wp P Q a w := by
 obtain ⟨vals, hvl, hv, hq⟩ := seq_vals _ _ h; have hlen : ops.toList.length = ops.size := Array.length_toList; unfold okS at hok; rw [List.all_eq_true] at hok
 have hop : ∀ (i : Nat) (o : Oper), ops[i]? = some o → (∃ l, opnds o.op = some l ∧ ∀ t, Operand.tmp t ∈ l → (∀ (j : Nat) (o' : Oper), ops[j]? = some o' → o'.dst ≠ some t) ∨ ∃ e ∈ o.after, Region.binds .any e = true ∧ ∃ o', ops[e.on]? = some o' ∧ o'.dst = some t) ∧
  (∀ j b, o.guard = some (j, b) → (∃ e ∈ o.after, Region.binds .any e = true ∧ e.on = j) ∧ ∃ o' d, ops[j]? = some o' ∧ o'.dst = some d) ∧ (∀ e ∈ o.after, Region.binds .any e = true → e.on < i) ∧ (∀ d, o.dst = some d → d < n ∧ ∀ (j : Nat) (o' : Oper), ops[j]? = some o' → i ≠ j → o'.dst ≠ some d) := by
  intro i o ho; have hi : i < ops.size := (glt ho)
  have h1 := hok i (List.mem_range.2 hi); rw [ho] at h1; simp only [Bool.and_eq_true] at h1; obtain ⟨⟨⟨q1, q2⟩, q3⟩, q4⟩ := h1; refine ⟨?_, ?_, ?_, ?_⟩
  ·cases hl : opnds o.op with
   | none => rw [hl] at q1; cases q1
   | some l =>
     rw [hl] at q1; refine ⟨l, rfl, fun t ht => ?_⟩; have q5 := List.all_eq_true.1 q1 _ ht; simp only [Bool.or_eq_true, List.all_eq_true, List.any_eq_true, Bool.and_eq_true, decide_eq_true_eq, Bool.not_eq_true', decide_eq_false_iff_not] at q5; rcases q5 with q5 | ⟨e, he, hb, hx⟩
     ·exact .inl fun (j : Nat) (o' : Oper) hj => q5 o' (by rw [← Array.getElem?_toList] at hj; exact List.mem_of_getElem? hj)
     ·right
      obtain ⟨o', ho', hd'⟩ := Option.bind_eq_some_iff.1 hx; exact ⟨e, by simpa using he, hb, o', ho', hd'⟩
  ·intro j b hgu; rw [hgu] at q2; simp only [Bool.and_eq_true, List.any_eq_true, decide_eq_true_eq] at q2; obtain ⟨⟨e, he, hb, hx⟩, q6⟩ := q2; obtain ⟨d, hdd⟩ := Option.isSome_iff_exists.1 q6; obtain ⟨o', ho', hd'⟩ := Option.bind_eq_some_iff.1 hdd; exact ⟨⟨e, by simpa using he, hb, hx⟩, o', d, ho', hd'⟩
  ·intro e he hbi; have := List.all_eq_true.1 q3 e (by simpa using he); rw [hbi] at this; simpa using this
  ·intro d hdd; rw [hdd] at q4; simp only [Bool.and_eq_true, decide_eq_true_eq, List.all_eq_true, List.mem_range, Bool.or_eq_true] at q4; refine ⟨q4.1, fun j o' hj hij => ?_⟩; have q5 := q4.2 j (glt hj); rw [hj] at q5; rcases q5 with q5 | q5
   ·exact absurd q5 hij
   ·simpa using q5
 have hzip : ∀ (i : Nat) (o : Oper), ops[i]? = some o → ∃ v, vals[i]? = some v ∧ (ops.toList.zip vals)[i]? = some (o, v) := by
  intro i o ho; have hi : i < ops.size := (glt ho)
  have hi2 : i < vals.length := by rw [hvl, hlen]; exact hi
  refine ⟨vals[i], List.getElem?_eq_getElem hi2, ?_⟩; rw [List.getElem?_zip_eq_some]; exact ⟨by rw [Array.getElem?_toList]; exact ho, List.getElem?_eq_getElem hi2⟩
 have hzip' : ∀ (i : Nat) (p : Oper × Value), (ops.toList.zip vals)[i]? = some p → ops[i]? = some p.1 ∧ vals[i]? = some p.2 := by
  intro i p hp; rw [List.getElem?_zip_eq_some] at hp; exact ⟨by rw [← Array.getElem?_toList]; exact hp.1, hp.2⟩
 have hfr1 : ∀ (i t : Nat), (∀ (j : Nat) (o' : Oper), ops[j]? = some o' → o'.dst ≠ some t) → (((ops.toList.zip vals).take i).foldl (fun a p => a.put p.1.dst p.2) a).tmps[t]? = a.tmps[t]? := by
  intro i t ht; refine fold_other _ _ (fun p hp => ?_); obtain ⟨j, hj⟩ := List.mem_iff_getElem?.1 (List.mem_of_mem_take hp); exact ht j p.1 (hzip' j p hj).1
 have hfr2 : ∀ (i j t : Nat) (o' : Oper) (v : Value), j < i → ops[j]? = some o' → o'.dst = some t → vals[j]? = some v → (((ops.toList.zip vals).take i).foldl (fun a p => a.put p.1.dst p.2) a).tmps[t]? = some v := by
  intro i j t o' v hji ho' hd' hv'; obtain ⟨v2, hv2, hz⟩ := hzip j o' ho'; obtain rfl : v = v2 := by rw [hv'] at hv2; injection hv2
  refine fold_at (p := (o', v)) _ _ j (by rw [List.getElem?_take, if_pos hji]; exact hz) hd' (by rw [hn]; exact ((hop j o' ho').2.2.2 t hd').1) (fun k q hk hq => ?_); rw [List.getElem?_take] at hq; split at hq
  ·exact ((hop j o' ho').2.2.2 t hd').2 k q.1 (hzip' k q hq).1 (by omega)
  ·cases hq
 have main : ∀ (fuel : Nat) (listed : Array Bool) (a' : Act) (w' : World), listed.size = ops.size → J w' → a'.defers = [] → a'.tmps.size = n → (∀ t, (∀ (j : Nat) (o' : Oper), ops[j]? = some o' → o'.dst ≠ some t) → a'.tmps[t]? = a.tmps[t]?) →
  (∀ (i t : Nat) (o : Oper) (v : Value), ops[i]? = some o → listed.getD i false = true → o.dst = some t → vals[i]? = some v → a'.tmps[t]? = some v) → listed.toList.count false ≤ fuel → wpAny P .any ops Q fuel listed a' w' := by
  have done : ∀ (listed : Array Bool) (a' : Act) (w' : World), listed.size = ops.size → J w' → a'.defers = [] → a'.tmps.size = n → (∀ t, (∀ (j : Nat) (o' : Oper), ops[j]? = some o' → o'.dst ≠ some t) → a'.tmps[t]? = a.tmps[t]?) →
   (∀ (i t : Nat) (o : Oper) (v : Value), ops[i]? = some o → listed.getD i false = true → o.dst = some t → vals[i]? = some v → a'.tmps[t]? = some v) → Region.ready .any ops listed = [] → Q .normal a' w' := by
   intro listed a' w' hls hJ' hd' hn' ho hf hr
   have hall : ∀ i, i < ops.size → listed.getD i true = true := by
    intro i hi; cases hb : listed.getD i true with
    | true => rfl
    | false =>
      exfalso; obtain ⟨k, h1, h2⟩ := least_off listed (fun _ => True) ops.size ⟨i, hi, hb⟩
      have hkl : k < listed.size := by
       rcases Nat.lt_or_ge k listed.size with h | h
       ·exact h
       ·simp [Array.getElem?_eq_none h] at h1
      have hko : k < ops.size := by rw [← hls]; exact hkl
      have : k ∈ Region.ready .any ops listed := mem_ready.2 ⟨h1, ops[k], by simp [hko], fun e he hbi => by
       have h3 := (hop k ops[k] (by simp [hko])).2.2.1 e he hbi; have h4 := h2 e.on h3
       rwa [getD_any (by omega) true false] at h4⟩
      rw [hr] at this; cases this
   have e : a' = (ops.toList.zip vals).foldl (fun a p => a.put p.1.dst p.2) a := by
    have e1 : a'.defers = ((ops.toList.zip vals).foldl (fun a p => a.put p.1.dst p.2) a).defers := by rw [fold_defers, hd', hd]
    have e2 : a'.tmps = ((ops.toList.zip vals).foldl (fun a p => a.put p.1.dst p.2) a).tmps := by
     apply Array.ext_getElem?; intro t; by_cases ht : ∃ (j : Nat) (o' : Oper), ops[j]? = some o' ∧ o'.dst = some t
     ·obtain ⟨j, o', hj, hdj⟩ := ht; obtain ⟨v, hvj, hz⟩ := hzip j o' hj; have hjs : j < ops.size := (glt hj)
      rw [hf j t o' v hj (by rw [getD_any (c := true) (by omega)]; exact hall j hjs) hdj hvj]; exact (fold_at (p := (o', v)) _ _ j hz hdj (by rw [hn]; exact ((hop j o' hj).2.2.2 t hdj).1) (fun k q hk hq => ((hop j o' hj).2.2.2 t hdj).2 k q.1 (hzip' k q hq).1 (by omega))).symm
     ·have ht' : ∀ (j : Nat) (o' : Oper), ops[j]? = some o' → o'.dst ≠ some t := fun j o' hj hh => ht ⟨j, o', hj, hh⟩
      rw [ho t ht', fold_other _ _ (fun p hp => by
       obtain ⟨j, hj⟩ := List.mem_iff_getElem?.1 hp
       exact ht' j p.1 (hzip' j p hj).1)]
    cases a'
    generalize (ops.toList.zip vals).foldl (fun a p => a.put p.1.dst p.2) a = b at *; cases b
    simp only at e1 e2; rw [e1, e2]
   rw [e]; exact hq w' hJ'
  intro fuel; induction fuel with
  | zero =>
    intro listed a' w' hls hJ' hd' hn' ho hf hc
    have hr : Region.ready .any ops listed = [] := by
     apply List.eq_nil_iff_forall_not_mem.2; intro i hi; obtain ⟨h1, o, hoo, -⟩ := mem_ready.1 hi; have hio : i < ops.size := (glt hoo)
     have hil : i < listed.size := by omega
     have : false ∈ listed.toList := List.mem_iff_getElem?.2 ⟨i, by simp [hil] at h1 ⊢; exact h1⟩; have := List.count_pos_iff.2 this; omega
    exact ⟨hr, done listed a' w' hls hJ' hd' hn' ho hf hr⟩
  | succ fuel ih =>
    intro listed a' w' hls hJ' hd' hn' ho hf hc; refine ⟨done listed a' w' hls hJ' hd' hn' ho hf, fun i hi => ?_⟩; obtain ⟨h1, o, hoo, h2⟩ := mem_ready.1 hi; have hio : i < ops.size := (glt hoo)
    have hil : i < listed.size := by omega
    obtain ⟨v, hvi, hz⟩ := hzip i o hoo; obtain ⟨ai, ha1, ha2⟩ := hv i o v (by rw [Array.getElem?_toList]; exact hoo) hvi; obtain ⟨⟨l, hl, hlt⟩, hgu, haf, hds⟩ := hop i o hoo
    have agree : ∀ t, ((∀ (j : Nat) (o' : Oper), ops[j]? = some o' → o'.dst ≠ some t) ∨ ∃ e ∈ o.after, Region.binds .any e = true ∧ ∃ o', ops[e.on]? = some o' ∧ o'.dst = some t) → ai.tmps[t]? = a'.tmps[t]? := by
     intro t ht; rw [ha2]; rcases ht with ht | ⟨e, he, hb, o', ho', hd''⟩
     ·rw [hfr1 i t ht, ho t ht]
     ·obtain ⟨v', hv', -⟩ := hzip e.on o' ho'; rw [hfr2 i e.on t o' v' (haf e he hb) ho' hd'' hv', hf e.on t o' v' ho' (h2 e he hb) hd'' hv']
    unfold wpOp; rw [hoo]; refine one_transfer (ha1 w' hJ') hl ?_ ?_ ?_ ?_
    ·intro x hx; cases x with
     | tmp t =>
       show ai.tmps.getD t undef = a'.tmps.getD t undef; have := agree t (hlt t hx); rw [Array.getD_eq_getD_getElem?, Array.getD_eq_getD_getElem?, this]
     | const v => rfl
     | global g => rfl
     | func f => rfl
    ·unfold Region.wanted; cases hgd : o.guard with
     | none => rfl
     | some g =>
       obtain ⟨j, b⟩ := g; obtain ⟨⟨e, he, hb, rfl⟩, o', d, ho', hd''⟩ := hgu j b hgd; have := agree d (.inr ⟨e, he, hb, o', ho', hd''⟩); dsimp only; unfold yielded; rw [ho']; simp only [Option.bind_some, hd'', this]
    ·intro d hdd; rw [ha2, fold_size, hn]; exact (hds d hdd).1
    ·intro W2 hJ2; refine ih _ _ _ (by simp [hls]) hJ2 (by rw [put_defers]; exact hd') (by rw [put_size]; exact hn') ?_ ?_ ?_
     ·intro t ht; rw [put_other (ht i o hoo)]; exact ho t ht
     ·intro j t oj vj hoj hlj hdj hvj; by_cases hij : i = j
      ·subst hij; obtain rfl : oj = o := by rw [hoo] at hoj; injection hoj with hoj; exact hoj.symm
       obtain rfl : vj = v := by rw [hvi] at hvj; injection hvj with hvj; exact hvj.symm
       rw [hdj]; exact put_same (by rw [hn']; exact (hds t hdj).1)
      ·rw [getD_set_other hij] at hlj; rw [put_other (fun hh => (hds t hh).2 j oj hoj hij hdj)]; exact hf j t oj vj hoj hlj hdj hvj
     ·have h3 : listed.toList[i]? = some false := by simp [hil] at h1 ⊢; exact h1
      have h4 := count_set _ _ h3; rw [Array.toList_setIfInBounds]; omega
 refine wp_region_any hm (main ops.size (Array.replicate ops.size false) a _ (by simp) hJ hd hn (fun _ _ => rfl) ?_ ?_)
 ·intro i t o v hoo hli _ _; have hio : i < ops.size := (glt hoo)
  simp [hio] at hli
 ·refine Nat.le_trans List.count_le_length ?_; simp
def okL (ops : Array Oper) (n : Nat) : Bool := okS ops n && (List.range (ops.size - 1)).all fun i => (ancs ops ops.size (ops.size - 1)).contains i
theorem drawnL {id : Nat} {a : Act} {w : World} {Q : Exit → Act → World → Prop} (hm : P.follows .mixedOrders = true) (n : Nat) (J : World → Prop) (pre : List Oper) (last : Oper) (hops : ops.toList = pre ++ [last]) (hn : a.tmps.size = n) (hokL : okL ops n = true) (hd : a.defers = []) (hJ : J w.drew) (h : SeqS P ops J (fun _ a W => wpList P ops Q [last] a W) pre a) : (Code.region id ops true).wp P Q a w := by
 obtain ⟨vals, hvl, hv, hq⟩ := seq_vals _ _ h; have hlen : pre.length + 1 = ops.size := by rw [← Array.length_toList, hops]; simp
 have hpre : ∀ (i : Nat) (o : Oper), i < pre.length → (ops[i]? = some o ↔ pre[i]? = some o) := fun i o hi => by
  rw [← Array.getElem?_toList, hops, List.getElem?_append_left hi]
 have hlast : ops[pre.length]? = some last := by rw [← Array.getElem?_toList, hops, List.getElem?_append_right (Nat.le_refl _), Nat.sub_self]; rfl
 unfold okL at hokL; simp only [Bool.and_eq_true] at hokL; obtain ⟨hok, hall0⟩ := hokL
 have hwait : ∀ i, i < pre.length → i ∈ ancs ops ops.size pre.length := by
  intro i hi; rw [show ops.size - 1 = pre.length by omega] at hall0; have := List.all_eq_true.1 hall0 i (List.mem_range.2 hi); simpa using this
 unfold okS at hok; rw [List.all_eq_true] at hok
 have hop : ∀ (i : Nat) (o : Oper), ops[i]? = some o → (∃ l, opnds o.op = some l ∧ ∀ t, Operand.tmp t ∈ l → (∀ (j : Nat) (o' : Oper), ops[j]? = some o' → o'.dst ≠ some t) ∨ ∃ e ∈ o.after, Region.binds .any e = true ∧ ∃ o', ops[e.on]? = some o' ∧ o'.dst = some t) ∧
  (∀ j b, o.guard = some (j, b) → (∃ e ∈ o.after, Region.binds .any e = true ∧ e.on = j) ∧ ∃ o' d, ops[j]? = some o' ∧ o'.dst = some d) ∧ (∀ e ∈ o.after, Region.binds .any e = true → e.on < i) ∧ (∀ d, o.dst = some d → d < n ∧ ∀ (j : Nat) (o' : Oper), ops[j]? = some o' → i ≠ j → o'.dst ≠ some d) := by
  intro i o ho; have hi : i < ops.size := (glt ho)
  have h1 := hok i (List.mem_range.2 hi); rw [ho] at h1; simp only [Bool.and_eq_true] at h1; obtain ⟨⟨⟨q1, q2⟩, q3⟩, q4⟩ := h1; refine ⟨?_, ?_, ?_, ?_⟩
  ·cases hl : opnds o.op with
   | none => rw [hl] at q1; cases q1
   | some l =>
     rw [hl] at q1; refine ⟨l, rfl, fun t ht => ?_⟩; have q5 := List.all_eq_true.1 q1 _ ht; simp only [Bool.or_eq_true, List.all_eq_true, List.any_eq_true, Bool.and_eq_true, decide_eq_true_eq, Bool.not_eq_true', decide_eq_false_iff_not] at q5; rcases q5 with q5 | ⟨e, he, hb, hx⟩
     ·exact .inl fun (j : Nat) (o' : Oper) hj => q5 o' (by rw [← Array.getElem?_toList] at hj; exact List.mem_of_getElem? hj)
     ·right
      obtain ⟨o', ho', hd'⟩ := Option.bind_eq_some_iff.1 hx; exact ⟨e, by simpa using he, hb, o', ho', hd'⟩
  ·intro j b hgu; rw [hgu] at q2; simp only [Bool.and_eq_true, List.any_eq_true, decide_eq_true_eq] at q2; obtain ⟨⟨e, he, hb, hx⟩, q6⟩ := q2; obtain ⟨d, hdd⟩ := Option.isSome_iff_exists.1 q6; obtain ⟨o', ho', hd'⟩ := Option.bind_eq_some_iff.1 hdd; exact ⟨⟨e, by simpa using he, hb, hx⟩, o', d, ho', hd'⟩
  ·intro e he hbi; have := List.all_eq_true.1 q3 e (by simpa using he); rw [hbi] at this; simpa using this
  ·intro d hdd; rw [hdd] at q4; simp only [Bool.and_eq_true, decide_eq_true_eq, List.all_eq_true, List.mem_range, Bool.or_eq_true] at q4; refine ⟨q4.1, fun j o' hj hij => ?_⟩; have q5 := q4.2 j (glt hj); rw [hj] at q5; rcases q5 with q5 | q5
   ·exact absurd q5 hij
   ·simpa using q5
 have hzip : ∀ (i : Nat) (o : Oper), i < pre.length → ops[i]? = some o → ∃ v, vals[i]? = some v ∧ (pre.zip vals)[i]? = some (o, v) := by
  intro i o hi ho; have hi2 : i < vals.length := by rw [hvl]; exact hi
  refine ⟨vals[i], List.getElem?_eq_getElem hi2, ?_⟩; rw [List.getElem?_zip_eq_some]; exact ⟨(hpre i o hi).1 ho, List.getElem?_eq_getElem hi2⟩
 have hzip' : ∀ (i : Nat) (p : Oper × Value), (pre.zip vals)[i]? = some p → i < pre.length ∧ ops[i]? = some p.1 ∧ vals[i]? = some p.2 := by
  intro i p hp; rw [List.getElem?_zip_eq_some] at hp; have hi : i < pre.length := (List.getElem?_eq_some_iff.1 hp.1).1; exact ⟨hi, (hpre i p.1 hi).2 hp.1, hp.2⟩
 have hfr1 : ∀ (i t : Nat), (∀ (j : Nat) (o' : Oper), ops[j]? = some o' → o'.dst ≠ some t) → (((pre.zip vals).take i).foldl (fun a p => a.put p.1.dst p.2) a).tmps[t]? = a.tmps[t]? := by
  intro i t ht; refine fold_other _ _ (fun p hp => ?_); obtain ⟨j, hj⟩ := List.mem_iff_getElem?.1 (List.mem_of_mem_take hp); exact ht j p.1 (hzip' j p hj).2.1
 have hfr2 : ∀ (i j t : Nat) (o' : Oper) (v : Value), j < i → ops[j]? = some o' → o'.dst = some t → vals[j]? = some v → (((pre.zip vals).take i).foldl (fun a p => a.put p.1.dst p.2) a).tmps[t]? = some v := by
  intro i j t o' v hji ho' hd' hv'; obtain ⟨v2, hv2, hz⟩ := hzip j o' (by rw [← hvl]; exact (List.getElem?_eq_some_iff.1 hv').1) ho'; obtain rfl : v = v2 := by rw [hv'] at hv2; injection hv2
  refine fold_at (p := (o', v)) _ _ j (by rw [List.getElem?_take, if_pos hji]; exact hz) hd' (by rw [hn]; exact ((hop j o' ho').2.2.2 t hd').1) (fun k q hk hq => ?_); rw [List.getElem?_take] at hq; split at hq
  ·exact ((hop j o' ho').2.2.2 t hd').2 k q.1 (hzip' k q hq).2.1 (by omega)
  ·cases hq
 have main : ∀ (fuel : Nat) (listed : Array Bool) (a' : Act) (w' : World), listed.size = ops.size → J w' → a'.defers = [] → a'.tmps.size = n → (∀ t, (∀ (j : Nat) (o' : Oper), j < pre.length → ops[j]? = some o' → o'.dst ≠ some t) → a'.tmps[t]? = a.tmps[t]?) →
  (∀ (i t : Nat) (o : Oper) (v : Value), i < pre.length → ops[i]? = some o → listed.getD i false = true → o.dst = some t → vals[i]? = some v → a'.tmps[t]? = some v) → listed.getD pre.length false = false → (∀ (i : Nat) (o : Oper), ops[i]? = some o → listed.getD i false = true → ∀ e ∈ o.after, Region.binds .any e = true → listed.getD e.on false = true) → listed.toList.count false ≤ fuel → wpAny P .any ops Q fuel listed a' w' := by
  have frame : ∀ (listed : Array Bool) (a' : Act), listed.size = ops.size → a'.defers = [] → a'.tmps.size = n → (∀ t, (∀ (j : Nat) (o' : Oper), j < pre.length → ops[j]? = some o' → o'.dst ≠ some t) → a'.tmps[t]? = a.tmps[t]?) →
   (∀ (i t : Nat) (o : Oper) (v : Value), i < pre.length → ops[i]? = some o → listed.getD i false = true → o.dst = some t → vals[i]? = some v → a'.tmps[t]? = some v) → (∀ i, i < pre.length → listed.getD i false = true) → a' = (pre.zip vals).foldl (fun a p => a.put p.1.dst p.2) a := by
   intro listed a' hls hd' hn' ho hf hall; have e1 : a'.defers = ((pre.zip vals).foldl (fun a p => a.put p.1.dst p.2) a).defers := by rw [fold_defers, hd', hd]
   have e2 : a'.tmps = ((pre.zip vals).foldl (fun a p => a.put p.1.dst p.2) a).tmps := by
    apply Array.ext_getElem?; intro t; by_cases ht : ∃ (j : Nat) (o' : Oper), j < pre.length ∧ ops[j]? = some o' ∧ o'.dst = some t
    ·obtain ⟨j, o', hjl, hj, hdj⟩ := ht; obtain ⟨v, hvj, hz⟩ := hzip j o' hjl hj; rw [hf j t o' v hjl hj (hall j hjl) hdj hvj]; exact (fold_at (p := (o', v)) _ _ j hz hdj (by rw [hn]; exact ((hop j o' hj).2.2.2 t hdj).1) (fun k q hk hq => ((hop j o' hj).2.2.2 t hdj).2 k q.1 (hzip' k q hq).2.1 (by omega))).symm
    ·have ht' : ∀ (j : Nat) (o' : Oper), j < pre.length → ops[j]? = some o' → o'.dst ≠ some t := fun j o' hjl hj hh => ht ⟨j, o', hjl, hj, hh⟩
     rw [ho t ht', fold_other _ _ (fun p hp => by
      obtain ⟨j, hj⟩ := List.mem_iff_getElem?.1 hp
      exact ht' j p.1 (hzip' j p hj).1 (hzip' j p hj).2.1)]
   cases a'
   generalize (pre.zip vals).foldl (fun a p => a.put p.1.dst p.2) a = b at *; cases b
   simp only at e1 e2; rw [e1, e2]
  intro fuel; induction fuel with
  | zero =>
    intro listed a' w' hls hJ' hd' hn' ho hf hl0 hcl hc; have hil : pre.length < listed.size := by omega
    have : false ∈ listed.toList := List.mem_iff_getElem?.2 ⟨pre.length, by simp [hil] at hl0 ⊢; exact hl0⟩; have := List.count_pos_iff.2 this; omega
  | succ fuel ih =>
    intro listed a' w' hls hJ' hd' hn' ho hf hl0 hcl hc; refine ⟨fun hr => ?_, fun i hi => ?_⟩
    ·exfalso; obtain ⟨k, h1, h2⟩ := least_off listed (fun _ => True) ops.size ⟨pre.length, by omega, by rw [getD_any (c := false) (by omega)]; exact hl0⟩
     have hkl : k < listed.size := by
      rcases Nat.lt_or_ge k listed.size with h | h
      ·exact h
      ·simp [Array.getElem?_eq_none h] at h1
     have hko : k < ops.size := by rw [← hls]; exact hkl
     have : k ∈ Region.ready .any ops listed := mem_ready.2 ⟨h1, ops[k], by simp [hko], fun e he hbi => by
      have h3 := (hop k ops[k] (by simp [hko])).2.2.1 e he hbi; have h4 := h2 e.on h3
      rwa [getD_any (by omega) true false] at h4⟩
     rw [hr] at this; cases this
    obtain ⟨h1, o, hoo, h2⟩ := mem_ready.1 hi; have hio : i < ops.size := (glt hoo)
    have hil : i < listed.size := by omega
    by_cases hiL : i = pre.length
    ·subst hiL; obtain rfl : o = last := by rw [hlast] at hoo; injection hoo with hoo; exact hoo.symm
     have hall : ∀ j, j < pre.length → listed.getD j false = true := fun j hj => ancs_listed hcl ops.size pre.length o hoo h2 j (hwait j hj)
     have hfin := hq w' hJ'; rw [← frame listed a' hls hd' hn' ho hf hall] at hfin
     have hready : Region.ready .any ops (listed.setIfInBounds pre.length true) = [] := by
      apply List.eq_nil_iff_forall_not_mem.2; intro j hj; obtain ⟨h3, oj, hoj, -⟩ := mem_ready.1 hj; have hjo : j < ops.size := (glt hoj)
      by_cases hji : pre.length = j
      ·subst hji; rw [getD_set_same hil] at h3; cases h3
      ·rw [getD_set_other hji, getD_any (c := false) (by omega), hall j (by omega)] at h3; cases h3
     unfold wpList at hfin; unfold wpOp; rw [hlast]; dsimp only; split at hfin
     ·rename_i hw
      rw [if_pos hw]; exact hfin.imp (Oper.wp_mono (fun a2 w2 hh => wpAny_end hready hh fuel)) (fun hh => hh)
     ·rename_i hw
      rw [if_neg hw]; exact wpAny_end hready hfin fuel
    have hip : i < pre.length := by omega
    obtain ⟨v, hvi, hz⟩ := hzip i o hip hoo; obtain ⟨ai, ha1, ha2⟩ := hv i o v ((hpre i o hip).1 hoo) hvi; obtain ⟨⟨l, hl, hlt⟩, hgu, haf, hds⟩ := hop i o hoo
    have agree : ∀ t, ((∀ (j : Nat) (o' : Oper), ops[j]? = some o' → o'.dst ≠ some t) ∨ ∃ e ∈ o.after, Region.binds .any e = true ∧ ∃ o', ops[e.on]? = some o' ∧ o'.dst = some t) → ai.tmps[t]? = a'.tmps[t]? := by
     intro t ht; rw [ha2]; rcases ht with ht | ⟨e, he, hb, o', ho', hd''⟩
     ·rw [hfr1 i t ht, ho t (fun j o' _ hj => ht j o' hj)]
     ·have hel : e.on < pre.length := by have := haf e he hb; omega
      obtain ⟨v', hv', -⟩ := hzip e.on o' hel ho'; rw [hfr2 i e.on t o' v' (haf e he hb) ho' hd'' hv', hf e.on t o' v' hel ho' (h2 e he hb) hd'' hv']
    unfold wpOp; rw [hoo]; refine one_transfer (ha1 w' hJ') hl ?_ ?_ ?_ ?_
    ·intro x hx; cases x with
     | tmp t =>
       show ai.tmps.getD t undef = a'.tmps.getD t undef; have := agree t (hlt t hx); rw [Array.getD_eq_getD_getElem?, Array.getD_eq_getD_getElem?, this]
     | const v => rfl
     | global g => rfl
     | func f => rfl
    ·unfold Region.wanted; cases hgd : o.guard with
     | none => rfl
     | some g =>
       obtain ⟨j, b⟩ := g; obtain ⟨⟨e, he, hb, rfl⟩, o', d, ho', hd''⟩ := hgu j b hgd; have := agree d (.inr ⟨e, he, hb, o', ho', hd''⟩); dsimp only; unfold yielded; rw [ho']; simp only [Option.bind_some, hd'', this]
    ·intro d hdd; rw [ha2, fold_size, hn]; exact (hds d hdd).1
    ·intro W2 hJ2; refine ih _ _ _ (by simp [hls]) hJ2 (by rw [put_defers]; exact hd') (by rw [put_size]; exact hn') ?_ ?_ (by rw [getD_set_other hiL]; exact hl0) ?_ ?_
     ·intro t ht; rw [put_other (ht i o hip hoo)]; exact ho t ht
     ·intro j t oj vj hjp hoj hlj hdj hvj; by_cases hij : i = j
      ·subst hij; obtain rfl : oj = o := by rw [hoo] at hoj; injection hoj with hoj; exact hoj.symm
       obtain rfl : vj = v := by rw [hvi] at hvj; injection hvj with hvj; exact hvj.symm
       rw [hdj]; exact put_same (by rw [hn']; exact (hds t hdj).1)
      ·rw [getD_set_other hij] at hlj; rw [put_other (fun hh => (hds t hh).2 j oj hoj hij hdj)]; exact hf j t oj vj hjp hoj hlj hdj hvj
     ·intro j oj hoj hlj e he hbe; by_cases hje : i = e.on
      ·rw [hje]; exact getD_set_same (by omega)
      ·rw [getD_set_other hje]; by_cases hji : i = j
       ·subst hji; obtain rfl : oj = o := by rw [hoo] at hoj; injection hoj with hoj; exact hoj.symm
        exact h2 e he hbe
       ·rw [getD_set_other hji] at hlj; exact hcl j oj hoj hlj e he hbe
     ·have h3 : listed.toList[i]? = some false := by simp [hil] at h1 ⊢; exact h1
      have h4 := count_set _ _ h3; rw [Array.toList_setIfInBounds]; omega
 refine wp_region_any hm (main ops.size (Array.replicate ops.size false) a _ (by simp) hJ hd hn (fun _ _ => rfl) ?_ (by simp [show pre.length < ops.size by omega]) ?_ ?_)
 ·intro i t o v _ hoo hli _ _; have hio : i < ops.size := (glt hoo)
  simp [hio] at hli
 ·intro i o ho hl; have hio : i < ops.size := (glt ho)
  simp [hio] at hl
 ·refine Nat.le_trans List.count_le_length ?_; simp
theorem seqS_op {J : World → Prop} {Q : Exit → Act → World → Prop} {o : Oper} {rest : List Oper} {a : Act} {v : Value} (h1 : ∀ W, J W → wpList P ops (oneQ J o.dst v) [o] a W) (h2 : SeqS P ops J Q rest (a.put o.dst v)) : SeqS P ops J Q (o :: rest) a := ⟨v, h1, h2⟩
theorem seqS_end {J : World → Prop} {Q : Exit → Act → World → Prop} {a : Act} (h : ∀ W, J W → Q .normal a W) : SeqS P ops J Q [] a := h
def SeqL (P : Program) (ops : Array Oper) (J : World → Prop) (Q : Exit → Act → World → Prop) : List Oper → Act → Prop
 | [], _ => False
 | [o], a => ∀ W, J W → wpList P ops Q [o] a W
 | o :: o' :: rest, a => ∃ v, (∀ W, J W → wpList P ops (oneQ J o.dst v) [o] a W) ∧ SeqL P ops J Q (o' :: rest) (a.put o.dst v)
theorem seqL_parts {J : World → Prop} {Q : Exit → Act → World → Prop} : ∀ (l : List Oper) (a : Act), SeqL P ops J Q l a → ∃ pre last, l = pre ++ [last] ∧ SeqS P ops J (fun _ a W => wpList P ops Q [last] a W) pre a
 | [], _, h => h.elim
 | [o], a, h => ⟨[], o, rfl, h⟩
 | o :: o' :: rest, a, ⟨v, h1, h2⟩ => by
   obtain ⟨pre, last, e, h3⟩ := seqL_parts _ _ h2; exact ⟨o :: pre, last, by rw [e]; rfl, v, h1, h3⟩
theorem drawnM {id : Nat} {a : Act} {w : World} {Q : Exit → Act → World → Prop} (hm : P.follows .mixedOrders = true) (n : Nat) (J : World → Prop) (hn : a.tmps.size = n) (hokL : okL ops n = true) (hd : a.defers = []) (hJ : J w.drew) (h : SeqL P ops J Q ops.toList a) : (Code.region id ops true).wp P Q a w := by
 obtain ⟨pre, last, e, h1⟩ := seqL_parts _ _ h; exact drawnL hm n J pre last e hn hokL hd hJ h1
theorem seqL_op {J : World → Prop} {Q : Exit → Act → World → Prop} {o o' : Oper} {rest : List Oper} {a : Act} {v : Value} (h1 : ∀ W, J W → wpList P ops (oneQ J o.dst v) [o] a W) (h2 : SeqL P ops J Q (o' :: rest) (a.put o.dst v)) : SeqL P ops J Q (o :: o' :: rest) a := ⟨v, h1, h2⟩
theorem seqL_end {J : World → Prop} {Q : Exit → Act → World → Prop} {o : Oper} {a : Act} (h : ∀ W, J W → wpList P ops Q [o] a W) : SeqL P ops J Q [o] a := h
end
end Go.Proofs.YtaeedepojpablaaGreatDoor
