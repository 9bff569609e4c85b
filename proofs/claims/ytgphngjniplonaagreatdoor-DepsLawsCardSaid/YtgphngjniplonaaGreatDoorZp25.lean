/- My own texts DrawnS, DgB1, Shelf2, as far as this claim needs them. -/
import Derived.Test.YtgphngjniplonaaGreatDoorZp9
import Derived.Sort.Grow
import Derived.Sort.Row
import Derived.Ground.SlsfProg
import Derived.Shelf.SlSortCmp.NoneTotal
set_option linter.unusedVariables false
set_option linter.unusedSimpArgs false
set_option maxRecDepth 1000000
set_option maxHeartbeats 16000000
namespace Go.Proofs.YtgphngjniplonaaGreatDoor
open Go.RowKit
def opnds : Op → Option (List Operand)
  | .move x | .assign x => some [x]
  | .pick c a b => some [c, a, b]
  | .alloc _ => some []
  | .box _ x => some [x]
  | .build _ ps => some (ps.toList.map (·.2))
  | .buildSlice _ _ ps => some (ps.toList.map (·.2))
  | .load _ a => some [a]
  | .store _ a x => some [a, x]
  | .nilCheck x => some [x]
  | .binOp _ _ x y _ => some [x, y]
  | .unOp _ _ x => some [x]
  | .convert _ _ x => some [x]
  | .fieldAddr _ x _ => some [x]
  | .field _ x _ => some [x]
  | .indexAddr _ x i => some [x, i]
  | .index _ x i => some [x, i]
  | .lookup _ x i _ => some [x, i]
  | .mapUpdate _ m k x => some [m, k, x]
  | .slice _ x lo hi mx => some (x :: (lo.toList ++ (hi.toList ++ mx.toList)))
  | .makeFunc _ f c => some (f.toList ++ c.toList)
  | .call c => match c.callee with
    | .value f => some (f :: c.args.toList)
    | .builtin _ => some c.args.toList
    | _ => none
  | _ => none
theorem arr_map_congr {α β : Type} {f g : α → β} (l : Array α) (h : ∀ x ∈ l.toList, f x = g x) : l.map f = l.map g := by
  apply Array.ext'
  rw [Array.toList_map, Array.toList_map]
  exact List.map_congr_left h
theorem opt_map_congr {α β : Type} {f g : α → β} (l : Option α) (h : ∀ x, l = some x → f x = g x) : l.map f = l.map g := by
  cases l with
  | none => rfl
  | some x => simp [h x rfl]
theorem execOp_congr {ρ ρ' : Operand → Value} {o : Oper} {l : List Operand} (hl : opnds o.op = some l) (h : ∀ x ∈ l, ρ x = ρ' x) : execOp ρ o = execOp ρ' o := by
  unfold execOp
  unfold opnds at hl
  cases hop : o.op <;> rw [hop] at hl <;> simp only [Option.some.injEq, reduceCtorEq] at hl <;> dsimp only
  case move x => subst hl; rw [h x (by simp)]
  case assign x => subst hl; rw [h x (by simp)]
  case pick c a b => subst hl; rw [h c (by simp), h a (by simp), h b (by simp)]
  case box e x => subst hl; rw [h x (by simp)]
  case build t ps => subst hl; rw [arr_map_congr (f := fun (x : Nat × Operand) => (x.1, ρ x.2)) (g := fun x => (x.1, ρ' x.2)) ps (fun x hx => by rw [h x.2 (List.mem_map.2 ⟨x, hx, rfl⟩)])]
  case buildSlice t n ps => subst hl; rw [arr_map_congr (f := fun (x : Nat × Operand) => (x.1, ρ x.2)) (g := fun x => (x.1, ρ' x.2)) ps (fun x hx => by rw [h x.2 (List.mem_map.2 ⟨x, hx, rfl⟩)])]
  case load t a => subst hl; rw [h a (by simp)]
  case store t a x => subst hl; rw [h a (by simp), h x (by simp)]
  case nilCheck x => subst hl; rw [h x (by simp)]
  case binOp op t x y u => subst hl; rw [h x (by simp), h y (by simp)]
  case unOp op t x => subst hl; rw [h x (by simp)]
  case convert s d x => subst hl; rw [h x (by simp)]
  case fieldAddr s x f => subst hl; rw [h x (by simp)]
  case field s x f => subst hl; rw [h x (by simp)]
  case indexAddr t x i => subst hl; rw [h x (by simp), h i (by simp)]
  case index t x i => subst hl; rw [h x (by simp), h i (by simp)]
  case lookup t x i b => subst hl; rw [h x (by simp), h i (by simp)]
  case mapUpdate t m k x => subst hl; rw [h m (by simp), h k (by simp), h x (by simp)]
  case slice t x lo hi mx =>
    subst hl
    rw [h x (by simp), opt_map_congr (f := ρ) (g := ρ') lo (fun y hy => h y (by simp [hy])), opt_map_congr (f := ρ) (g := ρ') hi (fun y hy => h y (by simp [hy])), opt_map_congr (f := ρ) (g := ρ') mx (fun y hy => h y (by simp [hy]))]
  case makeFunc fn f c => subst hl; rw [arr_map_congr (f := ρ) (g := ρ') f (fun x hx => h x (by simp at hx ⊢; exact .inl hx)), arr_map_congr (f := ρ) (g := ρ') c (fun x hx => h x (by simp at hx ⊢; exact .inr hx))]
  case call c =>
    unfold resolve
    cases hc : c.callee <;> rw [hc] at hl <;> simp only [Option.some.injEq, reduceCtorEq] at hl
    case value f =>
      subst hl
      dsimp only
      rw [arr_map_congr (f := ρ) (g := ρ') c.args (fun x hx => h x (List.mem_cons_of_mem _ hx)), h f (by simp)]
    case builtin b =>
      subst hl
      dsimp only
      rw [arr_map_congr (f := ρ) (g := ρ') c.args h]
section
variable {P : Program} {ops : Array Oper}
def oneQ (J : World → Prop) (dst : Option Tmp) (v : Value) (e : Exit) (a : Act) (w : World) : Prop := e = .normal ∧ a.defers = [] ∧ (∀ d, dst = some d → a.tmps[d]? = some v) ∧ J w
def SeqS (P : Program) (ops : Array Oper) (J : World → Prop) (Q : Exit → Act → World → Prop) : List Oper → Act → Prop
  | [], a => ∀ W, J W → Q .normal a W
  | o :: rest, a => ∃ v, (∀ W, J W → wpList P ops (oneQ J o.dst v) [o] a W) ∧ SeqS P ops J Q rest (a.put o.dst v)
def okS (ops : Array Oper) (n : Nat) : Bool := (List.range ops.size).all fun i => match ops[i]? with
  | none => true
  | some o => (match opnds o.op with
      | none => false
      | some l => l.all (fun x => match x with
        | .tmp t => ops.toList.all (fun o' => !decide (o'.dst = some t)) || o.after.toList.any (fun e => Region.binds .any e && decide ((ops[e.on]?).bind (·.dst) = some t))
        | _ => true)) &&
    (match o.guard with
      | none => true
      | some (j, _) => o.after.toList.any (fun e => Region.binds .any e && decide (e.on = j)) && ((ops[j]?).bind (·.dst)).isSome) &&
    o.after.toList.all (fun e => !Region.binds .any e || decide (e.on < i)) &&
    (match o.dst with
      | none => true
      | some d => decide (d < n) && (List.range ops.size).all (fun j => decide (i = j) || (match ops[j]? with | none => true | some o' => !decide (o'.dst = some d))))
theorem seq_vals {J : World → Prop} {Q : Exit → Act → World → Prop} : ∀ (l : List Oper) (a : Act), SeqS P ops J Q l a → ∃ vals : List Value, vals.length = l.length ∧
    (∀ (i : Nat) (o : Oper) (v : Value), l[i]? = some o → vals[i]? = some v → ∃ a', (∀ W, J W → wpList P ops (oneQ J o.dst v) [o] a' W) ∧ a' = ((l.zip vals).take i).foldl (fun a p => a.put p.1.dst p.2) a) ∧
    (∀ W, J W → Q .normal ((l.zip vals).foldl (fun a p => a.put p.1.dst p.2) a) W)
  | [], a, h => ⟨[], rfl, fun i o v ho _ => by simp at ho, h⟩
  | o :: l, a, ⟨v, h1, h2⟩ => by
    obtain ⟨vals, hl, hv, hq⟩ := seq_vals l _ h2
    refine ⟨v :: vals, by simp [hl], fun i o' v' ho hv' => ?_, hq⟩
    cases i with
    | zero =>
      simp at ho hv'
      subst ho hv'
      exact ⟨a, h1, by simp⟩
    | succ i =>
      obtain ⟨a', ha1, ha2⟩ := hv i o' v' (by simpa using ho) (by simpa using hv')
      exact ⟨a', ha1, by simpa using ha2⟩
theorem put_defers (a : Act) (d : Option Tmp) (v : Value) : (a.put d v).defers = a.defers := by cases d <;> rfl
theorem put_size (a : Act) (d : Option Tmp) (v : Value) : (a.put d v).tmps.size = a.tmps.size := by cases d <;> simp [Act.put]
theorem put_same {a : Act} {d : Tmp} {v : Value} (h : d < a.tmps.size) : (a.put (some d) v).tmps[d]? = some v := by simp [Act.put, h]
theorem put_other {a : Act} {d : Option Tmp} {t : Tmp} {v : Value} (h : d ≠ some t) : (a.put d v).tmps[t]? = a.tmps[t]? := by
  cases d with
  | none => rfl
  | some d => simp only [Act.put]; exact Array.getElem?_setIfInBounds_ne (fun e => h (by rw [e]))
theorem fold_defers : ∀ (l : List (Oper × Value)) (a : Act), (l.foldl (fun a p => a.put p.1.dst p.2) a).defers = a.defers
  | [], _ => rfl
  | p :: l, a => by rw [List.foldl_cons, fold_defers l, put_defers]
theorem fold_size : ∀ (l : List (Oper × Value)) (a : Act), (l.foldl (fun a p => a.put p.1.dst p.2) a).tmps.size = a.tmps.size
  | [], _ => rfl
  | p :: l, a => by rw [List.foldl_cons, fold_size l, put_size]
theorem fold_other {t : Tmp} : ∀ (l : List (Oper × Value)) (a : Act), (∀ p ∈ l, p.1.dst ≠ some t) → (l.foldl (fun a p => a.put p.1.dst p.2) a).tmps[t]? = a.tmps[t]?
  | [], _, _ => rfl
  | p :: l, a, h => by rw [List.foldl_cons, fold_other l _ (fun q hq => h q (List.mem_cons_of_mem _ hq)), put_other (h p (List.mem_cons_self ..))]
theorem fold_at {t : Tmp} : ∀ (l : List (Oper × Value)) (a : Act) (i : Nat) (p : Oper × Value), l[i]? = some p → p.1.dst = some t → t < a.tmps.size → (∀ (j : Nat) (q : Oper × Value), i < j → l[j]? = some q → q.1.dst ≠ some t) → (l.foldl (fun a p => a.put p.1.dst p.2) a).tmps[t]? = some p.2
  | [], _, _, _, h, _, _, _ => by simp at h
  | q :: l, a, 0, p, h, hd, ht, hn => by
    simp at h; subst h
    rw [List.foldl_cons, fold_other l _ (fun r hr => by
      obtain ⟨j, hj⟩ := List.mem_iff_getElem?.1 hr
      exact hn (j + 1) r (by omega) (by simpa using hj)), hd, put_same ht]
  | q :: l, a, i + 1, p, h, hd, ht, hn => by
    rw [List.foldl_cons]
    exact fold_at l _ i p (by simpa using h) hd (by rw [put_size]; exact ht) (fun j r hj hr => hn (j + 1) r (by omega) (by simpa using hr))
theorem one_transfer {J : World → Prop} {o : Oper} {v : Value} {a a' : Act} {W : World} {K : Act → World → Prop} {Q : Exit → Act → World → Prop} {l : List Operand} (h : wpList P ops (oneQ J o.dst v) [o] a W) (ho : opnds o.op = some l) (he : ∀ x ∈ l, a.eval x = a'.eval x)
    (hg : Region.wanted o (yielded ops a.tmps) = Region.wanted o (yielded ops a'.tmps)) (hd : ∀ d, o.dst = some d → d < a.tmps.size) (hk : ∀ W2, J W2 → K (a'.put o.dst v) W2) :
    if Region.wanted o (yielded ops a'.tmps) then o.wp P a' W K Q ∨ (o.asks P a' W ∧ LetsOut Q) else K (a'.put o.dst undef) W := by
  unfold wpList at h
  rw [← hg]
  have hput : ∀ v' W2, oneQ J o.dst v .normal (a.put o.dst v') W2 → K (a'.put o.dst v') W2 := by
    rintro v' W2 ⟨-, -, h3, h4⟩
    cases hdd : o.dst with
    | none => have := hk W2 h4; rw [hdd] at this; exact this
    | some d =>
      have h5 := h3 d hdd
      rw [hdd, put_same (hd d hdd)] at h5
      injection h5 with h5
      subst h5
      have := hk W2 h4
      rw [hdd] at this
      exact this
  split at h
  · rename_i hw
    rw [if_pos hw]
    left
    rcases h with h | ⟨-, ⟨_, _, hh⟩⟩
    · unfold Oper.wp at h ⊢
      rw [execOp_congr ho he] at h
      generalize (execOp a'.eval o).run P W = r at h ⊢
      cases r with
      | ok n w' =>
        cases n with
        | value v' => exact hput v' w' h
        | skip => exact hput undef w' h
        | defer d =>
          exfalso
          have := h.2.1
          rw [put_defers] at this
          cases this
        | enter f args =>
          exact Calls.mono h (fun e w'' hh => by
            cases e with
            | returned v' => exact hput v' w'' hh
            | panicked c => exact absurd hh.1 (by simp)
            | outgrown => obtain ⟨_, _, hx⟩ := hh; exact absurd hx.1 (by simp))
        | row row args => exact Rows.mono h (fun v' w'' hh => hput v' w'' hh)
        | _ => exact h
      | halt x w' =>
        cases x with
        | panic v' => exact absurd h.1 (by simp)
        | _ => exact h
    · exact absurd hh.1 (by simp)
  · rename_i hw
    rw [if_neg hw]
    exact hput undef W h
theorem drawnS {id : Nat} {a : Act} {w : World} {Q : Exit → Act → World → Prop} (hm : P.follows .mixedOrders = true) (n : Nat) (J : World → Prop) (hn : a.tmps.size = n) (hok : okS ops n = true) (hd : a.defers = []) (hJ : J w.drew) (h : SeqS P ops J Q ops.toList a) : (Code.region id ops true).wp P Q a w := by
  obtain ⟨vals, hvl, hv, hq⟩ := seq_vals _ _ h
  have hlen : ops.toList.length = ops.size := Array.length_toList
  unfold okS at hok
  rw [List.all_eq_true] at hok
  -- the parts of what was reckoned
  have hop : ∀ (i : Nat) (o : Oper), ops[i]? = some o → (∃ l, opnds o.op = some l ∧ ∀ t, Operand.tmp t ∈ l → (∀ (j : Nat) (o' : Oper), ops[j]? = some o' → o'.dst ≠ some t) ∨ ∃ e ∈ o.after, Region.binds .any e = true ∧ ∃ o', ops[e.on]? = some o' ∧ o'.dst = some t) ∧
      (∀ j b, o.guard = some (j, b) → (∃ e ∈ o.after, Region.binds .any e = true ∧ e.on = j) ∧ ∃ o' d, ops[j]? = some o' ∧ o'.dst = some d) ∧ (∀ e ∈ o.after, Region.binds .any e = true → e.on < i) ∧ (∀ d, o.dst = some d → d < n ∧ ∀ (j : Nat) (o' : Oper), ops[j]? = some o' → i ≠ j → o'.dst ≠ some d) := by
    intro i o ho
    have hi : i < ops.size := (Array.getElem?_eq_some_iff.1 ho).1
    have h1 := hok i (List.mem_range.2 hi)
    rw [ho] at h1
    simp only [Bool.and_eq_true] at h1
    obtain ⟨⟨⟨q1, q2⟩, q3⟩, q4⟩ := h1
    refine ⟨?_, ?_, ?_, ?_⟩
    · cases hl : opnds o.op with
      | none => rw [hl] at q1; cases q1
      | some l =>
        rw [hl] at q1
        refine ⟨l, rfl, fun t ht => ?_⟩
        have q5 := List.all_eq_true.1 q1 _ ht
        simp only [Bool.or_eq_true, List.all_eq_true, List.any_eq_true, Bool.and_eq_true, decide_eq_true_eq, Bool.not_eq_true', decide_eq_false_iff_not] at q5
        rcases q5 with q5 | ⟨e, he, hb, hx⟩
        · exact .inl fun (j : Nat) (o' : Oper) hj => q5 o' (by rw [← Array.getElem?_toList] at hj; exact List.mem_of_getElem? hj)
        · right
          obtain ⟨o', ho', hd'⟩ := Option.bind_eq_some_iff.1 hx
          exact ⟨e, by simpa using he, hb, o', ho', hd'⟩
    · intro j b hgu
      rw [hgu] at q2
      simp only [Bool.and_eq_true, List.any_eq_true, decide_eq_true_eq] at q2
      obtain ⟨⟨e, he, hb, hx⟩, q6⟩ := q2
      obtain ⟨d, hdd⟩ := Option.isSome_iff_exists.1 q6
      obtain ⟨o', ho', hd'⟩ := Option.bind_eq_some_iff.1 hdd
      exact ⟨⟨e, by simpa using he, hb, hx⟩, o', d, ho', hd'⟩
    · intro e he hbi
      have := List.all_eq_true.1 q3 e (by simpa using he)
      rw [hbi] at this
      simpa using this
    · intro d hdd
      rw [hdd] at q4
      simp only [Bool.and_eq_true, decide_eq_true_eq, List.all_eq_true, List.mem_range, Bool.or_eq_true] at q4
      refine ⟨q4.1, fun j o' hj hij => ?_⟩
      have q5 := q4.2 j (Array.getElem?_eq_some_iff.1 hj).1
      rw [hj] at q5
      rcases q5 with q5 | q5
      · exact absurd q5 hij
      · simpa using q5
  have hzip : ∀ (i : Nat) (o : Oper), ops[i]? = some o → ∃ v, vals[i]? = some v ∧ (ops.toList.zip vals)[i]? = some (o, v) := by
    intro i o ho
    have hi : i < ops.size := (Array.getElem?_eq_some_iff.1 ho).1
    have hi2 : i < vals.length := by rw [hvl, hlen]; exact hi
    refine ⟨vals[i], List.getElem?_eq_getElem hi2, ?_⟩
    rw [List.getElem?_zip_eq_some]
    exact ⟨by rw [Array.getElem?_toList]; exact ho, List.getElem?_eq_getElem hi2⟩
  have hzip' : ∀ (i : Nat) (p : Oper × Value), (ops.toList.zip vals)[i]? = some p → ops[i]? = some p.1 ∧ vals[i]? = some p.2 := by
    intro i p hp
    rw [List.getElem?_zip_eq_some] at hp
    exact ⟨by rw [← Array.getElem?_toList]; exact hp.1, hp.2⟩
  -- the text's frame ahead of operation i
  have hfr1 : ∀ (i t : Nat), (∀ (j : Nat) (o' : Oper), ops[j]? = some o' → o'.dst ≠ some t) → (((ops.toList.zip vals).take i).foldl (fun a p => a.put p.1.dst p.2) a).tmps[t]? = a.tmps[t]? := by
    intro i t ht
    refine fold_other _ _ (fun p hp => ?_)
    obtain ⟨j, hj⟩ := List.mem_iff_getElem?.1 (List.mem_of_mem_take hp)
    exact ht j p.1 (hzip' j p hj).1
  have hfr2 : ∀ (i j t : Nat) (o' : Oper) (v : Value), j < i → ops[j]? = some o' → o'.dst = some t → vals[j]? = some v → (((ops.toList.zip vals).take i).foldl (fun a p => a.put p.1.dst p.2) a).tmps[t]? = some v := by
    intro i j t o' v hji ho' hd' hv'
    obtain ⟨v2, hv2, hz⟩ := hzip j o' ho'
    obtain rfl : v = v2 := by rw [hv'] at hv2; injection hv2
    refine fold_at (p := (o', v)) _ _ j (by rw [List.getElem?_take, if_pos hji]; exact hz) hd' (by rw [hn]; exact ((hop j o' ho').2.2.2 t hd').1) (fun k q hk hq => ?_)
    rw [List.getElem?_take] at hq
    split at hq
    · exact ((hop j o' ho').2.2.2 t hd').2 k q.1 (hzip' k q hq).1 (by omega)
    · cases hq
  have main : ∀ (fuel : Nat) (listed : Array Bool) (a' : Act) (w' : World), listed.size = ops.size → J w' → a'.defers = [] → a'.tmps.size = n → (∀ t, (∀ (j : Nat) (o' : Oper), ops[j]? = some o' → o'.dst ≠ some t) → a'.tmps[t]? = a.tmps[t]?) →
      (∀ (i t : Nat) (o : Oper) (v : Value), ops[i]? = some o → listed.getD i false = true → o.dst = some t → vals[i]? = some v → a'.tmps[t]? = some v) → listed.toList.count false ≤ fuel → wpAny P .any ops Q fuel listed a' w' := by
    have done : ∀ (listed : Array Bool) (a' : Act) (w' : World), listed.size = ops.size → J w' → a'.defers = [] → a'.tmps.size = n → (∀ t, (∀ (j : Nat) (o' : Oper), ops[j]? = some o' → o'.dst ≠ some t) → a'.tmps[t]? = a.tmps[t]?) →
        (∀ (i t : Nat) (o : Oper) (v : Value), ops[i]? = some o → listed.getD i false = true → o.dst = some t → vals[i]? = some v → a'.tmps[t]? = some v) → Region.ready .any ops listed = [] → Q .normal a' w' := by
      intro listed a' w' hls hJ' hd' hn' ho hf hr
      have hall : ∀ i, i < ops.size → listed.getD i true = true := by
        intro i hi
        cases hb : listed.getD i true with
        | true => rfl
        | false =>
          exfalso
          obtain ⟨k, h1, h2⟩ := least_off listed (fun _ => True) ops.size ⟨i, hi, hb⟩
          have hkl : k < listed.size := by
            rcases Nat.lt_or_ge k listed.size with h | h
            · exact h
            · simp [Array.getElem?_eq_none h] at h1
          have hko : k < ops.size := by rw [← hls]; exact hkl
          have : k ∈ Region.ready .any ops listed := mem_ready.2 ⟨h1, ops[k], by simp [hko], fun e he hbi => by
            have h3 := (hop k ops[k] (by simp [hko])).2.2.1 e he hbi
            have h4 := h2 e.on h3
            rwa [getD_any (by omega) true false] at h4⟩
          rw [hr] at this; cases this
      have e : a' = (ops.toList.zip vals).foldl (fun a p => a.put p.1.dst p.2) a := by
        have e1 : a'.defers = ((ops.toList.zip vals).foldl (fun a p => a.put p.1.dst p.2) a).defers := by rw [fold_defers, hd', hd]
        have e2 : a'.tmps = ((ops.toList.zip vals).foldl (fun a p => a.put p.1.dst p.2) a).tmps := by
          apply Array.ext_getElem?
          intro t
          by_cases ht : ∃ (j : Nat) (o' : Oper), ops[j]? = some o' ∧ o'.dst = some t
          · obtain ⟨j, o', hj, hdj⟩ := ht
            obtain ⟨v, hvj, hz⟩ := hzip j o' hj
            have hjs : j < ops.size := (Array.getElem?_eq_some_iff.1 hj).1
            rw [hf j t o' v hj (by rw [getD_any (c := true) (by omega)]; exact hall j hjs) hdj hvj]
            exact (fold_at (p := (o', v)) _ _ j hz hdj (by rw [hn]; exact ((hop j o' hj).2.2.2 t hdj).1) (fun k q hk hq => ((hop j o' hj).2.2.2 t hdj).2 k q.1 (hzip' k q hq).1 (by omega))).symm
          · have ht' : ∀ (j : Nat) (o' : Oper), ops[j]? = some o' → o'.dst ≠ some t := fun j o' hj hh => ht ⟨j, o', hj, hh⟩
            rw [ho t ht', fold_other _ _ (fun p hp => by
              obtain ⟨j, hj⟩ := List.mem_iff_getElem?.1 hp
              exact ht' j p.1 (hzip' j p hj).1)]
        cases a'
        generalize (ops.toList.zip vals).foldl (fun a p => a.put p.1.dst p.2) a = b at *
        cases b
        simp only at e1 e2
        rw [e1, e2]
      rw [e]
      exact hq w' hJ'
    intro fuel
    induction fuel with
    | zero =>
      intro listed a' w' hls hJ' hd' hn' ho hf hc
      have hr : Region.ready .any ops listed = [] := by
        apply List.eq_nil_iff_forall_not_mem.2
        intro i hi
        obtain ⟨h1, o, hoo, -⟩ := mem_ready.1 hi
        have hio : i < ops.size := (Array.getElem?_eq_some_iff.1 hoo).1
        have hil : i < listed.size := by omega
        have : false ∈ listed.toList := List.mem_iff_getElem?.2 ⟨i, by simp [hil] at h1 ⊢; exact h1⟩
        have := List.count_pos_iff.2 this
        omega
      exact ⟨hr, done listed a' w' hls hJ' hd' hn' ho hf hr⟩
    | succ fuel ih =>
      intro listed a' w' hls hJ' hd' hn' ho hf hc
      refine ⟨done listed a' w' hls hJ' hd' hn' ho hf, fun i hi => ?_⟩
      obtain ⟨h1, o, hoo, h2⟩ := mem_ready.1 hi
      have hio : i < ops.size := (Array.getElem?_eq_some_iff.1 hoo).1
      have hil : i < listed.size := by omega
      obtain ⟨v, hvi, hz⟩ := hzip i o hoo
      obtain ⟨ai, ha1, ha2⟩ := hv i o v (by rw [Array.getElem?_toList]; exact hoo) hvi
      obtain ⟨⟨l, hl, hlt⟩, hgu, haf, hds⟩ := hop i o hoo
      have agree : ∀ t, ((∀ (j : Nat) (o' : Oper), ops[j]? = some o' → o'.dst ≠ some t) ∨ ∃ e ∈ o.after, Region.binds .any e = true ∧ ∃ o', ops[e.on]? = some o' ∧ o'.dst = some t) → ai.tmps[t]? = a'.tmps[t]? := by
        intro t ht
        rw [ha2]
        rcases ht with ht | ⟨e, he, hb, o', ho', hd''⟩
        · rw [hfr1 i t ht, ho t ht]
        · obtain ⟨v', hv', -⟩ := hzip e.on o' ho'
          rw [hfr2 i e.on t o' v' (haf e he hb) ho' hd'' hv', hf e.on t o' v' ho' (h2 e he hb) hd'' hv']
      unfold wpOp
      rw [hoo]
      refine one_transfer (ha1 w' hJ') hl ?_ ?_ ?_ ?_
      · intro x hx
        cases x with
        | tmp t =>
          show ai.tmps.getD t undef = a'.tmps.getD t undef
          have := agree t (hlt t hx)
          rw [Array.getD_eq_getD_getElem?, Array.getD_eq_getD_getElem?, this]
        | const v => rfl
        | global g => rfl
        | func f => rfl
      · unfold Region.wanted
        cases hgd : o.guard with
        | none => rfl
        | some g =>
          obtain ⟨j, b⟩ := g
          obtain ⟨⟨e, he, hb, rfl⟩, o', d, ho', hd''⟩ := hgu j b hgd
          have := agree d (.inr ⟨e, he, hb, o', ho', hd''⟩)
          dsimp only
          unfold yielded
          rw [ho']
          simp only [Option.bind_some, hd'', this]
      · intro d hdd
        rw [ha2, fold_size, hn]
        exact (hds d hdd).1
      · intro W2 hJ2
        refine ih _ _ _ (by simp [hls]) hJ2 (by rw [put_defers]; exact hd') (by rw [put_size]; exact hn') ?_ ?_ ?_
        · intro t ht
          rw [put_other (ht i o hoo)]
          exact ho t ht
        · intro j t oj vj hoj hlj hdj hvj
          by_cases hij : i = j
          · subst hij
            obtain rfl : oj = o := by rw [hoo] at hoj; injection hoj with hoj; exact hoj.symm
            obtain rfl : vj = v := by rw [hvi] at hvj; injection hvj with hvj; exact hvj.symm
            rw [hdj]
            exact put_same (by rw [hn']; exact (hds t hdj).1)
          · rw [getD_set_other hij] at hlj
            rw [put_other (fun hh => (hds t hh).2 j oj hoj hij hdj)]
            exact hf j t oj vj hoj hlj hdj hvj
        · have h3 : listed.toList[i]? = some false := by simp [hil] at h1 ⊢; exact h1
          have h4 := count_set _ _ h3
          rw [Array.toList_setIfInBounds]
          omega
  refine wp_region_any hm (main ops.size (Array.replicate ops.size false) a _ (by simp) hJ hd hn (fun _ _ => rfl) ?_ ?_)
  · intro i t o v hoo hli _ _
    have hio : i < ops.size := (Array.getElem?_eq_some_iff.1 hoo).1
    simp [hio] at hli
  · refine Nat.le_trans List.count_le_length ?_
    simp
theorem seqS_op {J : World → Prop} {Q : Exit → Act → World → Prop} {o : Oper} {rest : List Oper} {a : Act} {v : Value} (h1 : ∀ W, J W → wpList P ops (oneQ J o.dst v) [o] a W) (h2 : SeqS P ops J Q rest (a.put o.dst v)) : SeqS P ops J Q (o :: rest) a := ⟨v, h1, h2⟩
theorem seqS_end {J : World → Prop} {Q : Exit → Act → World → Prop} {a : Act} (h : ∀ W, J W → Q .normal a W) : SeqS P ops J Q [] a := h
end
end Go.Proofs.YtgphngjniplonaaGreatDoor

namespace Go.Proofs.YtgphngjniplonaaGreatDoor
open Go.RowKit
structure GEdge where
  a : Int
  b : Int
  n : Bool
instance : DecidableEq GEdge := fun x y => if h : x.a = y.a ∧ x.b = y.b ∧ x.n = y.n then isTrue (by cases x; cases y; simp at h; simp [h]) else isFalse (fun e => h (by rw [e]; exact ⟨rfl, rfl, rfl⟩))
abbrev GEdge.v (e : GEdge) : Value := .agg #[.int .i64 e.a, .int .i64 e.b, .bool e.n]
def GEdge.cells (e : GEdge) : List Value := [.int .i64 e.a, .int .i64 e.b, .bool e.n]
def GEdge.ok (e : GEdge) : Prop := fits e.a ∧ fits e.b
def Enc.edge : Enc GEdge where
  sz := 3
  ok _ _ cs e := cs = e.cells ∧ e.ok
  mono _ _ h := h
  len h := by rw [h.1]; rfl
theorem SliceIs.edge_at {w : World} {B : Nat} {A : Option Addr} {n c : Nat} {l : List GEdge} (h : SliceIs Enc.edge w B A n c l) {i : Nat} (hi : i < n) :
    ∃ b o x, A = some ⟨b, o, none⟩ ∧ b < B ∧ Hid (l[i]? = some x) ∧ w.cell? ⟨b, o + i * 3, none⟩ = some (.int .i64 x.a) ∧ w.cell? ⟨b, o + i * 3 + 1, none⟩ = some (.int .i64 x.b) ∧
      w.cell? ⟨b, o + i * 3 + 2, none⟩ = some (.bool x.n) ∧ x.ok := by
  obtain ⟨b, o, x, cs, hA, hb, hx, ⟨rfl, hf⟩, hc⟩ := h.at_ hi
  exact ⟨b, o, x, hA, hb, hx, by simpa [Enc.edge] using hc 0 _ rfl, by simpa [Enc.edge] using hc 1 _ rfl, by simpa [Enc.edge] using hc 2 _ rfl, hf⟩
def RetSameE (n : Int) (w : World) (e : Ending) (w' : World) : Prop := e = .returned (.int .i64 n) ∧ w' = w
def cmpNE (x y : Int) : Int := if x < y then -1 else if y < x then 1 else 0
theorem cmpNE_fits (x y : Int) : fits (cmpNE x y) := by unfold cmpNE; split <;> (try split) <;> (unfold fits; decide)
def firstNZE : List Int → Int
  | [] => 0
  | x :: l => if x = 0 then firstNZE l else x
theorem firstNZE_take {L : List Int} {k : Nat} {x : Int} (hx : L[k]? = some x) (h : ∀ y ∈ L.take k, y = 0) (hx0 : x ≠ 0) : firstNZE L = x := by
  induction L generalizing k with
  | nil => simp at hx
  | cons a L ih =>
    cases k with
    | zero => simp at hx; subst hx; simp [firstNZE, hx0]
    | succ k =>
      simp at hx
      have ha : a = 0 := h a (by simp)
      simp only [firstNZE, if_pos ha]
      exact ih hx (fun y hy => h y (by simp [hy]))
theorem firstNZE_all {L : List Int} (h : ∀ y ∈ L, y = 0) : firstNZE L = 0 := by
  induction L with
  | nil => rfl
  | cons a L ih =>
    simp only [firstNZE, if_pos (h a (by simp))]
    exact ih (fun y hy => h y (by simp [hy]))
def numbB (b : Bool) : Int := if b then 1 else 0
def lessE (x y : GEdge) : Bool := if x.a = y.a then (if x.b = y.b then !x.n && y.n else decide (x.b < y.b)) else decide (x.a < y.a)
def ordE (x y : GEdge) : Int := if lessE x y = true then -1 else if lessE y x = true then 1 else 0
theorem ordE_first (x y : GEdge) : firstNZE [cmpNE x.a y.a, cmpNE x.b y.b, cmpNE (numbB x.n) (numbB y.n)] = ordE x y := by
  have z (p q : Int) : (cmpNE p q = 0) ↔ p = q := by unfold cmpNE; split <;> (try split) <;> omega
  by_cases h1 : x.a = y.a
  · have e1 := (z x.a y.a).2 h1
    by_cases h2 : x.b = y.b
    · have e2 := (z x.b y.b).2 h2
      simp only [firstNZE, if_pos e1, if_pos e2]
      unfold ordE lessE
      rw [if_pos h1, if_pos h2, if_pos h1.symm, if_pos h2.symm]
      cases x.n <;> cases y.n <;> simp [numbB, cmpNE]
    · have e2 : ¬ cmpNE x.b y.b = 0 := fun h => h2 ((z _ _).1 h)
      simp only [firstNZE, if_pos e1, if_neg e2]
      unfold ordE lessE cmpNE
      rw [if_pos h1, if_neg h2, if_pos h1.symm, if_neg (Ne.symm h2)]
      by_cases h3 : x.b < y.b
      · simp [h3]
      · have h4 : y.b < x.b := by omega
        simp [h3, h4]
  · have e1 : ¬ cmpNE x.a y.a = 0 := fun h => h1 ((z _ _).1 h)
    simp only [firstNZE, if_neg e1]
    unfold ordE lessE cmpNE
    rw [if_neg h1, if_neg (Ne.symm h1)]
    by_cases h3 : x.a < y.a
    · simp [h3]
    · have h4 : y.a < x.a := by omega
      simp [h3, h4]
theorem cmpIE_any (x y : Int) (w : World) : Calls Tryz.prog 70 #[.int .i64 x, .int .i64 y] w (RetSameE (cmpNE x y) w) := by
  by_cases h1 : x < y
  · rw [show cmpNE x y = -1 by simp [cmpNE, h1]]
    go_enter Tryz.func70, Tryz.ntmps70
    go_wp2
    go_ret
    exact ⟨rfl, rfl⟩
  · by_cases h2 : y < x
    · rw [show cmpNE x y = 1 by simp [cmpNE, h1, h2]]
      go_enter Tryz.func70, Tryz.ntmps70
      go_wp2
      go_ret
      exact ⟨rfl, rfl⟩
    · rw [show cmpNE x y = 0 by simp [cmpNE, h1, h2]]
      go_enter Tryz.func70, Tryz.ntmps70
      go_wp2
      go_ret
      exact ⟨rfl, rfl⟩
theorem orE_any (A : Option Addr) (n c : Nat) (L : List Int) (w : World) (hl : SliceIs Enc.int w w.heap.size A n c L) :
    Calls Tryz.prog 69 #[.slice A n c] w (RetSameE (firstNZE L) w) := by
  have hn := hl.bound
  have hlen := Lib.hid hl.1
  obtain ⟨r, hr⟩ : ∃ r, firstNZE L = r := ⟨_, rfl⟩
  rw [hr]
  have Hr := Lib.hid hr
  clear hr
  go_enter Tryz.func69, Tryz.ntmps69
  go_wp2_with fail
  go_loop [5, 8] (fun _ i => ∃ k : Nat, k ≤ n ∧ i = .int .i64 k ∧ Hid (∀ y ∈ L.take k, y = 0)) (fun _ i => n - (intOf i).toNat)
  case atStart => exact ⟨0, by omega, rfl, fun y hy => by simp at hy⟩
  case round =>
    obtain ⟨k, hk, rfl, hpre⟩ := hrel
    by_cases hlt : k < n
    · obtain ⟨b, o, x, rfl, _, hx, hc, hf⟩ := hl.int_at hlt
      have i0 : (0 : Int) ≤ (k : Int) := by omega
      have i1 : (k : Int) < (n : Int) := by omega
      clear hl
      by_cases hx0 : x = 0
      · subst hx0
        go_wp2_with fail
        go_round
        case rel =>
          refine ⟨k + 1, by omega, by go_num, fun y hy => ?_⟩
          rw [List.take_add_one, hx.out] at hy
          rcases List.mem_append.1 hy with hy | hy
          · exact hpre.out y hy
          · simpa using hy
        case measure => simp [intOf]; omega
      · have e : r = x := by rw [← Hr.out]; exact firstNZE_take hx.out hpre.out hx0
        subst e
        go_wp2_with fail
        go_ret
        exact ⟨rfl, rfl⟩
    · have e : r = 0 := by
        rw [← Hr.out]
        refine firstNZE_all fun y hy => hpre.out y ?_
        rw [List.take_of_length_le (by have := hlen.out; omega)]
        exact hy
      subst e
      have i1 : ¬ (k : Int) < (n : Int) := by omega
      go_wp2_with fail
      go_ret
      exact ⟨rfl, rfl⟩
theorem number_any (b : Bool) (w : World) : Calls Tryz.prog 71 #[.bool b] w (RetSameE (numbB b) w) := by
  cases b <;>
  · go_enter Tryz.func71, Tryz.ntmps71
    go_wp2
    go_ret
    exact ⟨rfl, rfl⟩
theorem ints3E {W : World} {p q r : Int} (hp : fits p) (hq : fits q) (hr : fits r) : SliceIs Enc.int (W.alloc (.cells #[.int .i64 p, .int .i64 q, .int .i64 r] 3)) (W.alloc (.cells #[.int .i64 p, .int .i64 q, .int .i64 r] 3)).heap.size (some ⟨W.heap.size, 0, none⟩) 3 3 [p, q, r] :=
  SliceIs.of_block (fun n => [.int .i64 n]) (fun _ => rfl) (Go.heap_alloc_new W _) rfl (by simp [reachN]) (fun x hx => ⟨rfl, by
    simp only [List.mem_cons, List.not_mem_nil, or_false] at hx
    rcases hx with rfl | rfl | rfl <;> assumption⟩)
def withinE (e : GEdge) (n : Int) : Bool := decide (0 ≤ e.a) && decide (e.a < n) && decide (0 ≤ e.b) && decide (e.b < n)
theorem withinE_any (x : GEdge) (n : Int) (w : World) : Calls Tryz.prog 38 #[x.v, .int .i64 n] w (RetBool (withinE x n) w) := by
  by_cases h1 : (0 : Int) ≤ x.a
  · by_cases h2 : x.a < n
    · by_cases h3 : (0 : Int) ≤ x.b
      · by_cases h4 : x.b < n <;>
        · rw [show withinE x n = decide (x.b < n) by simp [withinE, h1, h2, h3]]
          simp only [h4, decide_true, decide_false]
          go_enter Tryz.func38, Tryz.ntmps38
          go_wp2_with fail
          go_ret
          exact ⟨by simp, belowA (Below.refl _ _) _⟩
      · rw [show withinE x n = false by simp [withinE, h3]]
        go_enter Tryz.func38, Tryz.ntmps38
        go_wp2_with fail
        go_ret
        exact ⟨by simp, belowA (Below.refl _ _) _⟩
    · rw [show withinE x n = false by simp [withinE, h2]]
      go_enter Tryz.func38, Tryz.ntmps38
      go_wp2_with fail
      go_ret
      exact ⟨by simp, belowA (Below.refl _ _) _⟩
  · rw [show withinE x n = false by simp [withinE, h1]]
    go_enter Tryz.func38, Tryz.ntmps38
    go_wp2_with fail
    go_ret
    exact ⟨by simp, belowA (Below.refl _ _) _⟩
theorem refLess_any (x y : GEdge) (w : World) : Calls Tryz.prog 44 #[x.v, y.v] w (RetBool (lessE x y) w) := by
  by_cases h1 : x.a = y.a
  · have z1 : (x.a != y.a) = false := by simp [h1]
    by_cases h2 : x.b = y.b
    · have z2 : (x.b != y.b) = false := by simp [h2]
      have e : lessE x y = (!x.n && y.n) := by simp [lessE, h1, h2]
      rw [e]
      clear e h1 h2
      cases hx : x.n <;> cases hy : y.n <;>
      · go_enter Tryz.func44, Tryz.ntmps44
        go_wp2_with fail
        go_ret
        exact ⟨by simp, belowA (belowA (Below.refl _ _) _) _⟩
    · have z2 : (x.b != y.b) = true := by simp [h2]
      have e : lessE x y = decide (x.b < y.b) := by simp [lessE, h1, h2]
      rw [e]
      clear e h1 h2
      go_enter Tryz.func44, Tryz.ntmps44
      go_wp2_with fail
      go_ret
      exact ⟨by simp, belowA (belowA (Below.refl _ _) _) _⟩
  · have z1 : (x.a != y.a) = true := by simp [h1]
    have e : lessE x y = decide (x.a < y.a) := by simp [lessE, h1]
    rw [e]
    clear e h1
    go_enter Tryz.func44, Tryz.ntmps44
    go_wp2_with fail
    go_ret
    exact ⟨by simp, belowA (belowA (Below.refl _ _) _) _⟩
end Go.Proofs.YtgphngjniplonaaGreatDoor
namespace Go.Proofs.YtgphngjniplonaaGreatDoor
end Go.Proofs.YtgphngjniplonaaGreatDoor
namespace Go.Proofs.YtgphngjniplonaaGreatDoor
section
variable {has : Nat → Nat → Bool}
end
end Go.Proofs.YtgphngjniplonaaGreatDoor
namespace Go.Proofs.YtgphngjniplonaaGreatDoor
open Go.RowKit
def blkOf (A : Option Addr) : List Nat := A.toList.map (·.block)
theorem ownBlock_blk (A : Option Addr) (n c : Nat) : (Value.slice A n c).ownBlock.toList = blkOf A := by
  cases A <;> rfl
section
variable {α : Type} {E : Enc α} {w w' : World} {B e : Nat} {S T U : List Nat} {A : Option Addr} {n c : Nat} {l : List α}
end
section
variable {P : Program} {w : World} {g n : Nat} {f : Nat → Nat} {t k e : TypeId}
end
end Go.Proofs.YtgphngjniplonaaGreatDoor
namespace Go.Proofs.YtgphngjniplonaaGreatDoor
open Go.RowKit Go.Sort
end Go.Proofs.YtgphngjniplonaaGreatDoor

namespace Go.Proofs
open Go.Shelf
def Tryz.laysSlF06_f67_ren : Go.Shelf.Ren := ⟨fun | 6 => 67 | 15 => 73 | 14 => 96 | 28 => 107 | 29 => 108 | 20 => 131 | 21 => 132 | 22 => 133 | 23 => 134 | 24 => 135 | 25 => 136 | 26 => 137 | 27 => 138 | 46 => 163 | 47 => 140 | 48 => 141 | 49 => 164 | 50 => 165 | 57 => 182 | n => n, fun | 22 => 29 | 24 => 71 | 25 => 121 | 3 => 3 | 39 => 155 | 0 => 0 | 53 => 185 | 55 => 187 | 4 => 4 | 46 => 178 | 45 => 177 | 50 => 127 | 5 => 5 | 9 => 9 | 66 => 218 | 70 => 222 | 76 => 242 | 77 => 243 | n => n, fun | n => n⟩
theorem Tryz.laysSlF06_f67 : Go.Proofs.SlLaysF0.n6 Tryz.prog Tryz.laysSlF06_f67_ren := {
  mixed := by kernel_rfl
  f6 := ⟨Tryz.f67.name, by decide, Tryz.func67.trans (congrArg some (by kernel_rfl))⟩
  f14 := ⟨Tryz.f96.name, by decide, Tryz.func96.trans (congrArg some (by kernel_rfl))⟩
  f15 := Tryz.func73.trans (congrArg some (by kernel_rfl))
  f20 := ⟨Tryz.f131.name, by decide, Tryz.func131.trans (congrArg some (by kernel_rfl))⟩
  f21 := ⟨Tryz.f132.name, by decide, Tryz.func132.trans (congrArg some (by kernel_rfl))⟩
  f22 := ⟨Tryz.f133.name, by decide, Tryz.func133.trans (congrArg some (by kernel_rfl))⟩
  f23 := ⟨Tryz.f134.name, by decide, Tryz.func134.trans (congrArg some (by kernel_rfl))⟩
  f24 := ⟨Tryz.f135.name, by decide, Tryz.func135.trans (congrArg some (by kernel_rfl))⟩
  f25 := ⟨Tryz.f136.name, by decide, Tryz.func136.trans (congrArg some (by kernel_rfl))⟩
  f26 := ⟨Tryz.f137.name, by decide, Tryz.func137.trans (congrArg some (by kernel_rfl))⟩
  f27 := ⟨Tryz.f138.name, by decide, Tryz.func138.trans (congrArg some (by kernel_rfl))⟩
  f28 := Tryz.func107.trans (congrArg some (by kernel_rfl))
  f29 := Tryz.func108.trans (congrArg some (by kernel_rfl))
  f46 := ⟨Tryz.f163.name, by decide, Tryz.func163.trans (congrArg some (by kernel_rfl))⟩
  f47 := Tryz.func140.trans (congrArg some (by kernel_rfl))
  f48 := Tryz.func141.trans (congrArg some (by kernel_rfl))
  f49 := ⟨Tryz.f164.name, by decide, Tryz.func164.trans (congrArg some (by kernel_rfl))⟩
  f50 := ⟨Tryz.f165.name, by decide, Tryz.func165.trans (congrArg some (by kernel_rfl))⟩
  f57 := ⟨Tryz.f182.name, by decide, Tryz.func182.trans (congrArg some (by kernel_rfl))⟩
  t0 := Tryz.underlying0
  a0 := Tryz.isAgg0
  z0 := Tryz.sizeOf0
  v0 := Tryz.zeroValue0
  t3 := Tryz.underlying3
  a3 := Tryz.isAgg3
  z3 := Tryz.sizeOf3
  v3 := Tryz.zeroValue3
  t4 := Tryz.underlying4
  a4 := Tryz.isAgg4
  z4 := Tryz.sizeOf4
  v4 := Tryz.zeroValue4
  t5 := Tryz.underlying5
  a5 := Tryz.isAgg5
  z5 := Tryz.sizeOf5
  v5 := Tryz.zeroValue5
  t9 := Tryz.underlying9
  a9 := Tryz.isAgg9
  z9 := Tryz.sizeOf9
  v9 := Tryz.zeroValue9
  t22 := Tryz.underlying29
  a22 := Tryz.isAgg29
  z22 := Tryz.sizeOf29
  v22 := Tryz.zeroValue29
  t25 := Tryz.underlying121
  a25 := Tryz.isAgg121
  z25 := Tryz.sizeOf121
  v25 := Tryz.zeroValue121
  t39 := Tryz.underlying155
  a39 := Tryz.isAgg155
  z39 := Tryz.sizeOf155
  v39 := Tryz.zeroValue155
  t45 := Tryz.underlying177
  a45 := Tryz.isAgg177
  z45 := Tryz.sizeOf177
  v45 := Tryz.zeroValue177
  t46 := Tryz.underlying178
  a46 := Tryz.isAgg178
  z46 := Tryz.sizeOf178
  v46 := Tryz.zeroValue178
  t50 := Tryz.underlying127
  a50 := Tryz.isAgg127
  z50 := Tryz.sizeOf127
  v50 := Tryz.zeroValue127
  t53 := Tryz.underlying185
  a53 := Tryz.isAgg185
  z53 := Tryz.sizeOf185
  v53 := Tryz.zeroValue185
  t55 := Tryz.underlying187
  a55 := Tryz.isAgg187
  z55 := Tryz.sizeOf187
  v55 := Tryz.zeroValue187
  t66 := Tryz.underlying218
  a66 := Tryz.isAgg218
  z66 := Tryz.sizeOf218
  v66 := Tryz.zeroValue218
  t70 := Tryz.underlying222
  a70 := Tryz.isAgg222
  z70 := Tryz.sizeOf222
  v70 := Tryz.zeroValue222
  t76 := Tryz.underlying242
  a76 := Tryz.isAgg242
  z76 := Tryz.sizeOf242
  v76 := Tryz.zeroValue242
  t77 := Tryz.underlying243
  a77 := Tryz.isAgg243
  z77 := Tryz.sizeOf243
  v77 := Tryz.zeroValue243 }
open Go.RowKit Go.Lib Go.Sort in
theorem Tryz.slices_SortFunc_none {α : Type} [Inhabited α] (p : Option Addr) (cap : Nat) (fv : Value) (w : World) :
    Calls Tryz.prog 67 #[.slice p 0 cap, fv] w fun e w' => e = .returned (.tuple #[]) ∧ w' = w := AnyF.slices_SortFunc_none Tryz.laysSlF06_f67 p cap fv w
open Go.RowKit Go.Lib Go.Sort in
theorem Tryz.slices_SortFunc_total {α : Type} [Inhabited α] (k : Nat) (aE : ∀ w, (isAgg 71).run Tryz.prog w = .ok true w) (zE : ∀ w, (Go.sizeOf 71).run Tryz.prog w = .ok k w) (enc : α → List Value) (hk : ∀ x, (enc x).length = k) (h1 : ∀ x, ∀ v ∈ enc x, v.oneCell' = true) (cf : α → α → Int) (hO : SWO (ltOf cf)) (g : Nat) (cb : Array Value) (blk off cap : Nat) (d : Array α) (w : World) (eg : ∀ args w, (callFunc g args).run Tryz.prog w = .ok (.enter g args) w) (hcmp : CmpLays Tryz.prog g cb enc k cf blk off d.size w) (hH : HoldsK enc k w blk off d) (hblk : blk < w.heap.size) (hsz : d.size < 4611686018427387904) (hT : ∀ x y, (ltOf cf) x y = false → (ltOf cf) y x = false → x = y) :
    Calls Tryz.prog 67 #[.slice (some ⟨blk, off, none⟩) d.size cap, .func (.func g) #[] cb] w fun e w' =>
      e = .returned (.tuple #[]) ∧ ∃ n os, w' = sortWorldK enc k w blk off n (d.toList.mergeSort fun x y => !(ltOf cf) y x).toArray os := AnyQ.slices_SortFunc_total Tryz.laysSlF06_f67 k aE zE enc hk h1 cf hO g cb blk off cap d w eg hcmp hH hblk hsz hT
end Go.Proofs
