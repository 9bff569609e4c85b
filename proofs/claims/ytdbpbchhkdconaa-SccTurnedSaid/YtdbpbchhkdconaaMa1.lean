/- Merged by my own program of: ScTar, ScFar, SortU, ScLaw, ScEqv, ScRun, ScOut, ScAll, ScTurn, ScWait. -/
/- Tarjan's way in plain words: a state, its steps, what holds of it. Nothing of any program. -/
namespace Go.Proofs.Ytdbpbchhkdconaa

/-- who is reached -/
inductive Rch (succ : Nat → List Nat) : Nat → Nat → Prop where
  | refl (a : Nat) : Rch succ a a
  | step {a b c : Nat} (h : b ∈ succ a) (k : Rch succ b c) : Rch succ a c
theorem Rch.trans {succ : Nat → List Nat} {a b c : Nat} (h : Rch succ a b) (k : Rch succ b c) : Rch succ a c := by
  induction h with
  | refl _ => exact k
  | step h _ ih => exact .step h (ih k)
theorem Rch.one {succ : Nat → List Nat} {a b : Nat} (h : b ∈ succ a) : Rch succ a b := .step h (.refl _)
theorem Rch.stays {succ : Nat → List Nat} {p : Nat → Prop} (hp : ∀ a, p a → ∀ b ∈ succ a, p b) {a b : Nat} (h : Rch succ a b) (ha : p a) : p b := by
  induction h with
  | refl _ => exact ha
  | step h _ ih => exact ih (hp _ ha _ h)

structure TS where
  idx : Nat → Nat
  low : Nat → Nat
  cnt : Nat
  stk : List Nat
  wrk : List (Nat × List Nat)
  out : List (List Nat)
def TS.nodes (σ : TS) : List Nat := σ.wrk.map Prod.fst
def updN (f : Nat → Nat) (a v : Nat) : Nat → Nat := fun x => if x = a then v else f x
theorem updN_same (f : Nat → Nat) (a v : Nat) : updN f a v a = v := if_pos rfl
theorem updN_ne {f : Nat → Nat} {a v x : Nat} (h : x ≠ a) : updN f a v x = f x := if_neg h

/-- the owner of a node of the stack: the last node of the way ahead of it -/
def TS.Own (σ : TS) (v w : Nat) : Prop := w ∈ σ.nodes ∧ σ.idx w ≤ σ.idx v ∧ ∀ u ∈ σ.nodes, σ.idx u ≤ σ.idx v → σ.idx u ≤ σ.idx w
structure TInv (succ : Nat → List Nat) (σ : TS) : Prop where
  vis : ∀ v, σ.idx v ≠ 0 ↔ v ∈ σ.stk ∨ v ∈ σ.out.flatten
  dis : ∀ v ∈ σ.stk, v ∉ σ.out.flatten
  le : ∀ v, σ.idx v ≤ σ.cnt
  inj : ∀ a b, σ.idx a = σ.idx b → σ.idx a ≠ 0 → a = b
  inc : σ.stk.Pairwise (fun a b => σ.idx a < σ.idx b)
  wst : ∀ w ∈ σ.nodes, w ∈ σ.stk
  winc : σ.nodes.Pairwise (fun a b => σ.idx a < σ.idx b ∧ Rch succ a b)
  clo : ∀ v ∈ σ.out.flatten, ∀ k ∈ succ v, k ∈ σ.out.flatten
  scc : ∀ p ∈ σ.out, p ≠ [] ∧ ∀ a ∈ p, ∀ b, b ∈ p ↔ Rch succ a b ∧ Rch succ b a
  nod : σ.out.flatten.Nodup
  own : ∀ v ∈ σ.stk, ∃ w, σ.Own v w ∧ Rch succ v w ∧ Rch succ w v
  lowi : ∀ w ∈ σ.nodes, σ.low w ≤ σ.idx w ∧ ∃ x ∈ σ.stk, σ.idx x = σ.low w ∧ Rch succ w x
  exp : ∀ v ∈ σ.stk, ∀ w, σ.Own v w → ∀ k ∈ succ v, (∀ f ∈ σ.wrk, f.1 = v → k ∉ f.2) → k ∈ σ.out.flatten ∨ k ∈ σ.stk ∧ σ.low w ≤ σ.idx k
def TS.zero : TS := ⟨fun _ => 0, fun _ => 0, 0, [], [], []⟩
theorem TInv.zero (succ : Nat → List Nat) : TInv succ TS.zero where
  vis := fun v => by simp [TS.zero]
  dis := fun v h => by simp [TS.zero] at h
  le := fun v => Nat.le_refl _
  inj := fun a b _ h => absurd rfl h
  inc := .nil
  wst := fun w h => by simp [TS.zero, TS.nodes] at h
  winc := .nil
  clo := fun v h => by simp [TS.zero] at h
  scc := fun p h => by simp [TS.zero] at h
  nod := .nil
  own := fun v h => by simp [TS.zero] at h
  lowi := fun w h => by simp [TS.zero, TS.nodes] at h
  exp := fun v h => by simp [TS.zero] at h
section
variable {succ : Nat → List Nat} {σ : TS}
theorem TInv.pos (h : TInv succ σ) {v : Nat} (hv : v ∈ σ.stk) : 0 < σ.idx v := Nat.pos_of_ne_zero ((h.vis v).2 (.inl hv))
theorem TInv.bare (h : TInv succ σ) (hw : σ.wrk = []) : σ.stk = [] := by
  cases hs : σ.stk with
  | nil => rfl
  | cons v l =>
    obtain ⟨w, hw2, -⟩ := h.own v (by rw [hs]; exact List.mem_cons_self ..)
    have := hw2.1
    simp [TS.nodes, hw] at this
/-- the owner is one -/
theorem TInv.own_one (h : TInv succ σ) {v w u : Nat} (h1 : σ.Own v w) (h2 : σ.Own v u) : w = u := by
  have e1 := h1.2.2 u h2.1 h2.2.1
  have e2 := h2.2.2 w h1.1 h1.2.1
  exact h.inj _ _ (by omega) (by have := h.pos (h.wst w h1.1); omega)
theorem TInv.own_self (_h : TInv succ σ) {w : Nat} (hw : w ∈ σ.nodes) : σ.Own w w := ⟨hw, Nat.le_refl _, fun _ _ h => h⟩

/-! ### a node is begun -/
/-- (the way's last frame, if there is one, has what it needs behind k; k is begun) -/
def TS.enter (succ : Nat → List Nat) (σ : TS) (ws : List (Nat × List Nat)) (k : Nat) : TS :=
  ⟨updN σ.idx k (σ.cnt + 1), updN σ.low k (σ.cnt + 1), σ.cnt + 1, σ.stk ++ [k], ws ++ [(k, succ k)], σ.out⟩
theorem TInv.enter (h : TInv succ σ) {k : Nat} (hk : σ.idx k = 0) {ws : List (Nat × List Nat)} (hn : ws.map Prod.fst = σ.nodes)
    (hreach : ∀ w ∈ σ.nodes, Rch succ w k)
    (hws : ∀ v j, j ≠ k → (∀ f ∈ ws, f.1 = v → j ∉ f.2) → ∀ f ∈ σ.wrk, f.1 = v → j ∉ f.2) : TInv succ (σ.enter succ ws k) := by
  have hks : k ∉ σ.stk := fun hm => by have := h.pos hm; omega
  have hko : k ∉ σ.out.flatten := fun hm => (h.vis k).2 (.inr hm) hk
  have hne : ∀ v ∈ σ.stk, v ≠ k := fun v hv e => hks (e ▸ hv)
  have hnode : (σ.enter succ ws k).nodes = σ.nodes ++ [k] := by simp [TS.nodes, TS.enter, hn] 
  have hi : ∀ v, v ≠ k → (σ.enter succ ws k).idx v = σ.idx v := fun v hv => updN_ne hv
  have hik : (σ.enter succ ws k).idx k = σ.cnt + 1 := updN_same ..
  have hl : ∀ v, v ≠ k → (σ.enter succ ws k).low v = σ.low v := fun v hv => updN_ne hv
  have hlk : (σ.enter succ ws k).low k = σ.cnt + 1 := updN_same ..
  have hwk : ∀ w ∈ σ.nodes, w ≠ k := fun w hw => hne w (h.wst w hw)
  have hown : ∀ v ∈ σ.stk, ∀ w, (σ.enter succ ws k).Own v w ↔ σ.Own v w := by
    intro v hv w
    unfold TS.Own
    rw [hnode]
    have hvk := hne v hv
    have hle := h.le v
    constructor
    · rintro ⟨h1, h2, h3⟩
      rcases List.mem_append.1 h1 with h1 | h1
      · rw [hi v hvk, hi w (hwk w h1)] at h2
        refine ⟨h1, h2, fun u hu hle2 => ?_⟩
        have := h3 u (List.mem_append_left _ hu) (by rw [hi v hvk, hi u (hwk u hu)]; exact hle2)
        rwa [hi u (hwk u hu), hi w (hwk w h1)] at this
      · simp at h1
        subst h1
        rw [hik, hi v hvk] at h2
        omega
    · rintro ⟨h1, h2, h3⟩
      refine ⟨List.mem_append_left _ h1, by rw [hi v hvk, hi w (hwk w h1)]; exact h2, fun u hu hle2 => ?_⟩
      rcases List.mem_append.1 hu with hu | hu
      · rw [hi u (hwk u hu), hi w (hwk w h1)]
        rw [hi u (hwk u hu), hi v hvk] at hle2
        exact h3 u hu hle2
      · simp at hu
        subst hu
        rw [hik, hi v hvk] at hle2
        omega
  have hownk : ∀ w, (σ.enter succ ws k).Own k w → w = k := by
    intro w ⟨h1, h2, h3⟩
    rw [hnode] at h1
    rcases List.mem_append.1 h1 with h1 | h1
    · have := h3 k (by rw [hnode]; simp) (Nat.le_refl _)
      rw [hik, hi w (hwk w h1)] at this
      have := h.le w
      omega
    · simpa using h1
  refine ⟨?_, ?_, ?_, ?_, ?_, ?_, ?_, h.clo, h.scc, h.nod, ?_, ?_, ?_⟩
  · intro v
    by_cases hv : v = k
    · subst hv
      rw [hik]
      simp [TS.enter]
    · rw [hi v hv, h.vis v]
      simp [TS.enter, hv]
  · intro v hv
    simp only [TS.enter, List.mem_append, List.mem_singleton] at hv
    rcases hv with hv | rfl
    · exact h.dis v hv
    · exact hko
  · intro v
    show _ ≤ σ.cnt + 1
    by_cases hv : v = k
    · subst hv; rw [hik]; exact Nat.le_refl _
    · rw [hi v hv]; have := h.le v; omega
  · intro a b hab ha
    by_cases h1 : a = k
    · subst h1
      by_cases h2 : b = a
      · exact h2.symm
      · rw [hik, hi b h2] at hab
        have := h.le b
        omega
    · by_cases h2 : b = k
      · subst h2
        rw [hik, hi a h1] at hab
        have := h.le a
        omega
      · rw [hi a h1, hi b h2] at hab
        rw [hi a h1] at ha
        exact h.inj a b hab ha
  · show (σ.stk ++ [k]).Pairwise _
    rw [List.pairwise_append]
    refine ⟨?_, List.pairwise_singleton _ _, ?_⟩
    · refine List.Pairwise.imp_of_mem ?_ h.inc
      intro a b ha hb hab
      rw [hi a (hne a ha), hi b (hne b hb)]
      exact hab
    · intro a ha b hb
      simp at hb
      subst hb
      rw [hik, hi a (hne a ha)]
      have := h.le a
      omega
  · intro w hw
    rw [hnode] at hw
    show w ∈ σ.stk ++ [k]
    rcases List.mem_append.1 hw with hw | hw
    · exact List.mem_append_left _ (h.wst w hw)
    · exact List.mem_append_right _ hw
  · rw [hnode, List.pairwise_append]
    refine ⟨?_, List.pairwise_singleton _ _, ?_⟩
    · refine List.Pairwise.imp_of_mem ?_ h.winc
      intro a b ha hb hab
      rw [hi a (hwk a ha), hi b (hwk b hb)]
      exact hab
    · intro a ha b hb
      simp at hb
      subst hb
      rw [hik, hi a (hwk a ha)]
      have := h.le a
      exact ⟨by omega, hreach a ha⟩
  · intro v hv
    simp only [TS.enter, List.mem_append, List.mem_singleton] at hv
    rcases hv with hv | rfl
    · obtain ⟨w, h1, h2⟩ := h.own v hv
      exact ⟨w, (hown v hv w).2 h1, h2⟩
    · refine ⟨v, ⟨by rw [hnode]; simp, Nat.le_refl _, fun _ _ h => h⟩, .refl _, .refl _⟩
  · intro w hw
    rw [hnode] at hw
    rcases List.mem_append.1 hw with hw | hw
    · obtain ⟨h1, x, h2, h3, h4⟩ := h.lowi w hw
      rw [hl w (hwk w hw), hi w (hwk w hw)]
      exact ⟨h1, x, List.mem_append_left _ h2, by rw [hi x (hne x h2)]; exact h3, h4⟩
    · simp at hw
      subst hw
      rw [hlk, hik]
      exact ⟨Nat.le_refl _, w, List.mem_append_right _ (by simp), hik, .refl _⟩
  · intro v hv w hw j hj hfj
    simp only [TS.enter, List.mem_append, List.mem_singleton] at hv
    rcases hv with hv | rfl
    · have hw2 := (hown v hv w).1 hw
      rw [hl w (hwk w hw2.1)]
      by_cases hjk : j = k
      · subst hjk
        refine .inr ⟨List.mem_append_right _ (by simp), ?_⟩
        rw [hik]
        have h1 := (h.lowi w hw2.1).1
        have h2 := h.le w
        omega
      · have hold := hws v j hjk (fun f hf he => hfj f (List.mem_append_left _ hf) he)
        rcases h.exp v hv w hw2 j hj hold with h1 | ⟨h1, h2⟩
        · exact .inl h1
        · refine .inr ⟨List.mem_append_left _ h1, ?_⟩
          rw [hi j hjk]; exact h2
    · exact absurd hj (hfj (v, succ v) (List.mem_append_right _ (by simp)) rfl)

/-! ### what is needed and known is passed over -/
def TS.pass (σ : TS) (ws : List (Nat × List Nat)) (n k : Nat) (rest : List Nat) : TS :=
  ⟨σ.idx, if k ∈ σ.stk then updN σ.low n (min (σ.low n) (σ.idx k)) else σ.low, σ.cnt, σ.stk, ws ++ [(n, rest)], σ.out⟩
theorem TInv.pass (h : TInv succ σ) {ws : List (Nat × List Nat)} {n k : Nat} {rest : List Nat} (hw : σ.wrk = ws ++ [(n, k :: rest)]) (hk : σ.idx k ≠ 0) (hnk : k ∈ succ n) : TInv succ (σ.pass ws n k rest) := by
  have hnode : (σ.pass ws n k rest).nodes = σ.nodes := by simp [TS.nodes, TS.pass, hw]
  have hown : ∀ v w, (σ.pass ws n k rest).Own v w ↔ σ.Own v w := by
    intro v w; unfold TS.Own; rw [hnode]; exact Iff.rfl
  have hnn : n ∈ σ.nodes := by simp [TS.nodes, hw]
  have hll : ∀ w, (σ.pass ws n k rest).low w ≤ σ.low w := by
    intro w
    show (if k ∈ σ.stk then updN σ.low n (min (σ.low n) (σ.idx k)) else σ.low) w ≤ _
    split
    · by_cases hwn : w = n
      · subst hwn; rw [updN_same]; exact Nat.min_le_left _ _
      · rw [updN_ne hwn]; exact Nat.le_refl _
    · exact Nat.le_refl _
  refine ⟨h.vis, h.dis, h.le, h.inj, h.inc, ?_, ?_, h.clo, h.scc, h.nod, ?_, ?_, ?_⟩
  · intro w hw2; rw [hnode] at hw2; exact h.wst w hw2
  · rw [hnode]; exact h.winc
  · intro v hv
    obtain ⟨w, h1, h2⟩ := h.own v hv
    exact ⟨w, (hown v w).2 h1, h2⟩
  · intro w hw2
    rw [hnode] at hw2
    obtain ⟨h1, x, h2, h3, h4⟩ := h.lowi w hw2
    refine ⟨Nat.le_trans (hll w) h1, ?_⟩
    by_cases hks : k ∈ σ.stk
    · by_cases hwn : w = n
      · subst hwn
        have e : (σ.pass ws w k rest).low w = min (σ.low w) (σ.idx k) := by
          show (if k ∈ σ.stk then updN σ.low w (min (σ.low w) (σ.idx k)) else σ.low) w = _
          rw [if_pos hks, updN_same]
        rw [e]
        by_cases hle : σ.low w ≤ σ.idx k
        · exact ⟨x, h2, by show σ.idx x = _; omega, h4⟩
        · exact ⟨k, hks, by show σ.idx k = _; omega, .one hnk⟩
      · have e : (σ.pass ws n k rest).low w = σ.low w := by
          show (if k ∈ σ.stk then updN σ.low n (min (σ.low n) (σ.idx k)) else σ.low) w = _
          rw [if_pos hks, updN_ne hwn]
        rw [e]
        exact ⟨x, h2, h3, h4⟩
    · have e : (σ.pass ws n k rest).low w = σ.low w := by
        show (if k ∈ σ.stk then updN σ.low n (min (σ.low n) (σ.idx k)) else σ.low) w = _
        rw [if_neg hks]
      rw [e]
      exact ⟨x, h2, h3, h4⟩
  · intro v hv w hw2 j hj hfj
    have hw3 := (hown v w).1 hw2
    by_cases hjk : v = n ∧ j = k
    · obtain ⟨rfl, rfl⟩ := hjk
      have hwv : w = v := h.own_one hw3 (h.own_self hnn)
      subst hwv
      rcases (h.vis j).1 hk with h1 | h1
      · refine .inr ⟨h1, ?_⟩
        show (if j ∈ σ.stk then updN σ.low w (min (σ.low w) (σ.idx j)) else σ.low) w ≤ _
        rw [if_pos h1, updN_same]
        exact Nat.min_le_right _ _
      · exact .inl h1
    · have hold : ∀ f ∈ σ.wrk, f.1 = v → j ∉ f.2 := by
        intro f hf he
        rw [hw] at hf
        rcases List.mem_append.1 hf with hf | hf
        · exact hfj f (List.mem_append_left _ hf) he
        · simp at hf
          subst hf
          have h1 := hfj (n, rest) (List.mem_append_right _ (by simp)) he
          simp only [List.mem_cons, not_or]
          refine ⟨fun e => hjk ⟨he.symm, e⟩, h1⟩
      rcases h.exp v hv w hw3 j hj hold with h1 | ⟨h1, h2⟩
      · exact .inl h1
      · exact .inr ⟨h1, Nat.le_trans (hll w) h2⟩

/-! ### a node is ended -/
/-- the last frame is off; its component is out, if nothing earlier is reached -/
def TS.leave (σ : TS) (ws : List (Nat × List Nat)) (n : Nat) : TS :=
  let low' := match ws.getLast? with
    | some f => updN σ.low f.1 (min (σ.low f.1) (σ.low n))
    | none => σ.low
  if σ.low n = σ.idx n then ⟨σ.idx, low', σ.cnt, σ.stk.take (σ.stk.idxOf n), ws, σ.out ++ [σ.stk.drop (σ.stk.idxOf n)]⟩
  else ⟨σ.idx, low', σ.cnt, σ.stk, ws, σ.out⟩
/-- the stack is cut at a node: ahead of it less, from it on more -/
theorem cut_at {f : Nat → Nat} {l : List Nat} (hp : l.Pairwise (fun a b => f a < f b)) {n : Nat} (hn : n ∈ l) : (∀ v, v ∈ l.take (l.idxOf n) ↔ v ∈ l ∧ f v < f n) ∧ (∀ v, v ∈ l.drop (l.idxOf n) ↔ v ∈ l ∧ f n ≤ f v) := by
  induction l with
  | nil => cases hn
  | cons a l ih =>
    rw [List.pairwise_cons] at hp
    rw [List.idxOf_cons]
    by_cases hna : a = n
    · subst hna
      simp only [beq_self_eq_true, cond_true, List.take_zero, List.drop_zero, List.not_mem_nil, false_iff, List.mem_cons]
      refine ⟨?_, ?_⟩
      · rintro v ⟨rfl | hv, h⟩
        · omega
        · have := hp.1 v hv; omega
      · intro v
        constructor
        · rintro (rfl | hv)
          · exact ⟨.inl rfl, Nat.le_refl _⟩
          · exact ⟨.inr hv, Nat.le_of_lt (hp.1 v hv)⟩
        · exact fun h => h.1
    · have hnl : n ∈ l := by
        rcases List.mem_cons.1 hn with h | h
        · exact absurd h.symm hna
        · exact h
      obtain ⟨h1, h2⟩ := ih hp.2 hnl
      have han := hp.1 n hnl
      rw [beq_eq_false_iff_ne.2 hna, cond_false]
      simp only [List.take_succ_cons, List.drop_succ_cons, List.mem_cons, h1, h2]
      refine ⟨fun v => ?_, fun v => ?_⟩
      · constructor
        · rintro (rfl | ⟨hv, h⟩)
          · exact ⟨.inl rfl, han⟩
          · exact ⟨.inr hv, h⟩
        · rintro ⟨rfl | hv, h⟩
          · exact .inl rfl
          · exact .inr ⟨hv, h⟩
      · constructor
        · rintro ⟨hv, h⟩
          exact ⟨.inr hv, h⟩
        · rintro ⟨rfl | hv, h⟩
          · omega
          · exact ⟨hv, h⟩
theorem TInv.leave (h : TInv succ σ) {ws : List (Nat × List Nat)} {n : Nat} (hw : σ.wrk = ws ++ [(n, [])]) : TInv succ (σ.leave ws n) := by
  have hnode : σ.nodes = ws.map Prod.fst ++ [n] := by simp [TS.nodes, hw]
  have hnn : n ∈ σ.nodes := by rw [hnode]; simp
  have hns := h.wst n hnn
  have hwp := h.winc
  rw [hnode, List.pairwise_append] at hwp
  obtain ⟨hwp1, -, hwp2⟩ := hwp
  have hwn : ∀ w ∈ ws.map Prod.fst, σ.idx w < σ.idx n ∧ Rch succ w n := fun w hm => hwp2 w hm n (by simp)
  have hlown := h.lowi n hnn
  -- the new lows
  obtain ⟨low', hlow⟩ : ∃ low', low' = (match ws.getLast? with | some f => updN σ.low f.1 (min (σ.low f.1) (σ.low n)) | none => σ.low) := ⟨_, rfl⟩
  have hll : ∀ w, low' w ≤ σ.low w := by
    intro w
    rw [hlow]
    cases ws.getLast? with
    | none => exact Nat.le_refl _
    | some f =>
      by_cases hwf : w = f.1
      · subst hwf; simp only [updN_same]; exact Nat.min_le_left _ _
      · simp only [updN_ne hwf]; exact Nat.le_refl _
  by_cases hc : σ.low n = σ.idx n
  · -- the component is out
    have hlow2 : low' = σ.low ∨ ∃ f, ws.getLast? = some f := by
      rw [hlow]
      cases ws.getLast? with
      | none => exact .inl rfl
      | some f => exact .inr ⟨f, rfl⟩
    have hlw : ∀ w ∈ ws.map Prod.fst, low' w = σ.low w := by
      intro w hm
      rw [hlow]
      cases hg : ws.getLast? with
      | none => rfl
      | some f =>
        by_cases hwf : w = f.1
        · subst hwf
          simp only [updN_same]
          have h1 := (h.lowi f.1 (by rw [hnode]; exact List.mem_append_left _ hm)).1
          have h2 := (hwn f.1 hm).1
          omega
        · simp only [updN_ne hwf]
    have e : σ.leave ws n = ⟨σ.idx, low', σ.cnt, σ.stk.take (σ.stk.idxOf n), ws, σ.out ++ [σ.stk.drop (σ.stk.idxOf n)]⟩ := by
      unfold TS.leave; rw [if_pos hc, hlow]
    obtain ⟨c1, c2⟩ := cut_at h.inc hns
    have hfl : (σ.out ++ [σ.stk.drop (σ.stk.idxOf n)]).flatten = σ.out.flatten ++ σ.stk.drop (σ.stk.idxOf n) := by simp
    -- the owner of those that go is n
    have hgo : ∀ v ∈ σ.stk, σ.idx n ≤ σ.idx v → σ.Own v n := by
      intro v hv hle
      refine ⟨hnn, hle, fun u hu _ => ?_⟩
      rw [hnode] at hu
      rcases List.mem_append.1 hu with hu | hu
      · exact Nat.le_of_lt (hwn u hu).1
      · simp at hu; subst hu; exact Nat.le_refl _
    have hbare : ∀ v ∈ σ.stk, σ.idx n ≤ σ.idx v → ∀ f ∈ σ.wrk, f.1 = v → ∀ j, j ∉ f.2 := by
      intro v hv hle f hf he j
      rw [hw] at hf
      rcases List.mem_append.1 hf with hf | hf
      · have := (hwn f.1 (List.mem_map.2 ⟨f, hf, rfl⟩)).1
        rw [he] at this
        omega
      · simp at hf; subst hf; simp
    have hedge : ∀ v ∈ σ.stk, σ.idx n ≤ σ.idx v → ∀ k ∈ succ v, k ∈ σ.out.flatten ∨ k ∈ σ.stk ∧ σ.idx n ≤ σ.idx k := by
      intro v hv hle k hk
      have := h.exp v hv n (hgo v hv hle) k hk (fun f hf he => hbare v hv hle f hf he k)
      rwa [hc] at this
    have hmut : ∀ v ∈ σ.stk, σ.idx n ≤ σ.idx v → Rch succ v n ∧ Rch succ n v := by
      intro v hv hle
      obtain ⟨w, h1, h2⟩ := h.own v hv
      rw [h.own_one h1 (hgo v hv hle)] at h2
      exact h2
    rw [e]
    have hownr : ∀ v ∈ σ.stk, σ.idx v < σ.idx n → ∀ w, TS.Own ⟨σ.idx, low', σ.cnt, σ.stk.take (σ.stk.idxOf n), ws, σ.out ++ [σ.stk.drop (σ.stk.idxOf n)]⟩ v w ↔ σ.Own v w := by
      intro v hv hlt w
      unfold TS.Own
      rw [hnode]
      show (w ∈ ws.map Prod.fst ∧ σ.idx w ≤ σ.idx v ∧ ∀ u ∈ ws.map Prod.fst, σ.idx u ≤ σ.idx v → σ.idx u ≤ σ.idx w) ↔ _
      constructor
      · rintro ⟨h1, h2, h3⟩
        refine ⟨List.mem_append_left _ h1, h2, fun u hu hle => ?_⟩
        rcases List.mem_append.1 hu with hu | hu
        · exact h3 u hu hle
        · simp at hu; subst hu; omega
      · rintro ⟨h1, h2, h3⟩
        rcases List.mem_append.1 h1 with h1 | h1
        · exact ⟨h1, h2, fun u hu hle => h3 u (List.mem_append_left _ hu) hle⟩
        · simp at h1; subst h1; omega
    refine ⟨?_, ?_, h.le, h.inj, ?_, ?_, hwp1, ?_, ?_, ?_, ?_, ?_, ?_⟩
    · intro v
      show σ.idx v ≠ 0 ↔ v ∈ σ.stk.take _ ∨ v ∈ (σ.out ++ [_]).flatten
      rw [hfl, List.mem_append, h.vis v, c1, c2]
      constructor
      · rintro (h1 | h1)
        · by_cases hle : σ.idx n ≤ σ.idx v
          · exact .inr (.inr ⟨h1, hle⟩)
          · exact .inl ⟨h1, by omega⟩
        · exact .inr (.inl h1)
      · rintro (⟨h1, -⟩ | h1 | ⟨h1, -⟩)
        · exact .inl h1
        · exact .inr h1
        · exact .inl h1
    · intro v hv
      show v ∉ (σ.out ++ [_]).flatten
      rw [hfl, List.mem_append, c2]
      have hv2 := (c1 v).1 hv
      rintro (h1 | h1)
      · exact h.dis v hv2.1 h1
      · omega
    · exact List.Pairwise.sublist (List.take_sublist _ _) h.inc
    · intro w hm
      refine (c1 w).2 ⟨h.wst w (by rw [hnode]; exact List.mem_append_left _ hm), (hwn w hm).1⟩
    · intro v hv k hk
      show k ∈ (σ.out ++ [_]).flatten
      replace hv : v ∈ (σ.out ++ [_]).flatten := hv
      rw [hfl, List.mem_append] at hv ⊢
      rcases hv with hv | hv
      · exact .inl (h.clo v hv k hk)
      · obtain ⟨h1, h2⟩ := (c2 v).1 hv
        rcases hedge v h1 h2 k hk with h3 | h3
        · exact .inl h3
        · exact .inr ((c2 k).2 h3)
    · intro p hp
      replace hp : p ∈ σ.out ++ [_] := hp
      rcases List.mem_append.1 hp with hp | hp
      · exact h.scc p hp
      · simp at hp
        subst hp
        have hnd : n ∈ σ.stk.drop (σ.stk.idxOf n) := (c2 n).2 ⟨hns, Nat.le_refl _⟩
        refine ⟨List.ne_nil_of_mem hnd, fun a ha b => ?_⟩
        obtain ⟨a1, a2⟩ := (c2 a).1 ha
        obtain ⟨m1, m2⟩ := hmut a a1 a2
        constructor
        · intro hb
          obtain ⟨b1, b2⟩ := (c2 b).1 hb
          obtain ⟨k1, k2⟩ := hmut b b1 b2
          exact ⟨m1.trans k2, k1.trans m2⟩
        · rintro ⟨k1, k2⟩
          have hp : ∀ x, (x ∈ σ.out.flatten ∨ x ∈ σ.stk ∧ σ.idx n ≤ σ.idx x) → ∀ y ∈ succ x, (y ∈ σ.out.flatten ∨ y ∈ σ.stk ∧ σ.idx n ≤ σ.idx y) := by
            rintro x (hx | ⟨hx, hx2⟩) y hy
            · exact .inl (h.clo x hx y hy)
            · exact hedge x hx hx2 y hy
          rcases k1.stays hp (.inr ⟨a1, a2⟩) with hb | hb
          · exfalso
            exact h.dis a a1 (k2.stays (p := fun x => x ∈ σ.out.flatten) (fun x hx y hy => h.clo x hx y hy) hb)
          · exact (c2 b).2 hb
    · show ((σ.out ++ [_]).flatten).Nodup
      rw [hfl, List.nodup_append]
      refine ⟨h.nod, ?_, ?_⟩
      · have : (σ.stk.drop (σ.stk.idxOf n)).Pairwise (fun a b => σ.idx a < σ.idx b) := List.Pairwise.sublist (List.drop_sublist _ _) h.inc
        exact this.imp (fun hab e => by subst e; omega)
      · intro a ha b hb e
        subst e
        exact h.dis a ((c2 a).1 hb).1 ha
    · intro v hv
      obtain ⟨h1, h2⟩ := (c1 v).1 hv
      obtain ⟨w, h3, h4⟩ := h.own v h1
      exact ⟨w, (hownr v h1 h2 w).2 h3, h4⟩
    · intro w hm
      replace hm : w ∈ ws.map Prod.fst := hm
      obtain ⟨h1, x, h2, h3, h4⟩ := h.lowi w (by rw [hnode]; exact List.mem_append_left _ hm)
      show low' w ≤ σ.idx w ∧ ∃ x ∈ σ.stk.take _, σ.idx x = low' w ∧ _
      rw [hlw w hm]
      have := (hwn w hm).1
      exact ⟨h1, x, (c1 x).2 ⟨h2, by omega⟩, h3, h4⟩
    · intro v hv w hw2 k hk hfk
      obtain ⟨h1, h2⟩ := (c1 v).1 hv
      have hw3 := (hownr v h1 h2 w).1 hw2
      have hwm : w ∈ ws.map Prod.fst := hw2.1
      have hold : ∀ f ∈ σ.wrk, f.1 = v → k ∉ f.2 := by
        intro f hf he
        rw [hw] at hf
        rcases List.mem_append.1 hf with hf | hf
        · exact hfk f hf he
        · simp at hf; subst hf; simp
      show k ∈ (σ.out ++ [_]).flatten ∨ k ∈ σ.stk.take _ ∧ low' w ≤ σ.idx k
      rw [hfl, List.mem_append, c1, c2, hlw w hwm]
      rcases h.exp v h1 w hw3 k hk hold with h3 | ⟨h3, h4⟩
      · exact .inl (.inl h3)
      · by_cases hle : σ.idx n ≤ σ.idx k
        · exact .inl (.inr ⟨h3, hle⟩)
        · exact .inr ⟨⟨h3, by omega⟩, h4⟩
  · -- it belongs to what is below it
    have e : σ.leave ws n = ⟨σ.idx, low', σ.cnt, σ.stk, ws, σ.out⟩ := by
      unfold TS.leave; rw [if_neg hc, hlow]
    obtain ⟨hl1, x, hx, hxi, hxr⟩ := hlown
    have hlt : σ.idx x < σ.idx n := by omega
    -- there is one below
    obtain ⟨wx, ⟨ho1, ho2, ho3⟩, hr1, hr2⟩ := h.own x hx
    have hwxm : wx ∈ ws.map Prod.fst := by
      rw [hnode] at ho1
      rcases List.mem_append.1 ho1 with h1 | h1
      · exact h1
      · simp at h1; subst h1; omega
    obtain ⟨f, hf⟩ : ∃ f, ws.getLast? = some f := by
      cases hg : ws.getLast? with
      | some f => exact ⟨f, rfl⟩
      | none =>
        rw [List.getLast?_eq_none_iff] at hg
        subst hg
        simp at hwxm
    have hfm : f.1 ∈ ws.map Prod.fst := List.mem_map.2 ⟨f, List.mem_of_getLast? hf, rfl⟩
    have hlf : low' = updN σ.low f.1 (min (σ.low f.1) (σ.low n)) := by rw [hlow, hf]
    -- f is the last one of those below
    have hlast : ∀ u ∈ ws.map Prod.fst, u = f.1 ∨ (σ.idx u < σ.idx f.1 ∧ Rch succ u f.1) := by
      obtain ⟨ws', rfl⟩ : ∃ ws', ws = ws' ++ [f] := by
        obtain ⟨ws', h1⟩ := List.getLast?_eq_some_iff.1 hf
        exact ⟨ws', h1⟩
      intro u hu
      simp only [List.map_append, List.map_cons, List.map_nil] at hu hwp1
      rw [List.pairwise_append] at hwp1
      rcases List.mem_append.1 hu with hu | hu
      · exact .inr (hwp1.2.2 u hu f.1 (by simp))
      · simp at hu; exact .inl hu
    have hfle : ∀ u ∈ ws.map Prod.fst, σ.idx u ≤ σ.idx f.1 := by
      intro u hu
      rcases hlast u hu with rfl | h1
      · exact Nat.le_refl _
      · exact Nat.le_of_lt h1.1
    have hwxf : Rch succ wx f.1 := by
      rcases hlast wx hwxm with e | h1
      · rw [e]; exact .refl _
      · exact h1.2
    have hnf : Rch succ n f.1 := (hxr.trans hr1).trans hwxf
    have hfn := hwn f.1 hfm
    have hfo : f.1 ∈ σ.nodes := by rw [hnode]; exact List.mem_append_left _ hfm
    rw [e]
    -- owners: of those of n now f
    have hown1 : ∀ v ∈ σ.stk, σ.idx v < σ.idx n → ∀ w, TS.Own ⟨σ.idx, low', σ.cnt, σ.stk, ws, σ.out⟩ v w ↔ σ.Own v w := by
      intro v hv hlt w
      unfold TS.Own
      rw [hnode]
      show (w ∈ ws.map Prod.fst ∧ σ.idx w ≤ σ.idx v ∧ ∀ u ∈ ws.map Prod.fst, σ.idx u ≤ σ.idx v → σ.idx u ≤ σ.idx w) ↔ _
      constructor
      · rintro ⟨h1, h2, h3⟩
        refine ⟨List.mem_append_left _ h1, h2, fun u hu hle => ?_⟩
        rcases List.mem_append.1 hu with hu | hu
        · exact h3 u hu hle
        · simp at hu; subst hu; omega
      · rintro ⟨h1, h2, h3⟩
        rcases List.mem_append.1 h1 with h1 | h1
        · exact ⟨h1, h2, fun u hu hle => h3 u (List.mem_append_left _ hu) hle⟩
        · simp at h1; subst h1; omega
    have hownn : ∀ v ∈ σ.stk, σ.idx n ≤ σ.idx v → σ.Own v n := by
      intro v hv hle
      refine ⟨hnn, hle, fun u hu _ => ?_⟩
      rw [hnode] at hu
      rcases List.mem_append.1 hu with hu | hu
      · exact Nat.le_of_lt (hwn u hu).1
      · simp at hu; subst hu; exact Nat.le_refl _
    have hown2 : ∀ v ∈ σ.stk, σ.idx n ≤ σ.idx v → ∀ w, TS.Own ⟨σ.idx, low', σ.cnt, σ.stk, ws, σ.out⟩ v w → w = f.1 := by
      intro v hv hle w ⟨h1, h2, h3⟩
      have h4 : σ.idx f.1 ≤ σ.idx w := h3 f.1 hfm (by show σ.idx f.1 ≤ σ.idx v; have := hfn.1; omega)
      have h5 := hfle w h1
      exact h.inj w f.1 (by omega) (by have := h.pos (h.wst f.1 hfo); omega)
    refine ⟨h.vis, h.dis, h.le, h.inj, h.inc, ?_, hwp1, h.clo, h.scc, h.nod, ?_, ?_, ?_⟩
    · intro w hm
      exact h.wst w (by rw [hnode]; exact List.mem_append_left _ hm)
    · intro v hv
      by_cases hle : σ.idx n ≤ σ.idx v
      · obtain ⟨w, h1, h2, h3⟩ := h.own v hv
        rw [h.own_one h1 (hownn v hv hle)] at h2 h3
        refine ⟨f.1, ⟨hfm, ?_, fun u hu _ => hfle u hu⟩, h2.trans hnf, hfn.2.trans h3⟩
        show σ.idx f.1 ≤ σ.idx v
        have := hfn.1; omega
      · obtain ⟨w, h1, h2⟩ := h.own v hv
        exact ⟨w, (hown1 v hv (by omega) w).2 h1, h2⟩
    · intro w hm
      replace hm : w ∈ ws.map Prod.fst := hm
      obtain ⟨h1, y, h2, h3, h4⟩ := h.lowi w (by rw [hnode]; exact List.mem_append_left _ hm)
      refine ⟨Nat.le_trans (hll w) h1, ?_⟩
      show ∃ x ∈ σ.stk, σ.idx x = low' w ∧ _
      rw [hlf]
      by_cases hwf : w = f.1
      · subst hwf
        rw [updN_same]
        by_cases hle : σ.low f.1 ≤ σ.low n
        · exact ⟨y, h2, by omega, h4⟩
        · exact ⟨x, hx, by omega, hfn.2.trans hxr⟩
      · rw [updN_ne hwf]
        exact ⟨y, h2, h3, h4⟩
    · intro v hv w hw2 k hk hfk
      have hold : ∀ g ∈ σ.wrk, g.1 = v → k ∉ g.2 := by
        intro g hg he
        rw [hw] at hg
        rcases List.mem_append.1 hg with hg | hg
        · exact hfk g hg he
        · simp at hg; subst hg; simp
      show k ∈ σ.out.flatten ∨ k ∈ σ.stk ∧ low' w ≤ σ.idx k
      by_cases hle : σ.idx n ≤ σ.idx v
      · obtain rfl := hown2 v hv hle w hw2
        rcases h.exp v hv n (hownn v hv hle) k hk hold with h3 | ⟨h3, h4⟩
        · exact .inl h3
        · refine .inr ⟨h3, ?_⟩
          rw [hlf, updN_same]
          omega
      · rcases h.exp v hv w ((hown1 v hv (by omega) w).1 hw2) k hk hold with h3 | ⟨h3, h4⟩
        · exact .inl h3
        · exact .inr ⟨h3, Nat.le_trans (hll w) h4⟩
/-- where nothing is gone through, all that was found is out, in components -/
theorem TInv.done (h : TInv succ σ) (hw : σ.wrk = []) : ∀ v, σ.idx v ≠ 0 ↔ v ∈ σ.out.flatten := by
  intro v
  rw [h.vis v, h.bare hw]
  simp
end
end Go.Proofs.Ytdbpbchhkdconaa

/- How far a node is from another one, in plain words: the document's steps, and paths. Nothing of any program. -/
namespace Go.Proofs.Ytdbpbchhkdconaa

/-- as many different numbers below N as there are: at most N -/
theorem nodup_lenN : ∀ (N : Nat) (l : List Nat), l.Nodup → (∀ x ∈ l, x < N) → l.length ≤ N
  | 0, l, _, h => by
    cases l with
    | nil => exact Nat.le_refl _
    | cons x l => exact absurd (h x (List.mem_cons_self ..)) (by omega)
  | N + 1, l, hn, h => by
    have h1 : (l.filter (fun x => decide (x ≠ N))).length ≤ N := nodup_lenN N _ (hn.sublist List.filter_sublist) (fun x hx => by
      simp only [List.mem_filter, decide_eq_true_eq] at hx
      have := h x hx.1
      omega)
    have h2 : ∀ (l : List Nat), l.Nodup → l.length ≤ (l.filter (fun x => decide (x ≠ N))).length + 1 := by
      intro l hn
      induction l with
      | nil => simp
      | cons y t ih =>
        rw [List.nodup_cons] at hn
        by_cases hy : y = N
        · have ht : t.filter (fun x => decide (x ≠ N)) = t := List.filter_eq_self.2 (fun x hx => by
            simp only [decide_eq_true_eq]
            intro e
            exact hn.1 (by rw [hy, ← e]; exact hx))
          rw [List.filter_cons_of_neg (by simp [hy]), ht]; simp
        · rw [List.filter_cons_of_pos (by simp [hy])]
          have := ih hn.2
          simp only [List.length_cons]
          omega
    have := h2 l hn
    omega

section
variable {has : Nat → Nat → Bool}
/-- a way along edges: its nodes behind the first one -/
def IsWay (has : Nat → Nat → Bool) : Nat → List Nat → Prop
  | _, [] => True
  | a, x :: l => has a x = true ∧ IsWay has x l
def wayEnd : Nat → List Nat → Nat
  | a, [] => a
  | _, x :: l => wayEnd x l
theorem wayEnd_append : ∀ (a : Nat) (l m : List Nat), wayEnd a (l ++ m) = wayEnd (wayEnd a l) m
  | _, [], _ => rfl
  | _, x :: l, m => wayEnd_append x l m
theorem isWay_append : ∀ (a : Nat) (l m : List Nat), IsWay has a (l ++ m) ↔ IsWay has a l ∧ IsWay has (wayEnd a l) m
  | _, [], _ => by simp [IsWay, wayEnd]
  | a, x :: l, m => by
    simp only [List.cons_append, IsWay, wayEnd, isWay_append x l m, and_assoc]
theorem not_nodup : ∀ (l : List Nat), ¬ l.Nodup → ∃ p x q r, l = p ++ x :: (q ++ x :: r)
  | [], h => absurd List.nodup_nil h
  | y :: t, h => by
    by_cases hy : y ∈ t
    · obtain ⟨q, r, rfl⟩ := List.append_of_mem hy
      exact ⟨[], y, q, r, rfl⟩
    · have ht : ¬ t.Nodup := fun ht => h (List.nodup_cons.2 ⟨hy, ht⟩)
      obtain ⟨p, x, q, r, rfl⟩ := not_nodup t ht
      exact ⟨y :: p, x, q, r, rfl⟩
/-- a way without a node twice -/
theorem way_short : ∀ (k : Nat) (a : Nat) (l : List Nat), l.length ≤ k → IsWay has a l → l ≠ [] → ∃ m, m ≠ [] ∧ IsWay has a m ∧ wayEnd a m = wayEnd a l ∧ m.Nodup ∧ m.length ≤ l.length
  | 0, a, l, hk, _, hne => absurd (List.length_eq_zero_iff.1 (by omega)) hne
  | k + 1, a, l, hk, hw, hne => by
    by_cases hn : l.Nodup
    · exact ⟨l, hne, hw, rfl, hn, Nat.le_refl _⟩
    · obtain ⟨p, x, q, r, rfl⟩ := not_nodup l hn
      have e1 : p ++ x :: (q ++ x :: r) = (p ++ [x]) ++ (q ++ [x]) ++ r := by simp
      have e2 : p ++ x :: r = (p ++ [x]) ++ r := by simp
      have ex : ∀ c, wayEnd a (c ++ [x]) = x := fun c => by rw [wayEnd_append]; rfl
      have hw' : IsWay has a (p ++ x :: r) ∧ wayEnd a (p ++ x :: r) = wayEnd a (p ++ x :: (q ++ x :: r)) := by
        rw [e1] at hw
        rw [e1, e2]
        rw [isWay_append] at hw ⊢
        rw [isWay_append] at hw
        have ex2 : wayEnd a (p ++ [x] ++ (q ++ [x])) = x := by rw [← List.append_assoc]; exact ex _
        rw [ex2] at hw
        rw [ex]
        refine ⟨⟨hw.1.1, hw.2⟩, ?_⟩
        rw [wayEnd_append, ex, wayEnd_append, ex2]
      have hlen : (p ++ x :: r).length ≤ k := by simp at hk ⊢; omega
      obtain ⟨m, h1, h2, h3, h4, h5⟩ := way_short k a (p ++ x :: r) hlen hw'.1 (by simp)
      exact ⟨m, h1, h2, h3.trans hw'.2, h4, by simp at h5 ⊢; omega⟩
theorem way_mem : ∀ {a : Nat} {l : List Nat} {N : Nat}, (∀ x y, has x y = true → y < N) → IsWay has a l → ∀ x ∈ l, x < N
  | _, [], _, _, _, x, hx => by cases hx
  | a, y :: l, N, hN, hw, x, hx => by
    rcases List.mem_cons.1 hx with rfl | hx
    · exact hN _ _ hw.1
    · exact way_mem hN hw.2 x hx

/-- the nodes that lie k steps away -/
def stepsN (N : Nat) (has : Nat → Nat → Bool) (a : Nat) : Nat → Nat → Bool
  | 0 => fun y => decide (y = a)
  | k + 1 => fun y => (List.range N).any fun x => stepsN N has a k x && has x y
theorem steps_iff {N : Nat} (hN : ∀ x y, has x y = true → y < N) {a : Nat} (ha : a < N) : ∀ (k y : Nat), stepsN N has a k y = true ↔ ∃ l, l.length = k ∧ IsWay has a l ∧ wayEnd a l = y
  | 0, y => by
    simp only [stepsN, decide_eq_true_eq]
    constructor
    · rintro rfl; exact ⟨[], rfl, trivial, rfl⟩
    · rintro ⟨l, h1, _, h3⟩
      rw [List.length_eq_zero_iff.1 h1] at h3
      exact h3.symm
  | k + 1, y => by
    simp only [stepsN, List.any_eq_true, List.mem_range, Bool.and_eq_true]
    constructor
    · rintro ⟨x, hx, h1, h2⟩
      obtain ⟨l, rfl, h4, rfl⟩ := (steps_iff hN ha k x).1 h1
      exact ⟨l ++ [y], by simp, (isWay_append _ _ _).2 ⟨h4, h2, trivial⟩, by rw [wayEnd_append]; rfl⟩
    · rintro ⟨l, h1, h2, h3⟩
      have hne : l ≠ [] := by intro e; rw [e] at h1; simp at h1
      have hl := List.dropLast_concat_getLast hne
      rw [← hl] at h2 h3
      rw [isWay_append] at h2
      rw [wayEnd_append] at h3
      have h3' : l.getLast hne = y := h3
      have hlt : wayEnd a l.dropLast < N := by
        cases hd : l.dropLast with
        | nil => exact ha
        | cons z t =>
          have hm : wayEnd a (z :: t) ∈ z :: t := by
            clear hd h2 h3 h3' hl h1 hne
            induction t generalizing z with
            | nil => simp [wayEnd]
            | cons u t ih => exact List.mem_cons_of_mem _ (ih u)
          rw [hd] at h2
          exact way_mem hN h2.1 _ hm
      refine ⟨wayEnd a l.dropLast, hlt, (steps_iff hN ha k _).2 ⟨l.dropLast, by simp [h1], h2.1, rfl⟩, ?_⟩
      rw [← h3']
      exact h2.2.1
/-- the least count of steps, from 1 on; 0: there is no way -/
def farN (N : Nat) (has : Nat → Nat → Bool) (a b : Nat) : Nat := (((List.range N).find? fun k => stepsN N has a (k + 1) b).map (· + 1)).getD 0
theorem far_pos {N : Nat} (hN : ∀ x y, has x y = true → y < N) {a b : Nat} (ha : a < N) : 0 < farN N has a b ↔ ∃ l, l ≠ [] ∧ IsWay has a l ∧ wayEnd a l = b := by
  unfold farN
  cases hf : (List.range N).find? fun k => stepsN N has a (k + 1) b with
  | some k =>
    have h1 := List.find?_some hf
    obtain ⟨l, h2, h3, h4⟩ := (steps_iff hN ha (k + 1) b).1 h1
    simp only [Option.map_some, Option.getD_some, Nat.zero_lt_succ, true_iff]
    exact ⟨l, by intro e; rw [e] at h2; simp at h2, h3, h4⟩
  | none =>
    rw [List.find?_eq_none] at hf
    simp only [Option.map_none, Option.getD_none, Nat.lt_irrefl, false_iff]
    rintro ⟨l, h1, h2, h3⟩
    obtain ⟨m, m1, m2, m3, m4, m5⟩ := way_short l.length a l (Nat.le_refl _) h2 h1
    have hlen := nodup_lenN N m m4 (way_mem hN m2)
    have hpos : 0 < m.length := List.length_pos_iff.2 m1
    refine hf (m.length - 1) (by simp; omega) ?_
    exact (steps_iff hN ha _ b).2 ⟨m, by omega, m2, m3.trans h3⟩
/-- ways and what is reached -/
theorem rch_way {succ : Nat → List Nat} (hs : ∀ a b, b ∈ succ a ↔ has a b = true) {a b : Nat} : Rch succ a b ↔ ∃ l, IsWay has a l ∧ wayEnd a l = b := by
  constructor
  · intro h
    induction h with
    | refl a => exact ⟨[], trivial, rfl⟩
    | step h1 _ ih =>
      obtain ⟨l, h2, h3⟩ := ih
      exact ⟨_ :: l, ⟨(hs _ _).1 h1, h2⟩, h3⟩
  · rintro ⟨l, h1, h2⟩
    induction l generalizing a with
    | nil => rw [← h2]; exact .refl _
    | cons x l ih => exact .step ((hs _ _).2 h1.1) (ih h1.2 h2)
end
end Go.Proofs.Ytdbpbchhkdconaa

/- Lists in order without equal ones: there is one of given elements; how one is put in; how equal ones go. Nothing of any program. -/
namespace Go.Proofs.Ytdbpbchhkdconaa

section
variable {α : Type}
/-- an order that tells all elements apart -/
structure Ord1 (lt : α → α → Bool) : Prop where
  irr : ∀ a, lt a a = false
  tr : ∀ {a b c}, lt a b = true → lt b c = true → lt a c = true
  tot : ∀ {a b}, lt a b = false → lt b a = false → a = b
variable {lt : α → α → Bool}
def Strict (lt : α → α → Bool) (l : List α) : Prop := l.Pairwise (fun a b => lt a b = true)
theorem Ord1.asym (o : Ord1 lt) {a b : α} (h : lt a b = true) : lt b a = false := by
  cases hb : lt b a with
  | false => rfl
  | true => have := o.tr h hb; rw [o.irr] at this; cases this
theorem Ord1.ne (o : Ord1 lt) {a b : α} (h : lt a b = true) : a ≠ b := fun e => by rw [e, o.irr] at h; cases h
/-- lists in order with the same elements are the same -/
theorem strict_one (o : Ord1 lt) : ∀ {l m : List α}, Strict lt l → Strict lt m → (∀ x, x ∈ l ↔ x ∈ m) → l = m
  | [], [], _, _, _ => rfl
  | [], b :: m, _, _, h => by have := (h b).2 (List.mem_cons_self ..); cases this
  | a :: l, [], _, _, h => by have := (h a).1 (List.mem_cons_self ..); cases this
  | a :: l, b :: m, hl, hm, h => by
    unfold Strict at hl hm
    rw [List.pairwise_cons] at hl hm
    have hab : a = b := by
      rcases List.mem_cons.1 ((h a).1 (List.mem_cons_self ..)) with e | h1
      · exact e
      · rcases List.mem_cons.1 ((h b).2 (List.mem_cons_self ..)) with e | h2
        · exact e.symm
        · have := o.asym (hm.1 a h1)
          rw [hl.1 b h2] at this; cases this
    subst hab
    rw [strict_one o hl.2 hm.2 fun x => ?_]
    constructor
    · intro hx
      rcases List.mem_cons.1 ((h x).1 (List.mem_cons_of_mem _ hx)) with e | h1
      · exact absurd e.symm (o.ne (hl.1 x hx))
      · exact h1
    · intro hx
      rcases List.mem_cons.1 ((h x).2 (List.mem_cons_of_mem _ hx)) with e | h1
      · exact absurd e.symm (o.ne (hm.1 x hx))
      · exact h1
/-- one more -/
def putO (lt : α → α → Bool) : List α → α → List α
  | [], e => [e]
  | a :: l, e => if lt a e then a :: putO lt l e else if lt e a then e :: a :: l else a :: l
theorem putO_mem (o : Ord1 lt) {x e : α} : ∀ {l : List α}, x ∈ putO lt l e ↔ x ∈ l ∨ x = e
  | [] => by simp [putO]
  | a :: l => by
    unfold putO
    cases h1 : lt a e with
    | true =>
      simp only [if_true, List.mem_cons, putO_mem o (l := l), or_assoc]
    | false =>
      simp only [Bool.false_eq_true, if_false]
      cases h2 : lt e a with
      | true =>
        simp only [if_true, List.mem_cons]
        constructor
        · rintro (h | h)
          · exact .inr h
          · exact .inl h
        · rintro (h | h)
          · exact .inr h
          · exact .inl h
      | false =>
        simp only [Bool.false_eq_true, if_false, List.mem_cons]
        have e1 := o.tot h1 h2
        subst e1
        constructor
        · exact .inl
        · rintro (h | h)
          · exact h
          · exact .inl h
theorem putO_strict (o : Ord1 lt) {e : α} : ∀ {l : List α}, Strict lt l → Strict lt (putO lt l e)
  | [], _ => List.pairwise_singleton _ _
  | a :: l, h => by
    unfold Strict at h
    rw [List.pairwise_cons] at h
    unfold putO
    cases h1 : lt a e with
    | true =>
      simp only [if_true]
      refine List.pairwise_cons.2 ⟨fun x hx => ?_, putO_strict o h.2⟩
      rcases (putO_mem o).1 hx with hx | rfl
      · exact h.1 x hx
      · exact h1
    | false =>
      simp only [Bool.false_eq_true, if_false]
      cases h2 : lt e a with
      | true =>
        simp only [if_true]
        refine List.pairwise_cons.2 ⟨fun x hx => ?_, List.pairwise_cons.2 h⟩
        rcases List.mem_cons.1 hx with rfl | hx
        · exact h2
        · exact o.tr h2 (h.1 x hx)
      | false =>
        simp only [Bool.false_eq_true, if_false]
        exact List.pairwise_cons.2 h
theorem puts_all (o : Ord1 lt) : ∀ (m l : List α), Strict lt l → Strict lt (m.foldl (putO lt) l) ∧ ∀ x, x ∈ m.foldl (putO lt) l ↔ x ∈ l ∨ x ∈ m
  | [], l, h => ⟨h, fun x => by simp⟩
  | e :: m, l, h => by
    obtain ⟨h1, h2⟩ := puts_all o m (putO lt l e) (putO_strict o h)
    refine ⟨h1, fun x => ?_⟩
    show x ∈ m.foldl (putO lt) (putO lt l e) ↔ _
    rw [h2, putO_mem o, List.mem_cons, or_assoc]
/-- equal neighbours are one -/
def compO [DecidableEq α] : List α → List α
  | [] => []
  | [a] => [a]
  | a :: b :: l => if a = b then compO (b :: l) else a :: compO (b :: l)
theorem compO_mem [DecidableEq α] : ∀ (l : List α) (x : α), x ∈ compO l ↔ x ∈ l
  | [], _ => Iff.rfl
  | [a], _ => Iff.rfl
  | a :: b :: l, x => by
    unfold compO
    split
    · rename_i h
      subst h
      rw [compO_mem (a :: l) x]
      simp
    · rw [List.mem_cons, compO_mem (b :: l) x]
      simp
theorem compO_head [DecidableEq α] : ∀ (a : α) (l : List α), ∃ m, compO (a :: l) = a :: m
  | a, [] => ⟨[], rfl⟩
  | a, b :: l => by
    unfold compO
    split
    · rename_i h
      subst h
      exact compO_head a l
    · exact ⟨_, rfl⟩
theorem compO_strict [DecidableEq α] (o : Ord1 lt) : ∀ {l : List α}, l.Pairwise (fun a b => lt b a = false) → Strict lt (compO l)
  | [], _ => .nil
  | [a], _ => List.pairwise_singleton _ _
  | a :: b :: l, h => by
    rw [List.pairwise_cons] at h
    have ih := compO_strict o (l := b :: l) h.2
    unfold compO
    split
    · exact ih
    · rename_i hab
      refine List.pairwise_cons.2 ⟨fun x hx => ?_, ih⟩
      have hx2 := (compO_mem (b :: l) x).1 hx
      have hb := h.1 b (List.mem_cons_self ..)
      have hlt : lt a b = true := by
        cases hh : lt a b with
        | true => rfl
        | false => exact absurd (o.tot hh hb) hab
      rcases List.mem_cons.1 hx2 with rfl | hx3
      · exact hlt
      · have h3 := (List.pairwise_cons.1 h.2).1 x hx3
        cases hbx : lt b x with
        | true => exact o.tr hlt hbx
        | false => rw [← o.tot hbx h3]; exact hlt
/-- sorted and made one: as put in one by one -/
theorem comp_puts [DecidableEq α] (o : Ord1 lt) {l m : List α} (hs : m.Pairwise (fun a b => lt b a = false)) (hp : m.Perm l) : compO m = l.foldl (putO lt) [] := by
  obtain ⟨h1, h2⟩ := puts_all o l [] .nil
  refine strict_one o (compO_strict o hs) h1 fun x => ?_
  rw [compO_mem, hp.mem_iff, h2]
  simp
end
end Go.Proofs.Ytdbpbchhkdconaa

/- Components in plain words: the classes of nodes, in order; how they come out. Nothing of any program. -/
namespace Go.Proofs.Ytdbpbchhkdconaa

section
variable {N : Nat} {tog : Nat → Nat → Bool}
structure EqvN (N : Nat) (tog : Nat → Nat → Bool) : Prop where
  refl : ∀ a, a < N → tog a a = true
  symm : ∀ a b, a < N → b < N → tog a b = true → tog b a = true
  trans : ∀ a b c, a < N → b < N → c < N → tog a b = true → tog b c = true → tog a c = true
def clsN (N : Nat) (tog : Nat → Nat → Bool) (a : Nat) : List Nat := (List.range N).filter (tog a)
def leastN (tog : Nat → Nat → Bool) (a : Nat) : Bool := !((List.range a).any (tog a))
def classes (N : Nat) (tog : Nat → Nat → Bool) : List (List Nat) := ((List.range N).filter (leastN tog)).map (clsN N tog)
theorem cls_mem {a b : Nat} : b ∈ clsN N tog a ↔ b < N ∧ tog a b = true := by simp [clsN]
theorem cls_eq (e : EqvN N tog) {a b : Nat} (ha : a < N) (hb : b < N) (h : tog a b = true) : clsN N tog a = clsN N tog b := by
  unfold clsN
  refine List.filter_congr fun c hc => ?_
  rw [List.mem_range] at hc
  cases h1 : tog a c with
  | true => exact (e.trans b a c hb ha hc (e.symm a b ha hb h) h1).symm
  | false =>
    cases h2 : tog b c with
    | false => rfl
    | true => rw [e.trans a b c ha hb hc h h2] at h1; cases h1
theorem least_iff {a : Nat} : leastN tog a = true ↔ ∀ b, b < a → tog a b = false := by
  simp [leastN]
/-- the first one of a class -/
theorem cls_head (e : EqvN N tog) {a : Nat} (ha : a < N) : ∃ h l, clsN N tog a = h :: l ∧ h < N ∧ tog a h = true ∧ leastN tog h = true ∧ clsN N tog h = clsN N tog a := by
  cases hc : clsN N tog a with
  | nil =>
    have := (cls_mem (N := N) (tog := tog)).2 ⟨ha, e.refl a ha⟩
    rw [hc] at this; cases this
  | cons h l =>
    have hm : h ∈ clsN N tog a := by rw [hc]; exact List.mem_cons_self ..
    obtain ⟨h1, h2⟩ := cls_mem.1 hm
    refine ⟨h, l, rfl, h1, h2, ?_, by rw [← hc]; exact (cls_eq e ha h1 h2).symm⟩
    rw [least_iff]
    intro b hb
    cases hmb : tog h b with
    | false => rfl
    | true =>
      exfalso
      have hmb2 : b ∈ h :: l := by rw [← hc]; exact cls_mem.2 ⟨by omega, e.trans a h b ha h1 (by omega) h2 hmb⟩
      have hp : (h :: l).Pairwise (· < ·) := by
        rw [← hc]; exact List.Pairwise.sublist List.filter_sublist List.pairwise_lt_range
      rw [List.pairwise_cons] at hp
      rcases List.mem_cons.1 hmb2 with rfl | h3
      · omega
      · have := hp.1 b h3; omega
def ltN (a b : Nat) : Bool := decide (a < b)
theorem ord_ltN : Ord1 ltN where
  irr := fun a => by simp [ltN]
  tr := fun h k => by simp [ltN] at *; omega
  tot := fun h k => by simp [ltN] at *; omega
/-- a list of all classes, by their first ones, is this one -/
theorem classes_of (e : EqvN N tog) {L : List (List Nat)} (h1 : ∀ p ∈ L, ∃ a, a < N ∧ p = clsN N tog a) (h2 : ∀ a, a < N → ∃ p ∈ L, a ∈ p) (hs : L.Pairwise (fun p q => p.headD 0 < q.headD 0)) : L = classes N tog := by
  have hh : ∀ p ∈ L, p.headD 0 < N ∧ leastN tog (p.headD 0) = true ∧ p = clsN N tog (p.headD 0) := by
    intro p hp
    obtain ⟨a, ha, rfl⟩ := h1 p hp
    obtain ⟨h, l, e1, e2, -, e4, e5⟩ := cls_head e ha
    have e6 : (clsN N tog a).headD 0 = h := by rw [e1]; rfl
    rw [e6]
    exact ⟨e2, e4, e5.symm⟩
  have hL : L = (L.map (fun p => p.headD 0)).map (clsN N tog) := by
    rw [List.map_map]
    conv => lhs; rw [← List.map_id L]
    refine List.map_congr_left fun p hp => ?_
    exact (hh p hp).2.2
  have hk : L.map (fun p => p.headD 0) = (List.range N).filter (leastN tog) := by
    refine strict_one ord_ltN ?_ ?_ ?_
    · unfold Strict
      rw [List.pairwise_map]
      exact hs.imp fun h => by simpa [ltN] using h
    · exact (List.Pairwise.sublist List.filter_sublist List.pairwise_lt_range).imp fun h => by simpa [ltN] using h
    · intro x
      rw [List.mem_map, List.mem_filter, List.mem_range]
      constructor
      · rintro ⟨p, hp, rfl⟩
        exact ⟨(hh p hp).1, (hh p hp).2.1⟩
      · rintro ⟨hx, hl⟩
        obtain ⟨p, hp, hxp⟩ := h2 x hx
        refine ⟨p, hp, ?_⟩
        obtain ⟨g1, g2, g3⟩ := hh p hp
        rw [g3] at hxp
        obtain ⟨-, hm⟩ := cls_mem.1 hxp
        rw [least_iff] at g2 hl
        rcases Nat.lt_trichotomy (p.headD 0) x with h | h | h
        · have := hl _ h
          rw [e.symm _ _ g1 hx hm] at this; cases this
        · exact h
        · have := g2 _ h
          rw [hm] at this; cases this
  rw [hL, hk]; rfl

/-! ### which class is out next -/
/-- all that a node's class needs besides is out -/
def readyN (edges : List (Nat × Nat)) (tog : Nat → Nat → Bool) (done : Nat → Bool) (a : Nat) : Bool := edges.all (fun e => !(tog a e.1 && (!tog a e.2 && !done e.2)))
def nextN (N : Nat) (edges : List (Nat × Nat)) (tog : Nat → Nat → Bool) (done : Nat → Bool) : Option Nat := (List.range N).find? (fun a => !done a && readyN edges tog done a)
def compsF (N : Nat) (edges : List (Nat × Nat)) (tog : Nat → Nat → Bool) : Nat → (Nat → Bool) → List (List Nat)
  | 0, _ => []
  | f + 1, done => match nextN N edges tog done with
    | none => []
    | some a => clsN N tog a :: compsF N edges tog f (fun b => done b || tog a b)
theorem tog_congr (e : EqvN N tog) {a b c : Nat} (ha : a < N) (hb : b < N) (hc : c < N) (h : tog a b = true) : tog a c = tog b c := by
  cases h1 : tog a c with
  | true => exact (e.trans b a c hb ha hc (e.symm a b ha hb h) h1).symm
  | false =>
    cases h2 : tog b c with
    | false => rfl
    | true => rw [e.trans a b c ha hb hc h h2] at h1; cases h1
theorem ready_congr (e : EqvN N tog) {edges : List (Nat × Nat)} (he : ∀ x ∈ edges, x.1 < N ∧ x.2 < N) {done : Nat → Bool} {a b : Nat} (ha : a < N) (hb : b < N) (h : tog a b = true) : readyN edges tog done a = readyN edges tog done b := by
  unfold readyN
  rw [Bool.eq_iff_iff, List.all_eq_true, List.all_eq_true]
  constructor
  · intro h1 x hx
    have := h1 x hx
    obtain ⟨k1, k2⟩ := he x hx
    rwa [tog_congr e ha hb k1 h, tog_congr e ha hb k2 h] at this
  · intro h1 x hx
    have := h1 x hx
    obtain ⟨k1, k2⟩ := he x hx
    rwa [← tog_congr e ha hb k1 h, ← tog_congr e ha hb k2 h] at this
/-- what is found next is the first one of its class -/
theorem find_least (_e : EqvN N tog) {p : Nat → Bool} (hp : ∀ a b, a < N → b < N → tog a b = true → p a = p b) : ((List.range N).filter (leastN tog)).find? p = (List.range N).find? p := by
  cases h1 : (List.range N).find? p with
  | none =>
    rw [List.find?_eq_none] at h1 ⊢
    exact fun x hx => h1 x ((List.mem_filter.1 hx).1)
  | some a =>
    rw [List.find?_range_eq_some] at h1
    obtain ⟨h2, h3, h4⟩ := h1
    rw [List.mem_range] at h3
    have hl : leastN tog a = true := by
      rw [least_iff]
      intro b hb
      cases hm : tog a b with
      | false => rfl
      | true =>
        have := h4 b hb
        rw [← hp a b h3 (by omega) hm, h2] at this
        simp at this
    rw [List.find?_filter]
    rw [List.find?_range_eq_some]
    refine ⟨by simp [hl, h2], by simpa using h3, fun j hj => ?_⟩
    have := h4 j hj
    simp at this ⊢
    exact .inr this
end
end Go.Proofs.Ytdbpbchhkdconaa

/- Which nodes belong together, by ways; Tarjan's parts are the classes; which class is next. Nothing of any program. -/
namespace Go.Proofs.Ytdbpbchhkdconaa

section
variable {N : Nat} {has : Nat → Nat → Bool} {succ : Nat → List Nat}
/-- the document's word for nodes that belong together -/
def togN (N : Nat) (has : Nat → Nat → Bool) (a b : Nat) : Bool :=
  (decide (a < N) && decide (b < N)) && (decide (a = b) || (decide (0 < farN N has a b) && decide (0 < farN N has b a)))
theorem rch_far (hN : ∀ x y, has x y = true → y < N) (hs : ∀ a b, b ∈ succ a ↔ has a b = true) {a b : Nat} (ha : a < N) : Rch succ a b ↔ a = b ∨ 0 < farN N has a b := by
  rw [rch_way hs, far_pos hN ha]
  constructor
  · rintro ⟨l, h1, h2⟩
    cases l with
    | nil => exact .inl h2
    | cons x l => exact .inr ⟨x :: l, by simp, h1, h2⟩
  · rintro (rfl | ⟨l, -, h1, h2⟩)
    · exact ⟨[], trivial, rfl⟩
    · exact ⟨l, h1, h2⟩
theorem tog_iff (hN : ∀ x y, has x y = true → y < N) (hs : ∀ a b, b ∈ succ a ↔ has a b = true) {a b : Nat} (ha : a < N) (hb : b < N) : togN N has a b = true ↔ Rch succ a b ∧ Rch succ b a := by
  rw [rch_far hN hs ha, rch_far hN hs hb]
  simp only [togN, ha, hb, decide_true, Bool.true_and, Bool.or_eq_true, decide_eq_true_eq, Bool.and_eq_true]
  constructor
  · rintro (h | ⟨h1, h2⟩)
    · exact ⟨.inl h, .inl h.symm⟩
    · exact ⟨.inr h1, .inr h2⟩
  · rintro ⟨h1 | h1, h2⟩
    · exact .inl h1
    · rcases h2 with h2 | h2
      · exact .inl h2.symm
      · exact .inr ⟨h1, h2⟩
theorem tog_eqv (hN : ∀ x y, has x y = true → y < N) (hs : ∀ a b, b ∈ succ a ↔ has a b = true) : EqvN N (togN N has) where
  refl a ha := (tog_iff hN hs ha ha).2 ⟨.refl _, .refl _⟩
  symm a b ha hb h := by
    have h := (tog_iff hN hs ha hb).1 h
    exact (tog_iff hN hs hb ha).2 ⟨h.2, h.1⟩
  trans a b c ha hb hc h k := by
    have h := (tog_iff hN hs ha hb).1 h
    have k := (tog_iff hN hs hb hc).1 k
    exact (tog_iff hN hs ha hc).2 ⟨h.1.trans k.1, k.2.trans h.2⟩

/-- two lists that go up and hold the same are one -/
theorem up_ext : ∀ {l m : List Nat}, l.Pairwise (· < ·) → m.Pairwise (· < ·) → (∀ x, x ∈ l ↔ x ∈ m) → l = m
  | [], [], _, _, _ => rfl
  | [], y :: m, _, _, h => absurd ((h y).2 (List.mem_cons_self ..)) (by simp)
  | x :: l, [], _, _, h => absurd ((h x).1 (List.mem_cons_self ..)) (by simp)
  | x :: l, y :: m, hl, hm, h => by
    rw [List.pairwise_cons] at hl hm
    have hxy : x = y := by
      rcases List.mem_cons.1 ((h x).1 (List.mem_cons_self ..)) with h1 | h1
      · exact h1
      · rcases List.mem_cons.1 ((h y).2 (List.mem_cons_self ..)) with h2 | h2
        · exact h2.symm
        · have := hl.1 y h2; have := hm.1 x h1; omega
    subst hxy
    have : l = m := up_ext hl.2 hm.2 (fun z => by
      constructor
      · intro hz
        rcases List.mem_cons.1 ((h z).1 (List.mem_cons_of_mem _ hz)) with h1 | h1
        · have := hl.1 z hz; omega
        · exact h1
      · intro hz
        rcases List.mem_cons.1 ((h z).2 (List.mem_cons_of_mem _ hz)) with h1 | h1
        · have := hm.1 z hz; omega
        · exact h1)
    rw [this]
theorem range_up (N : Nat) : (List.range N).Pairwise (· < ·) := List.pairwise_lt_range
/-- a part that Tarjan's way has put out, put in order, is a class -/
theorem part_class (hN : ∀ x y, has x y = true → y < N) (hs : ∀ a b, b ∈ succ a ↔ has a b = true) {σ : TS} (h : TInv succ σ) (hin : ∀ v ∈ σ.out.flatten, v < N) {p q : List Nat} (hp : p ∈ σ.out) (hq : q.Pairwise (· < ·)) (hm : ∀ x, x ∈ q ↔ x ∈ p) {a : Nat} (ha : a ∈ p) : q = clsN N (togN N has) a := by
  have hpN : ∀ x ∈ p, x < N := fun x hx => hin x (List.mem_flatten.2 ⟨p, hp, hx⟩)
  refine up_ext hq ((range_up N).sublist List.filter_sublist) (fun x => ?_)
  rw [hm, cls_mem, (h.scc p hp).2 a ha x]
  constructor
  · intro hr
    have hx : x < N := hpN x (((h.scc p hp).2 a ha x).2 hr)
    exact ⟨hx, (tog_iff hN hs (hpN a ha) hx).2 hr⟩
  · rintro ⟨hx, ht⟩
    exact (tog_iff hN hs (hpN a ha) hx).1 ht
/-- the class of a least node begins with it -/
theorem cls_least {tog : Nat → Nat → Bool} (e : EqvN N tog) {a : Nat} (ha : a < N) (hl : leastN tog a = true) : (clsN N tog a).headD 0 = a := by
  obtain ⟨h, l, h1, h2, h3, h4, -⟩ := cls_head e ha
  rw [h1]
  show h = a
  have k1 := least_iff.1 hl
  have k2 := least_iff.1 h4
  rcases Nat.lt_trichotomy h a with hlt | heq | hgt
  · rw [k1 h hlt] at h3; cases h3
  · exact heq
  · have := e.symm a h ha h2 h3
    rw [k2 a hgt] at this; cases this
theorem find_congr {α : Type} {p q : α → Bool} : ∀ (l : List α), (∀ a ∈ l, p a = q a) → l.find? p = l.find? q
  | [], _ => rfl
  | x :: l, h => by
    rw [List.find?_cons, List.find?_cons, h x (List.mem_cons_self ..), find_congr l (fun a ha => h a (List.mem_cons_of_mem _ ha))]
/-- the first class that is ready is the least node's that is -/
theorem next_class {tog : Nat → Nat → Bool} (e : EqvN N tog) {p : Nat → Bool} (hp : ∀ a b, a < N → b < N → tog a b = true → p a = p b) : (classes N tog).find? (fun c => p (c.headD 0)) = ((List.range N).find? p).map (clsN N tog) := by
  rw [← find_least e hp, classes, List.find?_map]
  congr 1
  refine find_congr _ (fun a ha => ?_)
  simp only [List.mem_filter, List.mem_range] at ha
  show p ((clsN N tog a).headD 0) = p a
  rw [cls_least e ha.1 ha.2]
end
end Go.Proofs.Ytdbpbchhkdconaa

/- Tarjan's way: what is found lies below N; a measure of the rounds. Nothing of any program. -/
namespace Go.Proofs.Ytdbpbchhkdconaa

section
variable {N : Nat} {succ : Nat → List Nat} {σ : TS}
/-- what was found: so many different nodes below N -/
def TIn (N : Nat) (σ : TS) : Prop := ∃ f : List Nat, f.Nodup ∧ (∀ v, σ.idx v ≠ 0 ↔ v ∈ f) ∧ (∀ v ∈ f, v < N) ∧ f.length = σ.cnt
theorem TIn.zero : TIn N TS.zero := ⟨[], List.nodup_nil, fun v => by simp [TS.zero], fun v h => absurd h (by simp), rfl⟩
theorem TIn.lt (h : TIn N σ) {v : Nat} (hv : σ.idx v ≠ 0) : v < N := by
  obtain ⟨f, -, h2, h3, -⟩ := h
  exact h3 v ((h2 v).1 hv)
theorem TIn.most (h : TIn N σ) : σ.cnt ≤ N := by
  obtain ⟨f, h1, -, h3, h4⟩ := h
  rw [← h4]
  exact nodup_lenN N f h1 h3
/-- while a node below N is not found, fewer than N are -/
theorem TIn.room (h : TIn N σ) {k : Nat} (hk : k < N) (h0 : σ.idx k = 0) : σ.cnt < N := by
  obtain ⟨f, h1, h2, h3, h4⟩ := h
  have hkf : k ∉ f := fun hm => (h2 k).2 hm h0
  have := nodup_lenN N (k :: f) (List.nodup_cons.2 ⟨hkf, h1⟩) (fun x hx => by
    rcases List.mem_cons.1 hx with rfl | hx
    · exact hk
    · exact h3 x hx)
  simp at this
  omega
theorem TIn.enter (h : TIn N σ) {k : Nat} (hk : k < N) (h0 : σ.idx k = 0) (ws : List (Nat × List Nat)) : TIn N (σ.enter succ ws k) := by
  obtain ⟨f, h1, h2, h3, h4⟩ := h
  have hkf : k ∉ f := fun hm => (h2 k).2 hm h0
  refine ⟨k :: f, List.nodup_cons.2 ⟨hkf, h1⟩, fun v => ?_, fun v hv => ?_, by simp [TS.enter, h4]⟩
  · show updN σ.idx k (σ.cnt + 1) v ≠ 0 ↔ _
    by_cases hv : v = k
    · subst hv
      rw [updN_same]; simp
    · rw [updN_ne hv, h2, List.mem_cons]
      exact ⟨.inr, fun h => by
        rcases h with h | h
        · exact absurd h hv
        · exact h⟩
  · rcases List.mem_cons.1 hv with rfl | hv
    · exact hk
    · exact h3 v hv
theorem TIn.pass (h : TIn N σ) (ws : List (Nat × List Nat)) (n k : Nat) (rest : List Nat) : TIn N (σ.pass ws n k rest) := h
theorem TIn.leave (h : TIn N σ) (ws : List (Nat × List Nat)) (n : Nat) : TIn N (σ.leave ws n) := by
  unfold TS.leave
  dsimp only
  split
  · exact h
  · exact h
/-- what the rounds of the way use up -/
def roundsN (N : Nat) (σ : TS) : Nat := 2 * (N - σ.cnt) + σ.wrk.length
theorem rounds_enter (h : TIn N σ) {k : Nat} (hk : k < N) (h0 : σ.idx k = 0) {ws : List (Nat × List Nat)} (hw : ws.length = σ.wrk.length) : roundsN N (σ.enter succ ws k) < roundsN N σ := by
  have := h.room hk h0
  simp only [roundsN, TS.enter, List.length_append, List.length_cons, List.length_nil, hw]
  omega
theorem rounds_leave {ws : List (Nat × List Nat)} {n : Nat} {r : List Nat} (hw : σ.wrk = ws ++ [(n, r)]) : roundsN N (σ.leave ws n) < roundsN N σ := by
  have h1 : (σ.leave ws n).cnt = σ.cnt ∧ (σ.leave ws n).wrk = ws := by
    unfold TS.leave
    dsimp only
    split <;> exact ⟨rfl, rfl⟩
  simp only [roundsN, h1.1, h1.2, hw, List.length_append, List.length_cons, List.length_nil]
  omega
/-- at the end, with all nodes found: the parts hold the nodes below N, each one -/
theorem parts_all (h : TInv succ σ) (hi : TIn N σ) (hw : σ.wrk = []) (hall : ∀ v, v < N → σ.idx v ≠ 0) (v : Nat) : v ∈ σ.out.flatten ↔ v < N := by
  rw [← h.done hw v]
  exact ⟨hi.lt, hall v⟩
/-- the parts, each in order, put in order by their first ones, are the classes -/
theorem parts_classes {has : Nat → Nat → Bool} (hN : ∀ x y, has x y = true → y < N) (hs : ∀ a b, b ∈ succ a ↔ has a b = true) (h : TInv succ σ) (hi : TIn N σ) (hw : σ.wrk = []) (hall : ∀ v, v < N → σ.idx v ≠ 0) {L : List (List Nat)}
    (h1 : ∀ q ∈ L, q.Pairwise (· < ·) ∧ ∃ p ∈ σ.out, ∀ x, x ∈ q ↔ x ∈ p) (h2 : ∀ p ∈ σ.out, ∃ q ∈ L, ∀ x, x ∈ q ↔ x ∈ p) (hord : L.Pairwise (fun p q => p.headD 0 < q.headD 0)) : L = classes N (togN N has) := by
  have hin : ∀ v ∈ σ.out.flatten, v < N := fun v hv => (parts_all h hi hw hall v).1 hv
  refine classes_of (tog_eqv hN hs) ?_ ?_ hord
  · intro q hq
    obtain ⟨hup, p, hp, hm⟩ := h1 q hq
    obtain ⟨a, ha⟩ := List.exists_mem_of_ne_nil p (h.scc p hp).1
    exact ⟨a, hin a (List.mem_flatten.2 ⟨p, hp, ha⟩), part_class hN hs h hin hp hup hm ha⟩
  · intro a ha
    obtain ⟨p, hp, hap⟩ := List.mem_flatten.1 ((parts_all h hi hw hall a).2 ha)
    obtain ⟨q, hq, hm⟩ := h2 p hp
    exact ⟨q, hq, (hm a).2 hap⟩
end
end Go.Proofs.Ytdbpbchhkdconaa

/- The order in which components come out, in plain words. Nothing of any program. -/
namespace Go.Proofs.Ytdbpbchhkdconaa

section
variable {N : Nat} {tog : Nat → Nat → Bool} {edges : List (Nat × Nat)}
/-- a set of nodes that holds whole classes -/
def Whole (N : Nat) (tog : Nat → Nat → Bool) (done : Nat → Bool) : Prop := ∀ a b, a < N → b < N → tog a b = true → done a = done b
theorem Whole.with (e : EqvN N tog) {done : Nat → Bool} (h : Whole N tog done) {c : Nat} (hc : c < N) : Whole N tog (fun b => done b || tog c b) := by
  intro a b ha hb hab
  show (done a || tog c a) = (done b || tog c b)
  rw [h a b ha hb hab]
  congr 1
  cases h1 : tog c a with
  | true => exact (e.trans c a b hc ha hb h1 hab).symm
  | false =>
    cases h2 : tog c b with
    | false => rfl
    | true => rw [e.trans c b a hc hb ha h2 (e.symm a b ha hb hab)] at h1; cases h1
theorem ready_whole (e : EqvN N tog) (he : ∀ x ∈ edges, x.1 < N ∧ x.2 < N) {done : Nat → Bool} (h : Whole N tog done) : ∀ a b, a < N → b < N → tog a b = true → (!done a && readyN edges tog done a) = (!done b && readyN edges tog done b) := by
  intro a b ha hb hab
  rw [h a b ha hb hab, ready_congr e he ha hb hab]
/-- the program's way: of the classes, in order, the first that is not out and is ready -/
def emitP (L : List (List Nat)) (edges : List (Nat × Nat)) (tog : Nat → Nat → Bool) : Nat → (Nat → Bool) → List (List Nat)
  | 0, _ => []
  | f + 1, done => match L.find? (fun c => !done (c.headD 0) && readyN edges tog done (c.headD 0)) with
    | none => []
    | some c => c :: emitP L edges tog f (fun b => done b || decide (b ∈ c))
theorem emit_comps (e : EqvN N tog) (he : ∀ x ∈ edges, x.1 < N ∧ x.2 < N) : ∀ (f : Nat) (done : Nat → Bool) (done' : Nat → Bool), Whole N tog done → (∀ a, a < N → done' a = done a) → emitP (classes N tog) edges tog f done' = compsF N edges tog f done
  | 0, _, _, _, _ => rfl
  | f + 1, done, done', h, hd => by
    have hr : ∀ a, readyN edges tog done' a = readyN edges tog done a := fun a => by
      unfold readyN
      rw [Bool.eq_iff_iff, List.all_eq_true, List.all_eq_true]
      constructor <;> intro k x hx
      · have := k x hx
        rwa [hd _ (he x hx).2] at this
      · have := k x hx
        rwa [hd _ (he x hx).2]
    have hfc : (classes N tog).find? (fun c => !done' (c.headD 0) && readyN edges tog done' (c.headD 0)) = (nextN N edges tog done).map (clsN N tog) := by
      rw [nextN, ← next_class e (ready_whole e he h)]
      refine find_congr _ (fun c hc => ?_)
      simp only [classes, List.mem_map, List.mem_filter, List.mem_range] at hc
      obtain ⟨a, ⟨ha, hl⟩, rfl⟩ := hc
      rw [cls_least e ha hl, hr, hd a ha]
    rw [emitP, compsF, hfc]
    cases hn : nextN N edges tog done with
    | none => rfl
    | some a =>
      have ha : a < N := by
        have := List.mem_of_find?_eq_some hn
        simpa using this
      show clsN N tog a :: _ = clsN N tog a :: _
      rw [emit_comps e he f (fun b => done b || tog a b) (fun b => done' b || decide (b ∈ clsN N tog a)) (h.with e ha) (fun b hb => by
        show (done' b || decide (b ∈ clsN N tog a)) = (done b || tog a b)
        rw [hd b hb]
        congr 1
        rw [Bool.eq_iff_iff, decide_eq_true_eq, cls_mem]
        exact ⟨fun h => h.2, fun h => ⟨hb, h⟩⟩)]
/-- how many classes are not out -/
def left (N : Nat) (tog : Nat → Nat → Bool) (done : Nat → Bool) : Nat := ((List.range N).filter (fun a => leastN tog a && !done a)).length
theorem filter_less {α : Type} {p q : α → Bool} : ∀ (l : List α), (∀ a ∈ l, q a = true → p a = true) → (l.filter q).length ≤ (l.filter p).length
  | [], _ => Nat.le_refl _
  | x :: l, h => by
    have ih := filter_less l (fun a ha => h a (List.mem_cons_of_mem _ ha))
    cases hq : q x with
    | true => rw [List.filter_cons_of_pos hq, List.filter_cons_of_pos (h x (List.mem_cons_self ..) hq)]; simp; exact ih
    | false =>
      rw [List.filter_cons_of_neg (by simp [hq])]
      cases hp : p x with
      | true => rw [List.filter_cons_of_pos hp]; simp; omega
      | false => rw [List.filter_cons_of_neg (by simp [hp])]; exact ih
theorem filter_lt {α : Type} {p q : α → Bool} : ∀ (l : List α), (∀ a ∈ l, q a = true → p a = true) → (∃ a ∈ l, p a = true ∧ q a = false) → (l.filter q).length < (l.filter p).length
  | [], _, h => by obtain ⟨a, ha, _⟩ := h; cases ha
  | x :: l, h, hx => by
    have hl : ∀ a ∈ l, q a = true → p a = true := fun a ha => h a (List.mem_cons_of_mem _ ha)
    by_cases hxx : p x = true ∧ q x = false
    · rw [List.filter_cons_of_pos hxx.1, List.filter_cons_of_neg (by simp [hxx.2])]
      have := filter_less l hl
      simp; omega
    · have ih := filter_lt l hl (by
        obtain ⟨a, ha, h1⟩ := hx
        rcases List.mem_cons.1 ha with rfl | ha
        · exact absurd h1 hxx
        · exact ⟨a, ha, h1⟩)
      cases hq : q x with
      | true => rw [List.filter_cons_of_pos hq, List.filter_cons_of_pos (h x (List.mem_cons_self ..) hq)]; simp; exact ih
      | false =>
        rw [List.filter_cons_of_neg (by simp [hq])]
        cases hp : p x with
        | true => exact absurd ⟨hp, hq⟩ hxx
        | false => rw [List.filter_cons_of_neg (by simp [hp])]; exact ih
theorem left_less (e : EqvN N tog) {done : Nat → Bool} (h : Whole N tog done) {a : Nat} (ha : a < N) (hd : done a = false) : left N tog (fun b => done b || tog a b) < left N tog done := by
  obtain ⟨h0, l, -, k1, k2, k3, -⟩ := cls_head e ha
  refine filter_lt _ (fun x _ hx => ?_) ⟨h0, by simpa using k1, ?_, ?_⟩
  · simp only [Bool.and_eq_true, Bool.not_eq_true', Bool.or_eq_false_iff] at hx ⊢
    exact ⟨hx.1, hx.2.1⟩
  · rw [k3, ← h a h0 ha k1 k2, hd]; rfl
  · show (leastN tog h0 && !(done h0 || tog a h0)) = false
    rw [k3, k2]; simp
theorem left_none (e : EqvN N tog) {done : Nat → Bool} (h : Whole N tog done) (h0 : left N tog done = 0) {a : Nat} (ha : a < N) : done a = true := by
  obtain ⟨h1, l, -, k1, k2, k3, -⟩ := cls_head e ha
  cases hd : done a with
  | true => rfl
  | false =>
    exfalso
    have hm : h1 ∈ (List.range N).filter (fun a => leastN tog a && !done a) := by
      simp only [List.mem_filter, List.mem_range, k1, true_and, k3, Bool.true_and]
      rw [← h a h1 ha k1 k2, hd]; rfl
    rw [List.length_eq_zero_iff.1 h0] at hm
    cases hm
/-- with steps enough, one more changes nothing -/
theorem comps_more (e : EqvN N tog) : ∀ (f : Nat) (done : Nat → Bool), Whole N tog done → left N tog done ≤ f → compsF N edges tog (f + 1) done = compsF N edges tog f done
  | f, done, h, hf => by
    rw [compsF]
    cases hn : nextN N edges tog done with
    | none =>
      cases f with
      | zero => rfl
      | succ f => rw [compsF, hn]
    | some a =>
      have ha : a < N := by
        have := List.mem_of_find?_eq_some hn
        simpa using this
      have hd : done a = false := by
        have := List.find?_some hn
        simp at this
        exact this.1
      cases f with
      | zero => rw [left_none e h (by omega) ha] at hd; cases hd
      | succ f =>
        have ih := comps_more e f _ (h.with e ha) (by have := left_less e h ha hd; omega)
        show clsN N tog a :: compsF N edges tog (f + 1) (fun b => done b || tog a b) = compsF N edges tog (f + 1) done
        rw [ih]
        conv => rhs; rw [compsF, hn]
end
end Go.Proofs.Ytdbpbchhkdconaa

/- All components come out; an edge leads within one or to an earlier one. Nothing of any program. -/
namespace Go.Proofs.Ytdbpbchhkdconaa

section
variable {N : Nat} {tog : Nat → Nat → Bool} {edges : List (Nat × Nat)}
/-- a least element by a count -/
theorem least_count {p : Nat → Prop} (m : Nat → Nat) : ∀ (k a : Nat), m a ≤ k → p a → ∃ b, p b ∧ ∀ c, p c → m b ≤ m c
  | 0, a, h, ha => ⟨a, ha, fun c _ => by omega⟩
  | k + 1, a, h, ha => by
    by_cases hx : ∃ c, p c ∧ m c < m a
    · obtain ⟨c, hc, hlt⟩ := hx
      exact least_count m k c (by omega) hc
    · exact ⟨a, ha, fun c hc => by
        have : ¬ m c < m a := fun hlt => hx ⟨c, hc, hlt⟩
        omega⟩
/-- while a node is not out, some is ready -/
theorem next_some {has : Nat → Nat → Bool} (hN : ∀ x y, has x y = true → y < N) (he : ∀ x ∈ edges, x.1 < N ∧ x.2 < N ∧ has x.1 x.2 = true) {done : Nat → Bool} (_h : Whole N (togN N has) done) {a : Nat} (ha : a < N) (hd : done a = false) : (nextN N edges (togN N has) done).isSome = true := by
  let succ : Nat → List Nat := fun x => (List.range N).filter (has x)
  have hs : ∀ a b, b ∈ succ a ↔ has a b = true := fun a b => by
    simp only [succ, List.mem_filter, List.mem_range]
    exact ⟨fun h => h.2, fun h => ⟨hN _ _ h, h⟩⟩
  let rb : Nat → Nat → Bool := fun a b => decide (a = b) || decide (0 < farN N has a b)
  have hrb : ∀ a, a < N → ∀ b, rb a b = true ↔ Rch succ a b := fun a ha b => by
    rw [rch_far hN hs ha]; simp [rb]
  obtain ⟨b, ⟨hb, hbd⟩, hmin⟩ := least_count (p := fun a => a < N ∧ done a = false) (fun a => ((List.range N).filter (rb a)).length) _ a (Nat.le_refl _) ⟨ha, hd⟩
  have hready : readyN edges (togN N has) done b = true := by
    unfold readyN
    rw [List.all_eq_true]
    intro x hx
    obtain ⟨hx1, hx2, hxe⟩ := he x hx
    cases ht1 : togN N has b x.1 with
    | false => rfl
    | true =>
      cases ht2 : togN N has b x.2 with
      | true => rfl
      | false =>
        cases hdx : done x.2 with
        | true => rfl
        | false =>
          exfalso
          have r1 := (tog_iff hN hs hb hx1).1 ht1
          have r2 : Rch succ b x.2 := r1.1.trans (Rch.one ((hs _ _).2 hxe))
          have hnot : ¬ Rch succ x.2 b := fun r3 => by
            rw [(tog_iff hN hs hb hx2).2 ⟨r2, r3⟩] at ht2; cases ht2
          have hlt := filter_lt (p := rb b) (q := rb x.2) (List.range N) (fun c _ hc => (hrb b hb c).2 (r2.trans ((hrb x.2 hx2 c).1 hc))) ⟨b, by simpa using hb, (hrb b hb b).2 (.refl _), by
            cases hq : rb x.2 b with
            | false => rfl
            | true => exact absurd ((hrb x.2 hx2 b).1 hq) hnot⟩
          have := hmin x.2 ⟨hx2, hdx⟩
          omega
  unfold nextN
  rw [List.find?_isSome]
  exact ⟨b, by simpa using hb, by simp [hbd, hready]⟩
/-- what comes out: classes of what was not out -/
theorem comps_cls : ∀ (f : Nat) (done : Nat → Bool), ∀ c ∈ compsF N edges tog f done, ∃ a, a < N ∧ done a = false ∧ c = clsN N tog a
  | 0, _, c, hc => by cases hc
  | f + 1, done, c, hc => by
    rw [compsF] at hc
    cases hn : nextN N edges tog done with
    | none => rw [hn] at hc; cases hc
    | some a =>
      rw [hn] at hc
      have ha : a < N := by
        have := List.mem_of_find?_eq_some hn
        simpa using this
      have hd : done a = false := by
        have := List.find?_some hn
        simp at this
        exact this.1
      rcases List.mem_cons.1 hc with rfl | hc
      · exact ⟨a, ha, hd, rfl⟩
      · obtain ⟨b, h1, h2, h3⟩ := comps_cls f _ c hc
        simp only [Bool.or_eq_false_iff] at h2
        exact ⟨b, h1, h2.1, h3⟩
/-- an edge out of what comes out leads within it, or to what was out earlier -/
theorem comps_edge (e : EqvN N tog) : ∀ (f : Nat) (done : Nat → Bool) (l1 : List (List Nat)) (c : List Nat) (l2 : List (List Nat)), compsF N edges tog f done = l1 ++ c :: l2 → ∀ x ∈ edges, x.1 < N → x.2 < N → x.1 ∈ c → x.2 ∈ c ∨ done x.2 = true ∨ ∃ c' ∈ l1, x.2 ∈ c'
  | 0, _, l1, c, l2, h, _, _, _, _, _ => by
    have := congrArg List.length h
    simp [compsF] at this
  | f + 1, done, l1, c, l2, h, x, hx, h1, h2, hm => by
    rw [compsF] at h
    cases hn : nextN N edges tog done with
    | none =>
      rw [hn] at h
      have := congrArg List.length h
      simp at this
    | some a =>
      rw [hn] at h
      have ha : a < N := by
        have := List.mem_of_find?_eq_some hn
        simpa using this
      have hr : readyN edges tog done a = true := by
        have := List.find?_some hn
        simp at this
        exact this.2
      cases l1 with
      | nil =>
        have hc : c = clsN N tog a := by
          have := (List.cons.inj h).1
          exact this.symm
        subst hc
        have ht := (cls_mem.1 hm).2
        unfold readyN at hr
        rw [List.all_eq_true] at hr
        have hrx := hr x hx
        rw [ht] at hrx
        cases ht2 : tog a x.2 with
        | true => exact .inl (cls_mem.2 ⟨h2, ht2⟩)
        | false =>
          rw [ht2] at hrx
          cases hdx : done x.2 with
          | true => exact .inr (.inl rfl)
          | false => rw [hdx] at hrx; cases hrx
      | cons y l1 =>
        obtain ⟨hy, ht⟩ := List.cons.inj h
        rcases comps_edge e f _ l1 c l2 ht x hx h1 h2 hm with h3 | h3 | ⟨c', h3, h4⟩
        · exact .inl h3
        · simp only [Bool.or_eq_true] at h3
          rcases h3 with h3 | h3
          · exact .inr (.inl h3)
          · exact .inr (.inr ⟨y, List.mem_cons_self .., by rw [← hy]; exact cls_mem.2 ⟨h2, h3⟩⟩)
        · exact .inr (.inr ⟨c', List.mem_cons_of_mem _ h3, h4⟩)
/-- all come out -/
theorem comps_all {has : Nat → Nat → Bool} (hN : ∀ x y, has x y = true → y < N) (he : ∀ x ∈ edges, x.1 < N ∧ x.2 < N ∧ has x.1 x.2 = true) (e : EqvN N (togN N has)) : ∀ (f : Nat) (done : Nat → Bool), Whole N (togN N has) done → left N (togN N has) done ≤ f → ∀ a, a < N → done a = true ∨ ∃ c ∈ compsF N edges (togN N has) f done, a ∈ c
  | 0, done, h, hf, a, ha => .inl (left_none e h (by omega) ha)
  | f + 1, done, h, hf, a, ha => by
    cases hd : done a with
    | true => exact .inl rfl
    | false =>
      right
      have hs := next_some hN he h ha hd
      obtain ⟨b, hb⟩ := Option.isSome_iff_exists.1 hs
      have hbN : b < N := by
        have := List.mem_of_find?_eq_some hb
        simpa using this
      have hbd : done b = false := by
        have := List.find?_some hb
        simp at this
        exact this.1
      rw [compsF, hb]
      rcases comps_all hN he e f _ (h.with e hbN) (by have := left_less e h hbN hbd; omega) a ha with h1 | ⟨c, h1, h2⟩
      · simp only [hd, Bool.false_or] at h1
        exact ⟨clsN N (togN N has) b, List.mem_cons_self .., cls_mem.2 ⟨ha, h1⟩⟩
      · exact ⟨c, List.mem_cons_of_mem _ h1, h2⟩
end
end Go.Proofs.Ytdbpbchhkdconaa

/- The graph the other way round. Nothing of any program. -/
namespace Go.Proofs.Ytdbpbchhkdconaa

theorem rch_back {succ succ' : Nat → List Nat} (h : ∀ a b, b ∈ succ' a ↔ a ∈ succ b) {a b : Nat} (k : Rch succ' a b) : Rch succ b a := by
  induction k with
  | refl a => exact .refl a
  | step h1 _ ih => exact ih.trans (Rch.one ((h _ _).1 h1))
theorem rch_turn {succ succ' : Nat → List Nat} (h : ∀ a b, b ∈ succ' a ↔ a ∈ succ b) {a b : Nat} : Rch succ' a b ↔ Rch succ b a :=
  ⟨rch_back h, rch_back (fun a b => (h b a).symm)⟩
/-- nodes that belong together do so the other way round -/
theorem tog_turn {N : Nat} {has has' : Nat → Nat → Bool} (hN : ∀ x y, has x y = true → x < N ∧ y < N) (ht : ∀ x y, has' x y = has y x) (a b : Nat) : togN N has' a b = togN N has a b := by
  by_cases hab : a < N ∧ b < N
  · obtain ⟨ha, hb⟩ := hab
    let succ : Nat → List Nat := fun x => (List.range N).filter (has x)
    let succ' : Nat → List Nat := fun x => (List.range N).filter (has' x)
    have hs : ∀ a b, b ∈ succ a ↔ has a b = true := fun a b => by
      simp only [succ, List.mem_filter, List.mem_range]
      exact ⟨fun h => h.2, fun h => ⟨(hN _ _ h).2, h⟩⟩
    have hs' : ∀ a b, b ∈ succ' a ↔ has' a b = true := fun a b => by
      simp only [succ', List.mem_filter, List.mem_range]
      exact ⟨fun h => h.2, fun h => ⟨(hN _ _ (by rwa [← ht])).1, h⟩⟩
    have hN1 : ∀ x y, has x y = true → y < N := fun x y h => (hN x y h).2
    have hN2 : ∀ x y, has' x y = true → y < N := fun x y h => (hN y x (by rwa [← ht])).1
    have ht' : ∀ a b, b ∈ succ' a ↔ a ∈ succ b := fun a b => by rw [hs, hs', ht]
    rw [Bool.eq_iff_iff, tog_iff hN2 hs' ha hb, tog_iff hN1 hs ha hb, rch_turn ht', rch_turn ht']
    exact ⟨fun h => ⟨h.2, h.1⟩, fun h => ⟨h.2, h.1⟩⟩
  · have : ∀ has : Nat → Nat → Bool, togN N has a b = false := fun has => by
      unfold togN
      cases h1 : decide (a < N) with
      | false => rfl
      | true =>
        cases h2 : decide (b < N) with
        | false => rfl
        | true => exact absurd ⟨of_decide_eq_true h1, of_decide_eq_true h2⟩ hab
    rw [this, this]
end Go.Proofs.Ytdbpbchhkdconaa

/- Places of nodes in the list of classes; when a class is ready, by places. Nothing of any program. -/
namespace Go.Proofs.Ytdbpbchhkdconaa

section
variable {N : Nat} {tog : Nat → Nat → Bool} {edges : List (Nat × Nat)}
theorem classes_at {i : Nat} {c : List Nat} (h : (classes N tog)[i]? = some c) : ∃ a, ((List.range N).filter (leastN tog))[i]? = some a ∧ a < N ∧ leastN tog a = true ∧ c = clsN N tog a := by
  unfold classes at h
  rw [List.getElem?_map] at h
  cases ha : ((List.range N).filter (leastN tog))[i]? with
  | none => rw [ha] at h; cases h
  | some a =>
    rw [ha] at h
    have hm := List.mem_of_getElem? ha
    simp only [List.mem_filter, List.mem_range] at hm
    refine ⟨a, rfl, hm.1, hm.2, ?_⟩
    have : clsN N tog a = c := by simpa using h
    exact this.symm
/-- a node lies in one class only -/
theorem classes_one (e : EqvN N tog) {i j : Nat} {c d : List Nat} (hi : (classes N tog)[i]? = some c) (hj : (classes N tog)[j]? = some d) {v : Nat} (hc : v ∈ c) (hd : v ∈ d) : i = j := by
  obtain ⟨a, ha1, ha2, ha3, rfl⟩ := classes_at hi
  obtain ⟨b, hb1, hb2, hb3, rfl⟩ := classes_at hj
  obtain ⟨hv, h1⟩ := cls_mem.1 hc
  obtain ⟨-, h2⟩ := cls_mem.1 hd
  have hab : a = b := by
    have k1 := least_iff.1 ha3
    have k2 := least_iff.1 hb3
    have ht : tog a b = true := e.trans a v b ha2 hv hb2 h1 (e.symm b v hb2 hv h2)
    rcases Nat.lt_trichotomy a b with h | h | h
    · have := k2 a h
      rw [e.symm a b ha2 hb2 ht] at this; cases this
    · exact h
    · have := k1 b h
      rw [ht] at this; cases this
  subst hab
  have hn : ((List.range N).filter (leastN tog)).Pairwise (· < ·) := List.Pairwise.sublist List.filter_sublist List.pairwise_lt_range
  obtain ⟨l1, e1⟩ := List.getElem?_eq_some_iff.1 ha1
  obtain ⟨l2, e2⟩ := List.getElem?_eq_some_iff.1 hb1
  rcases Nat.lt_trichotomy i j with h | h | h
  · have := List.pairwise_iff_getElem.1 hn i j l1 l2 h
    omega
  · exact h
  · have := List.pairwise_iff_getElem.1 hn j i l2 l1 h
    omega
/-- place tells where a node's class stands -/
def PlaceOf (N : Nat) (L : List (List Nat)) (place : Nat → Nat) : Prop := ∀ v, v < N → ∃ c, L[place v]? = some c ∧ v ∈ c
theorem tog_place (e : EqvN N tog) {place : Nat → Nat} (hp : PlaceOf N (classes N tog) place) {a b : Nat} (ha : a < N) (hb : b < N) : tog a b = true ↔ place a = place b := by
  obtain ⟨c, hc1, hc2⟩ := hp a ha
  obtain ⟨d, hd1, hd2⟩ := hp b hb
  obtain ⟨x, -, hx, -, rfl⟩ := classes_at hc1
  have hxa := (cls_mem.1 hc2).2
  constructor
  · intro h
    exact classes_one e hc1 hd1 (cls_mem.2 ⟨hb, e.trans x a b hx ha hb hxa h⟩) hd2
  · intro h
    rw [← h, hc1] at hd1
    have hd : d = clsN N tog x := by
      have := Option.some.inj hd1
      exact this.symm
    subst hd
    exact e.trans a x b ha hx hb (e.symm x a hx ha hxa) (cls_mem.1 hd2).2
/-- a class is ready: what its edges lead to is itself, or is out -/
theorem ready_place (e : EqvN N tog) {place : Nat → Nat} (hp : PlaceOf N (classes N tog) place) (he : ∀ x ∈ edges, x.1 < N ∧ x.2 < N) {done : Nat → Bool} {em : Nat → Bool} (hd : ∀ v, v < N → done v = em (place v)) {a : Nat} (ha : a < N) :
    readyN edges tog done a = true ↔ ∀ x ∈ edges, place x.1 = place a → place x.2 ≠ place a → em (place x.2) = true := by
  unfold readyN
  rw [List.all_eq_true]
  constructor
  · intro h x hx h1 h2
    obtain ⟨k1, k2⟩ := he x hx
    have := h x hx
    have t1 : tog a x.1 = true := (tog_place e hp ha k1).2 h1.symm
    have t2 : tog a x.2 = false := by
      cases ht : tog a x.2 with
      | false => rfl
      | true => exact absurd ((tog_place e hp ha k2).1 ht).symm h2
    rw [t1, t2, hd x.2 k2] at this
    simpa using this
  · intro h x hx
    obtain ⟨k1, k2⟩ := he x hx
    cases t1 : tog a x.1 with
    | false => rfl
    | true =>
      cases t2 : tog a x.2 with
      | true => rfl
      | false =>
        have := h x hx ((tog_place e hp ha k1).1 t1).symm (fun e2 => by
          rw [(tog_place e hp ha k2).2 e2.symm] at t2; cases t2)
        rw [hd x.2 k2, this]; rfl
end
end Go.Proofs.Ytdbpbchhkdconaa
