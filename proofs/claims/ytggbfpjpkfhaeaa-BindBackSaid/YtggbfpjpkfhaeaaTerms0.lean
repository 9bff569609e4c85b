/- term.Terms over an expression without kids: it yields its term, once. -/
import Derived.Test.YtggbfpjpkfhaeaaSeq
namespace Go.Proofs.Ytggbfpjpkfhaeaa
open Go.RowKit Go.Shelf
attribute [local go_sem] Oper.semAt_some

theorem room_of_none {F : Fence} (hd : F.depth = none) (k : Nat) : F.room k := fun d h => by rw [hd] at h; cases h
theorem RoundIn.anyDepth {F : Fence} (hd : F.depth = none) {m m' : Nat} {P : Program} {l : Nat} {f : FuncId} {tmps : Array Value} {assign body : Code} {w : World} {R : Ending → World → Prop}
    (h : RoundIn F m P l f tmps assign body w R) : RoundIn F m' P l f tmps assign body w R := ⟨h.1, fun c cs _ => h.2 c cs (room_of_none hd _)⟩
theorem YieldAt.anyDepth {F : Fence} (hd : F.depth = none) {m : Nat} (m' : Nat) {P : Program} {l : Nat} {args : Array Value} {W : World} {R : Ending → World → Prop} (h : YieldAt F m P l args W R) : YieldAt F m' P l args W R := by
  obtain ⟨fn, tmps, assign, body, hy, hR⟩ := h
  exact ⟨fn, tmps, assign, body, hy, RoundIn.anyDepth hd hR⟩

/-- an expression without kids -/
abbrev leaf (op : Value) (t : GTold) : Value := .agg #[op, .string t.x, .int .i64 t.v.k, .int .i64 t.v.n, .string t.v.s, .slice none 0 0]

set_option maxRecDepth 100000 in
set_option maxHeartbeats 2000000 in
theorem terms_in (F : Fence) (hd : F.depth = none) (n : Nat) (h70 : F.fn 70) (hro : F.round = none) (l : Nat) (op : Int) (t : GTold) (W : World) {R : Ending → World → Prop}
    (hY : ∀ m W', W' = W.alloc (.cells #[.int .i64 op, .string t.x, .int .i64 t.v.k, .int .i64 t.v.n, .string t.v.s, .slice none 0 0] 84) → YieldAt F m Try.prog l (encT t) W' fun e W2 => (∃ b, e = .returned (.bool b)) ∧ R e W2) :
    CallsIn F n Try.prog 70 #[leaf (.int .i64 op) t, .func (.yield l) #[] #[]] W R := by
  refine callsIn_of_wp Try.func70 rfl h70 ?_ hro
  simp only [Try.ntmps70, List.size_toArray, List.length_cons, List.length_nil, Nat.reduceAdd, Nat.reduceSub, Array.replicate_succ, Array.replicate_zero, List.push_toArray, List.append_toArray, List.nil_append, List.cons_append]
  obtain ⟨fn, tmps, assign, body, hy, hR⟩ := hY (n - 1) _ rfl
  simp only [encT] at hy
  have h0 := room_of_none hd 0
  gi_wp2
  refine hR.mono ?_
  rintro e W2 ⟨⟨b, rfl⟩, hr⟩
  gi_wp2
  exact hr

set_option maxRecDepth 100000 in
set_option maxHeartbeats 2000000 in
theorem terms_stops (F : Fence) (hd : F.depth = none) (n : Nat) (h69 : F.fn 69) (h70 : F.fn 70) (hro : F.round = none) (g : Nat) (op : Int) (t : GTold) (w : World) {n₀ : Nat}
    (hg : w.heap[g]? = some (.cells #[.int .i64 op, .string t.x, .int .i64 t.v.k, .int .i64 t.v.n, .string t.v.s, .slice none 0 0] 84 (0, 0))) :
    SeqStopsK F n Try.prog 69 #[.pointer (some ⟨g, 0, none⟩)] encT (Below n₀) (fun xs => xs = [t]) (fun _ => True) 1 w := by
  intro l J Jx W hW hJ hJx hY h0
  have hgW : W.heap[g]? = some (.cells #[.int .i64 op, .string t.x, .int .i64 t.v.k, .int .i64 t.v.n, .string t.v.s, .slice none 0 0] 84 (0, 0)) := (hW.block g (Array.getElem?_eq_some_iff.1 hg).1).trans hg
  have t0 := cell_of_row _ _ 0 _ _ _ hgW
  have t1 := cell_of_row _ _ 1 _ _ _ hgW
  have t2 := cell_of_row _ _ 2 _ _ _ hgW
  have t3 := cell_of_row _ _ 3 _ _ _ hgW
  have t4 := cell_of_row _ _ 4 _ _ _ hgW
  have t5 := cell_of_row _ _ 5 _ _ _ hgW
  simp only [List.getElem?_toArray, List.getElem?_cons_zero, List.getElem?_cons_succ] at t0 t1 t2 t3 t4 t5
  have hT := terms_in F hd (n - 1) h70 hro l op t W (R := fun e W2 => (∃ v, e = .returned v) ∧ ((∃ xs, xs = [t] ∧ J xs W2) ∨ (∃ pre, True ∧ Jx pre W2))) (fun m W' hW' => by
    subst hW'
    have hJ1 : J [] (W.alloc (.cells #[.int .i64 op, .string t.x, .int .i64 t.v.k, .int .i64 t.v.n, .string t.v.s, .slice none 0 0] 84)) := hJ [] W _ none h0 (World.grownBy_alloc W _ none) (fun r e => by cases e)
    obtain ⟨fn, tmps, assign, body, hy, hR⟩ := hY [] t _ hJ1 (by simp)
    refine ⟨fn, tmps, assign, body, hy, RoundIn.anyDepth hd (hR.mono ?_)⟩
    rintro e W2 (⟨rfl, hj, -⟩ | ⟨rfl, hx⟩)
    · exact ⟨⟨true, rfl⟩, ⟨_, rfl⟩, .inl ⟨_, rfl, hj⟩⟩
    · exact ⟨⟨false, rfl⟩, ⟨_, rfl⟩, .inr ⟨_, trivial, hx⟩⟩)
  have HT := Lib.hid hT
  have hdd : ∀ k : Nat, (F.depth.isSome = true → 1 ≤ k) := fun k h => by rw [hd] at h; cases h
  clear hT hY hJ hJx h0
  refine callsIn_of_wp Try.func69 rfl h69 ?_ hro
  simp only [Try.ntmps69, List.size_toArray, List.length_cons, List.length_nil, Nat.reduceAdd, Nat.reduceSub, Array.replicate_succ, Array.replicate_zero, List.push_toArray, List.append_toArray, List.nil_append, List.cons_append]
  gi_wp2_with ((try refine ⟨hdd _, ?_⟩); gi_at_call 70; refine HT.out.mono ?_; rintro e W2 ⟨⟨v, rfl⟩, hr⟩)
  go_end0
  exact ⟨⟨_, rfl⟩, hr⟩

/-- slices.Collect(Terms(e)) where e has no kids -/
theorem collect_leaf (g : Nat) (op : Int) (t : GTold) (w : World) (ht : t.x.size ≤ reachN ∧ t.v.ok)
    (hg : w.heap[g]? = some (.cells #[.int .i64 op, .string t.x, .int .i64 t.v.k, .int .i64 t.v.n, .string t.v.s, .slice none 0 0] 84 (0, 0))) :
    Calls Try.prog 63 #[.func (.func 69) #[] #[.pointer (some ⟨g, 0, none⟩)]] w fun e w' => ∃ A m c, e = .returned (.slice A m c) ∧ SliceIs Enc.told w' w'.heap.size A m c [t] ∧ Below w.heap.size w w' := by
  refine (callsIn_wide (n := 8)).1 ?_
  refine (collect_in _ 8 trivial trivial rfl (by omega) 69 _ trivial (enters_of Try.func69 (by kernel_rfl) rfl) _ _ 1 (by omega) w (terms_stops _ rfl _ trivial trivial rfl g op t w hg)).mono ?_
  rintro e w' ⟨v, xs, rfl, rfl, hown, hb⟩
  obtain ⟨A, c, rfl⟩ := own_form hown
  exact ⟨A, _, c, rfl, SliceIs.of_flat (E := Enc.told) GTold.cells (fun _ => rfl) hown rfl (by simp [reachN]) (fun x hx => ⟨rfl, by simp at hx; rw [hx]; exact ht⟩), hb⟩

end Go.Proofs.Ytggbfpjpkfhaeaa
