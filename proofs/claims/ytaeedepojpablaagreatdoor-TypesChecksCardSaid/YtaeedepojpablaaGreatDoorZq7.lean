/- My own texts LexL, TVar, TRight, as far as this claim needs them. -/
import Derived.Test.YtaeedepojpablaaGreatDoorZq6
set_option linter.unusedVariables false
set_option linter.unusedSimpArgs false
set_option maxRecDepth 1000000
set_option maxHeartbeats 16000000
namespace Go.Proofs.YtaeedepojpablaaGreatDoor
open Go.RowKit Go.Shelf
attribute [local go_sem] Oper.semAt_some
theorem wpListIn_append_run {F : Fence} {n : Nat} {P : Program} {w w' : World} {ops : Array Oper} {rest : List Oper} {o : Oper} {a : Act} {Q : Exit → Act → World → Prop} {v' : Value} (hg : o.guard = none) (s x : Operand) (t : TypeId)
 (hop : o.op = .call { callee := .builtin .append, args := #[s, x], argTypes := #[t, t] }) (v xv : Value) (hs : a.eval s = v) (hx : a.eval x = xv)
 (hrun : (Builtin.append_ #[t, t] o.type #[v, xv]).run P w = .ok v' w') (h : wpListIn F n P ops Q rest (a.put o.dst v') w') : wpListIn F n P ops Q (o :: rest) a w := by
 refine wpListIn_plain hg fun K hK' => ?_
 unfold Oper.wpIn; refine ⟨?_, ?_⟩
 ·simp [Oper.about, hop, resolve, Target.leads, Sem.run_pure]
 ·rw [Oper.semAt_plain F _ _ (by rw [hop]; intro c hc'; cases hc')]; simp [execOp, hop, resolve, invoke, builtin, hs, hx, hrun, Result.andThen]
  exact hK' _ _ h
def tokCs (q : GTok) : List Value := [.int .i64 q.k, .string (bytes q.t), .int .i64 q.a]
def Enc.tok : Enc GTok where
 sz := 3
 ok _ _ cs q := cs = tokCs q ∧ fits q.k ∧ fits q.a ∧ q.t.length ≤ reachN
 mono _ _ h := h
 len h := by rw [h.1]; rfl
theorem SliceIs.tok_at {w : World} {B : Nat} {A : Option Addr} {n c : Nat} {l : List GTok} (h : SliceIs Enc.tok w B A n c l) {i : Nat} (hi : i < n) :
 ∃ b o x, A = some ⟨b, o, none⟩ ∧ b < B ∧ Hid (l[i]? = some x) ∧ w.cell? ⟨b, o + i * 3, none⟩ = some (.int .i64 x.k) ∧ w.cell? ⟨b, o + i * 3 + 1, none⟩ = some (.string (bytes x.t)) ∧
   w.cell? ⟨b, o + i * 3 + 2, none⟩ = some (.int .i64 x.a) ∧ fits x.k ∧ fits x.a ∧ x.t.length ≤ reachN := by
 obtain ⟨b, o, x, cs, hA, hb, hx, ⟨rfl, h1, h2, h3⟩, hc⟩ := h.at_ hi; exact ⟨b, o, x, hA, hb, hx, by simpa [Enc.tok] using hc 0 _ rfl, by simpa [Enc.tok] using hc 1 _ rfl, by simpa [Enc.tok] using hc 2 _ rfl, h1, h2, h3⟩
theorem token_info : (Tryz.prog.info? 178).map (fun i => (i.zero, i.size, i.bytes)) = some (some (.agg #[.int .i64 0, .string ⟨#[]⟩, .int .i64 0]), 3, 32) := by kernel_rfl
theorem token_push {W : World} {base : Nat} {A : Option Addr} {c k : Nat} {xs : List GTok} (hown : W.ownsRow base 178 3 (.slice A k c) k (xs.flatMap tokCs)) (q : GTok) (hn : k + 1 ≤ 1000000) (hb : base ≤ W.heap.size) :
 ∃ A' c' w', (∀ ty, (Builtin.append_ #[138, 138] ty #[.slice A k c, .slice (some ⟨W.heap.size, 0, none⟩) 1 1]).run Tryz.prog (W.alloc (.cells #[.int .i64 q.k, .string (bytes q.t), .int .i64 q.a] 178)) = .ok (.slice A' (k + 1) c') w') ∧
   w'.ownsRow base 178 3 (.slice A' (k + 1) c') (k + 1) ((xs ++ [q]).flatMap tokCs) ∧ Out (Value.slice A k c).ownBlock.toList W w' ∧ Below base W w' := by
 have ho : (W.alloc (.cells #[.int .i64 q.k, .string (bytes q.t), .int .i64 q.a] 178)).ownsRow base 178 3 (.slice A k c) k (xs.flatMap tokCs) := own_below hown (belowA (Below.refl _ _) _)
 obtain ⟨v', w', h1, h2, h3, h4⟩ := run_push_at (P := Tryz.prog) (ty := 138) (W.alloc (.cells #[.int .i64 q.k, .string (bytes q.t), .int .i64 q.a] 178)) (base := base) Tryz.underlying138 token_info rfl (by decide) ho W.heap.size (tokCs q) rfl (heapNew rfl) (by intro u hu; simp [tokCs] at hu; rcases hu with rfl | rfl | rfl <;> rfl)
  (by simp [maxLen]; omega) (by omega) (by simp; omega)
 obtain ⟨A', c', rfl⟩ := own_form h2; refine ⟨A', c', w', fun _ => h1, ?_, ?_, ?_⟩
 ·rw [List.flatMap_append]; simpa using h2
 ·have h5 := (Out.of_below (belowA (Below.refl W.heap.size W) (.cells #[.int .i64 q.k, .string (bytes q.t), .int .i64 q.a] 178)) (Value.slice A k c).ownBlock.toList)
  exact h5.trans (grown_out h3) (fun b hb _ => hb)
 ·exact ((Below.refl base W).alloc hb _).trans h4
theorem toks_is {w : World} {base : Nat} {A : Option Addr} {n c : Nat} {l : List GTok} (h : w.ownsRow base 178 3 (.slice A n c) n (l.flatMap tokCs)) (hl : l.length = n) (hn : n ≤ 1000000) (hok : ∀ q ∈ l, fits q.k ∧ fits q.a ∧ q.t.length ≤ reachN) : SliceIs Enc.tok w w.heap.size A n c l :=
 SliceIs.of_flat (E := Enc.tok) tokCs (fun _ => rfl) h hl (by simp [reachN]; omega) (fun q hq => ⟨rfl, hok q hq⟩)
theorem seq_bad {r : List GTok × Option Nat} {pre : List LX} {x : LX} (h : (pre ++ [x]) <+: seqOf r) (hx : x.bad = true) : ∃ p, r.2 = some p ∧ x = ⟨⟨0, [], p⟩, true⟩ := by
 obtain ⟨t, ht⟩ := h; have hm : x ∈ seqOf r := by rw [← ht]; simp
 unfold seqOf at hm; rcases List.mem_append.1 hm with hm | hm
 ·obtain ⟨q, -, rfl⟩ := List.mem_map.1 hm; cases hx
 ·cases h2 : r.2 with
  | none => rw [h2] at hm; cases hm
  | some p =>
    rw [h2] at hm; simp only [List.mem_singleton] at hm; exact ⟨p, rfl, hm⟩
theorem seq_all {r : List GTok × Option Nat} {xs : List LX} (h : xs = seqOf r) (hx : ∀ x ∈ xs, x.bad = false) : r.2 = none ∧ xs.map LX.q = r.1 := by
 subst h
 have h2 : r.2 = none := by
  cases h2 : r.2 with
  | none => rfl
  | some p =>
    exfalso; have := hx ⟨⟨0, [], p⟩, true⟩ (by unfold seqOf; rw [h2]; simp); cases this
 refine ⟨h2, ?_⟩; unfold seqOf; rw [h2]; simp [Function.comp_def]
theorem seq_len (r : List GTok × Option Nat) : (seqOf r).length ≤ r.1.length + 1 := by
 unfold seqOf; cases r.2 <;> simp
theorem lex_kind : ∀ (n a : Nat) (l : List UInt8), l.length ≤ n → ∀ q ∈ (lexA wordK a l).1, 1 ≤ q.k ∧ q.k ≤ 5
 | 0, a, l, hn, q, hq => by
   obtain rfl : l = [] := List.eq_nil_of_length_eq_zero (by omega); simp [lexA, lexF] at hq
 | n + 1, a, l, hn, q, hq => by
   by_cases h : l.drop (skipG false l) = []
   ·rw [lexA_nil _ _ h] at hq; simp at hq
   by_cases h0 : (tokL wordK (l.drop (skipG false l))).1 = 0
   ·rw [lexA_bad _ _ h h0] at hq; simp at hq
   have h3 := tokL_len _ h0; have h4 := tok_range (l.drop (skipG false l)); rw [lexA_tok _ _ h h0] at hq; simp only [List.length_drop] at h3; rcases List.mem_cons.1 hq with rfl | hq
   ·simp only; omega
   ·exact lex_kind n _ _ (by simp only [List.length_drop]; omega) q hq
theorem lex_fits {l : List UInt8} (hl : l.length ≤ 1000000) : ∀ q ∈ (lexS l).1, fits q.k ∧ fits q.a ∧ q.t.length ≤ reachN := by
 intro q hq; obtain ⟨h1, h2⟩ := lex_kind _ 0 l (Nat.le_refl _) q hq; obtain ⟨h3, h4, -⟩ := lex_places _ 0 l (Nat.le_refl _) q hq; refine ⟨(fits_iff _).2 ⟨by omega, by omega⟩, (fits_iff _).2 ⟨by omega, by omega⟩, by simp [reachN]; omega⟩
def AllPostL (s : ByteArray) (w : World) (e : Ending) (w' : World) : Prop := e = .returned (.func (.func 128) #[] #[.pointer (some ⟨w.heap.size, 0, none⟩)]) ∧ w' = w.alloc (.cells #[.string s] 9)
theorem lexAll_any (s : ByteArray) (w : World) : Calls Tryz.prog 82 #[.string s] w (AllPostL s w) := by
 go_enter Tryz.func82, Tryz.ntmps82
 go_wp2
 go_ret; exact ⟨rfl, rfl⟩
def ListPost (s : ByteArray) (w : World) (e : Ending) (w' : World) : Prop := Below w.heap.size w w' ∧
 ((4000 < s.size ∧ e = .returned (.tuple #[.slice none 0 0, .int .i64 4000, .iface 89 (.int .i64 3)])) ∨
  (s.size ≤ 4000 ∧ ((∃ p : Nat, (lexS s.toList).2 = some p ∧ e = .returned (.tuple #[.slice none 0 0, .int .i64 p, .iface 89 (.int .i64 2)])) ∨
   ((lexS s.toList).2 = none ∧ ∃ A c, e = .returned (.tuple #[.slice A (lexS s.toList).1.length c, .int .i64 0, .nilIface]) ∧ SliceIs Enc.tok w' w'.heap.size A (lexS s.toList).1.length c (lexS s.toList).1))))
theorem list_any (s : ByteArray) (hs : s.size ≤ 140737488351232) (w : World) (hW : LexW w) : Calls Tryz.prog 49 #[.string s] w (ListPost s w) := by
 have HW := hZ9 hW; obtain ⟨P, HP⟩ : ∃ P : Ending → World → Prop, Hid (P = ListPost s w) := ⟨_, rfl⟩
 rw [← HP.out]; clear hW; refine (callsIn_wide (n := 8)).1 ?_; refine callsIn_of_wp_marks Tryz.func49 rfl trivial ?_ rfl; simp only [Tryz.ntmps49, List.size_toArray, List.length_cons, List.length_nil, Nat.reduceAdd, Nat.reduceSub, Array.replicate_succ, Array.replicate_zero, List.push_toArray, List.append_toArray, List.nil_append, List.cons_append]; refine wpIn_wide.2 ?_; have Hlen := hZ9 (ba_len s); by_cases h4 : 4000 < s.size
 ·have z0 : (4000 : Int) < (s.size : Int) := by omega
  have HE : Hid (∀ w', Below w.heap.size w w' → P (.returned (.tuple #[.slice none 0 0, .int .i64 4000, .iface 89 (.int .i64 3)])) w') := fun w' hb => by rw [HP.out]; exact ⟨hb, .inl ⟨h4, rfl⟩⟩
  clear h4; go_wp2_with fail
  exact ⟨.tuple #[.slice none 0 0, .int .i64 4000, .iface 89 (.int .i64 3)], by simp [results, Tryz.results49, go_sem], HE.out _ (belowA (belowA (belowA (Below.refl _ _) _) _) _)⟩
 have z0 : ¬ (4000 : Int) < (s.size : Int) := by omega
 have HE1 : Hid (∀ w' (p : Nat), Below w.heap.size w w' → (lexS s.toList).2 = some p → P (.returned (.tuple #[.slice none 0 0, .int .i64 p, .iface 89 (.int .i64 2)])) w') := fun w' p hb hp => by rw [HP.out]; exact ⟨hb, .inr ⟨by omega, .inl ⟨p, hp, rfl⟩⟩⟩
 have HE2 : Hid (∀ w' A c, Below w.heap.size w w' → (lexS s.toList).2 = none → SliceIs Enc.tok w' w'.heap.size A (lexS s.toList).1.length c (lexS s.toList).1 → P (.returned (.tuple #[.slice A (lexS s.toList).1.length c, .int .i64 0, .nilIface])) w') := fun w' A c hb hp hA => by rw [HP.out]; exact ⟨hb, .inr ⟨by omega, .inr ⟨hp, A, c, rfl, hA⟩⟩⟩
 clear HP; go_wp2_with fail
 refine (lexAll_any s _).mono ?_; rintro e w1 ⟨rfl, hw1⟩; have hr0 : w1.heap[w.heap.size]? = some (.cells #[.slice none 0 0] 138 (0, 0)) := by rw [hw1]; exact heapOld (heapOld (heapOld (heapOld (heapNew rfl))))
 have hr1 : w1.heap[w.heap.size + 1]? = some (.cells #[.int .i64 0] 3 (0, 0)) := by rw [hw1]; exact heapOld (heapOld (heapOld (heapNew (by simp))))
 have hr2 : w1.heap[w.heap.size + 1 + 1]? = some (.cells #[.nilIface] 28 (0, 0)) := by rw [hw1]; exact heapOld (heapOld (heapNew (by simp)))
 have hr3 : w1.heap[w.heap.size + 1 + 1 + 1]? = some (.cells #[.slice none 0 0] 138 (0, 0)) := by rw [hw1]; exact heapOld (heapNew (by simp))
 have hr4 : w1.heap[w.heap.size + 1 + 1 + 1 + 1]? = some (.cells #[.string s] 9 (0, 0)) := by rw [hw1]; exact heapNew (by simp)
 have hbw : Below w.heap.size w w1 := by rw [hw1]; exact belowA (belowA (belowA (belowA (belowA (Below.refl _ _) _) _) _) _) _
 clear hw1; have hz1 := (glt hr4)
 have hW1 := HW.out.on hbw; have HLT := HW.out.lt; have HQ := hZ9 (lexAll_seq hW1 s hs ((cell_of_row _ _ 0 _ _ _ hr4).trans rfl) [w.heap.size, w.heap.size + 1, w.heap.size + 1 + 1, w.heap.size + 1 + 1 + 1] (by simp; omega) (fun b hb => by have := HLT b hb; simp; omega)); clear hW1 HLT HW hr4; simp only [World.size_alloc]; have Hfit : Hid (s.size ≤ 4000 → ∀ q ∈ (lexS s.toList).1, fits q.k ∧ fits q.a ∧ q.t.length ≤ reachN) := fun h => lex_fits (by rw [ba_len]; omega)
 have HsL : Hid ((lexS s.toList).1.length ≤ s.size) := by
  have h1 := (lex_len (wk := wordK) _ 0 s.toList (Nat.le_refl _)).2; rw [ba_len] at h1; exact h1
 have hs4 : s.size ≤ 4000 := by omega
 go_wp2_with fail
 refine (wpIn_wide (n := 8)).1 (range_law2 (hg := rfl) (eg := enters_of Tryz.func128 (by kernel_rfl) rfl) (hseq := HQ.out) (hb0 := Below.refl _ _) ?hS (hps := fun _ => rfl)
  (I := fun N pre W => Hid (∀ x ∈ pre, x.bad = false) ∧ W.heap[w.heap.size]? = some (.cells #[.slice none 0 0] 138 (0, 0)) ∧ W.heap[w.heap.size + 1]? = some (.cells #[.int .i64 0] 3 (0, 0)) ∧ W.heap[w.heap.size + 1 + 1]? = some (.cells #[.nilIface] 28 (0, 0)) ∧
   (∃ A c, W.heap[w.heap.size + 1 + 1 + 1]? = some (.cells #[.slice A pre.length c] 138 (0, 0)) ∧ Hid (W.ownsRow N 178 3 (.slice A pre.length c) pre.length ((pre.map LX.q).flatMap tokCs))) ∧ Below w.heap.size w W ∧ pre.length ≤ 4001 ∧ w1.heap.size ≤ N)
  (Ix := fun c N pre W => c = .ret ∧ ∃ p : Nat, Hid ((lexS s.toList).2 = some p) ∧ W.heap[w.heap.size]? = some (.cells #[.slice none 0 0] 138 (0, 0)) ∧ W.heap[w.heap.size + 1]? = some (.cells #[.int .i64 p] 3 (0, 0)) ∧ W.heap[w.heap.size + 1 + 1]? = some (.cells #[.iface 89 (.int .i64 2)] 28 (0, 0)) ∧ Below w.heap.size w W)
  ?hI ?hIx ?h0 ?round ?done ?stop)
 case hS => intro b hb; simp at hb; omega
 case hI =>
  rintro N pre W W' ⟨h1, h2, h3, h4, ⟨A, c, h5, h6⟩, h7, h8⟩ hs'; exact ⟨h1, hs'.row h2, hs'.row h3, hs'.row h4, ⟨A, c, hs'.row h5, hs'.own h6.out⟩, h7.trans (hs'.below (by omega) h7.size), h8⟩
 case hIx =>
  rintro c N pre W W' ⟨h1, p, h2, h3, h4, h5, h6⟩ hs'; exact ⟨h1, p, h2, hs'.row h3, hs'.row h4, hs'.row h5, h6.trans (hs'.below (by omega) h6.size)⟩
 case h0 =>
  intro N W hs' hN0 _; exact ⟨(fun x hx => by cases hx), hs'.row hr0, hs'.row hr1, hs'.row hr2, ⟨none, 0, hs'.row hr3, World.ownsRow_nil _ _ _ _⟩, hbw.trans (hs'.below (by omega) hbw.size), by simp, by omega⟩
 case round =>
  rintro k N pre ⟨q, bad⟩ W0 W1 K ⟨h1, h2, h3, h4, ⟨A, c, h5, h6⟩, h7, h8⟩ hs' hN hN2 hW01 hx hK; have HK := hZ9 hK; have HX := hZ9 hx; have H6 := hZ9 h6.out; clear hK hx h6; have hb1 : Below w.heap.size w W1 := h7.trans (hs'.below (by omega) h7.size); have t0 := hs'.row h2; have t1 := hs'.row h3; have t2 := hs'.row h4; have t3 := hs'.row h5; have hpl2 : (pre ++ [(⟨q, false⟩ : LX)]).length = pre.length + 1 := by simp
  have Hpl := hZ9 hpl2
  have hps : pre.length ≤ 4000 := by
   have h9 := HX.out.length_le; have h10 := seq_len (lexS s.toList); have := HsL.out; simp only [List.length_append, List.length_cons, List.length_nil] at h9; omega
  clear hpl2 h2 h3 h4 h5 HQ hr0 hr1 hr2 hr3; cases bad with
  | true =>
    obtain ⟨p, hp, hxe⟩ := seq_bad HX.out rfl; obtain rfl : q = ⟨0, [], p⟩ := by injection hxe
    have HPp := hZ9 hp; rw [encL_bad]; clear hp hxe; gi_wp2
    refine HK.out _ _ (belowA (Below.refl _ _) _) (fun W2 hs2 hz2 => ?_); clear HK; have v0 := hs2.row (heapOld (o := .cells #[.int .i64 0, .string ⟨#[]⟩, .int .i64 p] 178) t0); have v1 := hs2.row (heapOld (o := .cells #[.int .i64 0, .string ⟨#[]⟩, .int .i64 p] 178) t1); have v2 := hs2.row (heapOld (o := .cells #[.int .i64 0, .string ⟨#[]⟩, .int .i64 p] 178) t2); have vb := hs2.row (heapNew (w := W1) (o := .cells #[.int .i64 0, .string ⟨#[]⟩, .int .i64 p] 178) (g := W1.heap.size) rfl); have hb2 : Below w.heap.size w W2 := (belowA hb1 (.cells #[.int .i64 0, .string ⟨#[]⟩, .int .i64 p] 178)).trans (hs2.below (by omega) (belowA hb1 _).size); have x2 : W2.cell? ⟨W1.heap.size, 2, none⟩ = some (.int .i64 p) := (cell_of_row _ _ 2 _ _ _ vb).trans rfl; have c0 : W2.cell? ⟨w.heap.size, 0, none⟩ = some (.slice none 0 0) := (cell_of_row _ _ 0 _ _ _ v0).trans rfl; have c1 : W2.cell? ⟨w.heap.size + 1, 0, none⟩ = some (.int .i64 0) := (cell_of_row _ _ 0 _ _ _ v1).trans rfl; have c2 : W2.cell? ⟨w.heap.size + 1 + 1, 0, none⟩ = some .nilIface := (cell_of_row _ _ 0 _ _ _ v2).trans rfl; have f0 : W2.frozen? ⟨w.heap.size, 0, none⟩ = false := frozen_of_row _ _ _ _ _ v0; have f1 : W2.frozen? ⟨w.heap.size + 1, 0, none⟩ = false := frozen_of_row _ _ _ _ _ v1; have f2 : W2.frozen? ⟨w.heap.size + 1 + 1, 0, none⟩ = false := frozen_of_row _ _ _ _ _ v2; clear t0 t1 t2 t3; have hne0 : ¬ W1.heap.size = w.heap.size := by omega
    have hne1 : ¬ W1.heap.size = w.heap.size + 1 := by omega
    have hne2 : ¬ W1.heap.size = w.heap.size + 1 + 1 := by omega
    have HZ2 := hZ9 hz2; have HV0 := hZ9 v0; have HV1 := hZ9 v1; have HV2 := hZ9 v2; have hn0 : w.heap.size < W0.heap.size := by omega
    have o1 := set_out W2 w.heap.size 0 (.slice none 0 0); have o2 := set_out (W2.setCell ⟨w.heap.size, 0, none⟩ (.slice none 0 0)) (w.heap.size + 1) 0 (.int .i64 p); have o3 := set_out ((W2.setCell ⟨w.heap.size, 0, none⟩ (.slice none 0 0)).setCell ⟨w.heap.size + 1, 0, none⟩ (.int .i64 p)) (w.heap.size + 1 + 1) 0 (.iface 89 (.int .i64 2)); have oo := ((o1.mono (T := [w.heap.size, w.heap.size + 1, w.heap.size + 1 + 1]) (fun b hb _ => by simp at hb; simp [hb])).trans o2 (fun b hb _ => by simp at hb; simp [hb])).trans o3 (fun b hb _ => by simp at hb; simp [hb]); have k0 := (World.heap_setCells_other' (g := w.heap.size + 1 + 1) (i := 0) (v := .iface 89 (.int .i64 2)) (b := w.heap.size) (by omega)).trans ((World.heap_setCells_other' (g := w.heap.size + 1) (i := 0) (v := .int .i64 p) (b := w.heap.size) (by omega)).trans (set_zero (v := .slice none 0 0) v0)); have k1 := (World.heap_setCells_other' (g := w.heap.size + 1 + 1) (i := 0) (v := .iface 89 (.int .i64 2)) (b := w.heap.size + 1) (by omega)).trans (set_zero (v := .int .i64 p) ((World.heap_setCells_other' (g := w.heap.size) (i := 0) (v := .slice none 0 0) (b := w.heap.size + 1) (by omega)).trans v1)); have k2 := set_zero (v := .iface 89 (.int .i64 2)) ((World.heap_setCells_other' (g := w.heap.size + 1) (i := 0) (v := .int .i64 p) (b := w.heap.size + 1 + 1) (by omega)).trans ((World.heap_setCells_other' (g := w.heap.size) (i := 0) (v := .slice none 0 0) (b := w.heap.size + 1 + 1) (by omega)).trans v2)); have hzW : W1.heap.size < W2.heap.size := by rw [hz2]; simp
    have HT : Hid (Turn2 [w.heap.size, w.heap.size + 1, w.heap.size + 1 + 1, w.heap.size + 1 + 1 + 1] N W0.heap.size W2 (((W2.setCell ⟨w.heap.size, 0, none⟩ (.slice none 0 0)).setCell ⟨w.heap.size + 1, 0, none⟩ (.int .i64 p)).setCell ⟨w.heap.size + 1 + 1, 0, none⟩ (.iface 89 (.int .i64 2))).drew) :=
     Turn2.of_out (oo.trans (Out.of_below (Below.drew (Below.refl _ _)) []) (by simp)) (by omega) (fun b hb _ => by
      simp at hb
      exact ⟨.inl (by simp; omega), by omega⟩)
    have HB3 : Hid (Below w.heap.size w (((W2.setCell ⟨w.heap.size, 0, none⟩ (.slice none 0 0)).setCell ⟨w.heap.size + 1, 0, none⟩ (.int .i64 p)).setCell ⟨w.heap.size + 1 + 1, 0, none⟩ (.iface 89 (.int .i64 2))).drew) := hb2.trans ((oo.trans (Out.of_below (Below.drew (Below.refl _ _)) []) (by simp)).below (by simp; omega) hb2.size); have HK0 : Hid ((((W2.setCell ⟨w.heap.size, 0, none⟩ (.slice none 0 0)).setCell ⟨w.heap.size + 1, 0, none⟩ (.int .i64 p)).setCell ⟨w.heap.size + 1 + 1, 0, none⟩ (.iface 89 (.int .i64 2))).drew.heap[w.heap.size]? = some (.cells #[.slice none 0 0] 138 (0, 0))) := k0; have HK1 : Hid ((((W2.setCell ⟨w.heap.size, 0, none⟩ (.slice none 0 0)).setCell ⟨w.heap.size + 1, 0, none⟩ (.int .i64 p)).setCell ⟨w.heap.size + 1 + 1, 0, none⟩ (.iface 89 (.int .i64 2))).drew.heap[w.heap.size + 1]? = some (.cells #[.int .i64 p] 3 (0, 0))) := k1; have HK2 : Hid ((((W2.setCell ⟨w.heap.size, 0, none⟩ (.slice none 0 0)).setCell ⟨w.heap.size + 1, 0, none⟩ (.int .i64 p)).setCell ⟨w.heap.size + 1 + 1, 0, none⟩ (.iface 89 (.int .i64 2))).drew.heap[w.heap.size + 1 + 1]? = some (.cells #[.iface 89 (.int .i64 2)] 28 (0, 0))) := k2; clear hz2 v0 v1 v2 vb o1 o2 o3 oo k0 k1 k2; gi_wp2_with fail
    gi_region
    all_goals
     gi_wp2_with fail
     exact ⟨HT.out, rfl, p, HPp, HK0.out, HK1.out, HK2.out, HB3.out⟩
  | false =>
    rw [encL_tok]; gi_wp2
    refine HK.out _ _ (belowA (Below.refl _ _) _) (fun W2 hs2 hz2 => ?_); clear HK; have v0 := hs2.row (heapOld (o := .cells #[.int .i64 q.k, .string (bytes q.t), .int .i64 q.a] 178) t0); have v1 := hs2.row (heapOld (o := .cells #[.int .i64 q.k, .string (bytes q.t), .int .i64 q.a] 178) t1); have v2 := hs2.row (heapOld (o := .cells #[.int .i64 q.k, .string (bytes q.t), .int .i64 q.a] 178) t2); have v3 := hs2.row (heapOld (o := .cells #[.int .i64 q.k, .string (bytes q.t), .int .i64 q.a] 178) t3); have vb := hs2.row (heapNew (w := W1) (o := .cells #[.int .i64 q.k, .string (bytes q.t), .int .i64 q.a] 178) (g := W1.heap.size) rfl); have hb2 : Below w.heap.size w W2 := (belowA hb1 (.cells #[.int .i64 q.k, .string (bytes q.t), .int .i64 q.a] 178)).trans (hs2.below (by omega) (belowA hb1 _).size); obtain ⟨x0, x1, x2, -, -, -⟩ := three_facts vb; have c3 : W2.cell? ⟨w.heap.size + 1 + 1 + 1, 0, none⟩ = some (.slice A pre.length c) := (cell_of_row _ _ 0 _ _ _ v3).trans rfl; have hzW : W1.heap.size < W2.heap.size := by rw [hz2]; simp
    have H62 := hZ9 (hs2.own (own_below (hs'.own H6.out) (belowA (Below.refl _ _) (.cells #[.int .i64 q.k, .string (bytes q.t), .int .i64 q.a] 178)))); have HBl : Hid (∀ b, (Value.slice A pre.length c).ownBlock = some b → N ≤ b ∧ b < W0.heap.size) := fun b hb => own_blk H6.out hb
    obtain ⟨A9, c9, w9, q1, q2, q3, q4⟩ := token_push H62.out q (by omega) (by omega); have r0 := (q4.block _ (by omega)).trans v0; have r1 := (q4.block _ (by omega)).trans v1; have r2 := (q4.block _ (by omega)).trans v2; have r3 := (q4.block _ (by omega)).trans v3; have y3 : w9.cell? ⟨w.heap.size + 1 + 1 + 1, 0, none⟩ = some (.slice A pre.length c) := (cell_of_row _ _ 0 _ _ _ r3).trans rfl; have f3 : w9.frozen? ⟨w.heap.size + 1 + 1 + 1, 0, none⟩ = false := frozen_of_row _ _ _ _ _ r3; have HRun := hZ9 q1; have Q2 := hZ9 q2; have HR0 := hZ9 r0; have HR1 := hZ9 r1; have HR2 := hZ9 r2; have HR3 := hZ9 r3; have hb9 : Below w.heap.size w w9 := hb2.trans (q4.mono (by omega))
    have HT : Hid (Turn2 [w.heap.size, w.heap.size + 1, w.heap.size + 1 + 1, w.heap.size + 1 + 1 + 1] N W0.heap.size W2 (w9.setCell ⟨w.heap.size + 1 + 1 + 1, 0, none⟩ (.slice A9 (pre.length + 1) c9))) :=
     Turn2.of_out (T := (w.heap.size + 1 + 1 + 1) :: (Value.slice A pre.length c).ownBlock.toList) ((q3.mono (fun b hb _ => List.mem_cons_of_mem _ hb)).trans (set_out w9 _ 0 _) (fun b hb _ => by simp at hb; simp [hb])) (by omega) (fun b hb _ => by
      rcases List.mem_cons.1 hb with hb | hb
      ·exact ⟨.inl (by simp [hb]), by omega⟩
      ·have := HBl.out b (by simpa using hb)
       exact ⟨.inr this.1, this.2⟩)
    clear t0 t1 t2 t3 v0 v1 v2 v3 q1 q2 q3 r0 r1 r2 r3 H62 H6; have HZ2 := hZ9 hz2; clear hz2; gi_wp2_with (gi_at_builtin; refine wpListIn_append_run (o := ⟨some 24, _, _, _, _, _⟩) rfl _ _ _ rfl _ _ rfl rfl (HRun.out _) ?_)
    refine ⟨HT.out, ?_, (World.heap_setCells_other' (by omega)).trans HR0.out, (World.heap_setCells_other' (by omega)).trans HR1.out, (World.heap_setCells_other' (by omega)).trans HR2.out, ⟨A9, c9, ?_, ?_⟩, hb9.setCell (by show w.heap.size ≤ w.heap.size + 1 + 1 + 1; omega) _, by rw [Hpl.out]; omega, by omega⟩
    ·intro x hx; rcases List.mem_append.1 hx with hx | hx
     ·exact h1.out x hx
     ·simp at hx; rw [hx]
    ·rw [Hpl.out]; exact set_zero HR3.out
    ·show World.ownsRow _ _ _ _ _ _ _; rw [Hpl.out, List.map_append]; exact own_out' Q2.out (set_out w9 _ 0 _) (fun b hb hb' => by have := (own_blk Q2.out hb).1; simp at hb'; omega)
 case done =>
  rintro N xs W hxs ⟨h1, h2, h3, h4, ⟨A, c, h5, h6⟩, h7, h8⟩ hD; obtain ⟨hn, hm⟩ := seq_all hxs.out h1.out; have hl : xs.length = (lexS s.toList).1.length := by rw [← hm, List.length_map]
  have H6 := h6.out; rw [hm] at H6; rw [hl] at h5 H6; have hNw := h8.2; have Hn := hZ9 hn; have c0 : W.cell? ⟨w.heap.size, 0, none⟩ = some (.slice none 0 0) := (cell_of_row _ _ 0 _ _ _ h2).trans rfl; have c1 : W.cell? ⟨w.heap.size + 1, 0, none⟩ = some (.int .i64 0) := (cell_of_row _ _ 0 _ _ _ h3).trans rfl; have c2 : W.cell? ⟨w.heap.size + 1 + 1, 0, none⟩ = some .nilIface := (cell_of_row _ _ 0 _ _ _ h4).trans rfl; have c3 : W.cell? ⟨w.heap.size + 1 + 1 + 1, 0, none⟩ = some (.slice A (lexS s.toList).1.length c) := (cell_of_row _ _ 0 _ _ _ h5).trans rfl; have f0 : W.frozen? ⟨w.heap.size, 0, none⟩ = false := frozen_of_row _ _ _ _ _ h2; have f1 : W.frozen? ⟨w.heap.size + 1, 0, none⟩ = false := frozen_of_row _ _ _ _ _ h3; have f2 : W.frozen? ⟨w.heap.size + 1 + 1, 0, none⟩ = false := frozen_of_row _ _ _ _ _ h4; have HH2 := hZ9 h2; have HH3 := hZ9 h3; have HH4 := hZ9 h4; have HH6 := hZ9 H6; have HDl := hZ9 (glt hD); clear h1 h2 h3 h4 h5 h6 H6 hn hm hl hxs HQ hr0 hr1 hr2 hr3 h8; go_wp2_with fail
  have o1 := set_out W w.heap.size 0 (.slice A (lexS s.toList).1.length c); have o2 := set_out (W.setCell ⟨w.heap.size, 0, none⟩ (.slice A (lexS s.toList).1.length c)) (w.heap.size + 1) 0 (.int .i64 0); have o3 := set_out ((W.setCell ⟨w.heap.size, 0, none⟩ (.slice A (lexS s.toList).1.length c)).setCell ⟨w.heap.size + 1, 0, none⟩ (.int .i64 0)) (w.heap.size + 1 + 1) 0 .nilIface; have oo := ((o1.mono (T := [w.heap.size, w.heap.size + 1, w.heap.size + 1 + 1]) (fun b hb _ => by simp at hb; simp [hb])).trans o2 (fun b hb _ => by simp at hb; simp [hb])).trans o3 (fun b hb _ => by simp at hb; simp [hb]); have k0 := (World.heap_setCells_other' (g := w.heap.size + 1 + 1) (i := 0) (v := .nilIface) (b := w.heap.size) (by omega)).trans ((World.heap_setCells_other' (g := w.heap.size + 1) (i := 0) (v := .int .i64 0) (b := w.heap.size) (by omega)).trans (set_zero (v := .slice A (lexS s.toList).1.length c) HH2.out)); have k1 := (World.heap_setCells_other' (g := w.heap.size + 1 + 1) (i := 0) (v := .nilIface) (b := w.heap.size + 1) (by omega)).trans (set_zero (v := .int .i64 0) ((World.heap_setCells_other' (g := w.heap.size) (i := 0) (v := .slice A (lexS s.toList).1.length c) (b := w.heap.size + 1) (by omega)).trans HH3.out)); have k2 := set_zero (v := .nilIface) ((World.heap_setCells_other' (g := w.heap.size + 1) (i := 0) (v := .int .i64 0) (b := w.heap.size + 1 + 1) (by omega)).trans ((World.heap_setCells_other' (g := w.heap.size) (i := 0) (v := .slice A (lexS s.toList).1.length c) (b := w.heap.size + 1 + 1) (by omega)).trans HH4.out)); have hD2 := (oo.block w1.heap.size HDl.out (by simp; omega)).trans hD; have H6f := own_out' HH6.out oo (fun b hb hb' => by have := (own_blk HH6.out hb).1; simp at hb'; omega); have hbf : Below w.heap.size w (((W.setCell ⟨w.heap.size, 0, none⟩ (.slice A (lexS s.toList).1.length c)).setCell ⟨w.heap.size + 1, 0, none⟩ (.int .i64 0)).setCell ⟨w.heap.size + 1 + 1, 0, none⟩ .nilIface) := h7.trans (oo.below (by simp; omega) h7.size); generalize (((W.setCell ⟨w.heap.size, 0, none⟩ (.slice A (lexS s.toList).1.length c)).setCell ⟨w.heap.size + 1, 0, none⟩ (.int .i64 0)).setCell ⟨w.heap.size + 1 + 1, 0, none⟩ .nilIface) = Wf at *; refine ⟨by simp, .inl ⟨_, _, rfl, run_takeDeferred hD2, ?_⟩⟩; have hsf : Soft w1.heap.size Wf (Wf.putObj w1.heap.size (.deferred none)) := Soft.putObj _ (Nat.le_refl _) hD2 rfl; have x0 : (Wf.putObj w1.heap.size (.deferred none)).cell? ⟨w.heap.size, 0, none⟩ = some (.slice A (lexS s.toList).1.length c) := (cell_of_row _ _ 0 _ _ _ (hsf.row k0)).trans rfl; have x1 : (Wf.putObj w1.heap.size (.deferred none)).cell? ⟨w.heap.size + 1, 0, none⟩ = some (.int .i64 0) := (cell_of_row _ _ 0 _ _ _ (hsf.row k1)).trans rfl; have x2 : (Wf.putObj w1.heap.size (.deferred none)).cell? ⟨w.heap.size + 1 + 1, 0, none⟩ = some .nilIface := (cell_of_row _ _ 0 _ _ _ (hsf.row k2)).trans rfl; have hpost := HE2.out (Wf.putObj w1.heap.size (.deferred none)) A c (hbf.trans (hsf.below (by omega) hbf.size)) Hn.out (toks_is (hsf.own H6f) rfl (by have := HsL.out; omega) (Hfit.out hs4))
  clear o1 o2 o3 oo k0 k1 k2 hD2 H6f hsf hbf hD c0 c1 c2 c3 f0 f1 f2 hNw h7; exact ⟨.tuple #[.slice A (lexS s.toList).1.length c, .int .i64 0, .nilIface], by simp [results, Tryz.results49, go_sem, x0, x1, x2], hpost⟩
 case stop =>
  rintro c N pre W hSp ⟨rfl, p, h2, h3, h4, h5, h6⟩ hD; refine wpIn_wide.2 ?_; go_wp2_with fail
  refine ⟨by simp, .inl ⟨_, _, rfl, run_takeDeferred hD, ?_⟩⟩; have hsf : Soft w1.heap.size W (W.putObj w1.heap.size (.deferred none)) := Soft.putObj _ (Nat.le_refl _) hD rfl; have x0 : (W.putObj w1.heap.size (.deferred none)).cell? ⟨w.heap.size, 0, none⟩ = some (.slice none 0 0) := (cell_of_row _ _ 0 _ _ _ (hsf.row h3)).trans rfl; have x1 : (W.putObj w1.heap.size (.deferred none)).cell? ⟨w.heap.size + 1, 0, none⟩ = some (.int .i64 p) := (cell_of_row _ _ 0 _ _ _ (hsf.row h4)).trans rfl; have x2 : (W.putObj w1.heap.size (.deferred none)).cell? ⟨w.heap.size + 1 + 1, 0, none⟩ = some (.iface 89 (.int .i64 2)) := (cell_of_row _ _ 0 _ _ _ (hsf.row h5)).trans rfl; have hpost := HE1.out (W.putObj w1.heap.size (.deferred none)) p (h6.trans (hsf.below (by omega) h6.size)) h2.out; clear hsf hD h3 h4 h5 h6; exact ⟨.tuple #[.slice none 0 0, .int .i64 p, .iface 89 (.int .i64 2)], by simp [results, Tryz.results49, go_sem, x0, x1, x2], hpost⟩
end Go.Proofs.YtaeedepojpablaaGreatDoor

namespace Go.Proofs.YtaeedepojpablaaGreatDoor
open Go.RowKit
def singleB (k : Int) (s : ByteArray) : Bool := decide (s.size ≤ 4000) && (match lexS s.toList with | ([q], none) => decide (q.k = k) && decide (q.t = s.toList) | _ => false)
theorem single_long {k : Int} {s : ByteArray} (h : 4000 < s.size) : singleB k s = false := by
 have : ¬ s.size ≤ 4000 := by omega
 simp [singleB, this]
theorem single_bad {k : Int} {s : ByteArray} {p : Nat} (h : (lexS s.toList).2 = some p) : singleB k s = false := by
 unfold singleB; rcases hx : lexS s.toList with ⟨a, b⟩
 rw [hx] at h; obtain rfl : b = some p := h; simp
theorem single_many {k : Int} {s : ByteArray} (h : (lexS s.toList).1.length ≠ 1) : singleB k s = false := by
 unfold singleB; rcases hx : lexS s.toList with ⟨a, b⟩
 rw [hx] at h; match a, h with
 | [], _ => simp
 | [q], h => exact absurd rfl h
 | q :: r :: l, _ => simp
theorem single_one {k : Int} {s : ByteArray} {q : GTok} (h4 : s.size ≤ 4000) (h : (lexS s.toList).1 = [q]) (hn : (lexS s.toList).2 = none) : singleB k s = (decide (q.k = k) && decide (q.t = s.toList)) := by
 unfold singleB; rcases hx : lexS s.toList with ⟨a, b⟩
 rw [hx] at h hn; obtain rfl : a = [q] := h; obtain rfl : b = none := hn; simp [h4]
theorem single_at {s : ByteArray} {q : GTok} (h : (lexS s.toList).1 = [q]) (ht : q.t = s.toList) : q.a = 0 := by
 have h1 := lex_places (wk := wordK) s.toList.length 0 s.toList (Nat.le_refl _) q (by show q ∈ (lexS s.toList).1; rw [h]; simp); have h2 := h1.2.1; rw [ht] at h2; omega
theorem one_of {l : List GTok} (h : l.length = 1) : ∃ q, l = [q] := by
 match l, h with
 | [q], _ => exact ⟨q, rfl⟩
theorem variable_any (s : ByteArray) (hs : s.size ≤ 140737488351232) (w : World) (hW : LexW w) : Calls Tryz.prog 147 #[.string s] w (RetBool (singleB 3 s) w) := by
 have HL := hZ9 (list_any s hs w hW); obtain ⟨B, HB⟩ : ∃ B, Hid (B = singleB 3 s) := ⟨_, rfl⟩
 rw [← HB.out]; clear hW; go_enter Tryz.func147, Tryz.ntmps147
 go_wp2_with fail
 refine HL.out.mono ?_; rintro e w1 ⟨hb, ⟨h4, rfl⟩ | ⟨h4, ⟨p, hp, rfl⟩ | ⟨hn, A, c, rfl, hA⟩⟩⟩
 ·have HE : Hid (B = false) := by show _ = _; rw [HB.out]; exact single_long h4
  have Hb := hZ9 hb; clear h4 hb HB; go_wp2_with fail
  go_ret; exact ⟨by rw [HE.out]; rfl, Hb.out⟩
 ·have HE : Hid (B = false) := by show _ = _; rw [HB.out]; exact single_bad hp
  have Hb := hZ9 hb; clear h4 hb HB hp; go_wp2_with fail
  go_ret; exact ⟨by rw [HE.out]; rfl, Hb.out⟩
 ·by_cases h1 : (lexS s.toList).1.length = 1
  ·obtain ⟨q, hq⟩ := one_of h1; have HE : Hid (B = (decide (q.k = 3) && decide (q.t = s.toList))) := by show _ = _; rw [HB.out]; exact single_one h4 hq hn
   have HZ := hZ9 (single_at hq); rw [hq] at hA; obtain ⟨b, o, x, rfl, hbB, hx, x0, x1, x2, f0, f1, f2⟩ := hA.tok_at (i := 0) (by simp); obtain rfl : x = q := by have := hx.out; simp at this; exact this.symm
   have Hb := hZ9 hb; rw [h1]; simp only [Nat.zero_mul, Nat.add_zero] at x0 x1 x2; clear h4 hb HB h1 hq hn hA hx f0 f1 f2; go_wp2_with fail
   all_goals
    go_ret; refine ⟨?_, Hb.out⟩; have e1 : (bytes x.t).toList = x.t := toList_mk _; have hE := HE.out; have hz := HZ.out; clear HL HE HZ Hb x0 x1 x2; simp_all
  ·have HE : Hid (B = false) := by show _ = _; rw [HB.out]; exact single_many h1
   have Hb := hZ9 hb; have q0 : ((((lexS s.toList).1.length : Nat) : Int) == 1) = false := by simp; omega
   clear h4 hb HB h1 hn hA; go_wp2_with fail
   go_ret; exact ⟨by rw [HE.out]; rfl, Hb.out⟩
theorem named_any (s : ByteArray) (hs : s.size ≤ 140737488351232) (w : World) (hW : LexW w) : Calls Tryz.prog 95 #[.string s] w (RetBool (singleB 2 s) w) := by
 have HL := hZ9 (list_any s hs w hW); obtain ⟨B, HB⟩ : ∃ B, Hid (B = singleB 2 s) := ⟨_, rfl⟩
 rw [← HB.out]; clear hW; go_enter Tryz.func95, Tryz.ntmps95
 go_wp2_with fail
 refine HL.out.mono ?_; rintro e w1 ⟨hb, ⟨h4, rfl⟩ | ⟨h4, ⟨p, hp, rfl⟩ | ⟨hn, A, c, rfl, hA⟩⟩⟩
 ·have HE : Hid (B = false) := by show _ = _; rw [HB.out]; exact single_long h4
  have Hb := hZ9 hb; clear h4 hb HB; go_wp2_with fail
  go_ret; exact ⟨by rw [HE.out]; rfl, Hb.out⟩
 ·have HE : Hid (B = false) := by show _ = _; rw [HB.out]; exact single_bad hp
  have Hb := hZ9 hb; clear h4 hb HB hp; go_wp2_with fail
  go_ret; exact ⟨by rw [HE.out]; rfl, Hb.out⟩
 ·by_cases h1 : (lexS s.toList).1.length = 1
  ·obtain ⟨q, hq⟩ := one_of h1; have HE : Hid (B = (decide (q.k = 2) && decide (q.t = s.toList))) := by show _ = _; rw [HB.out]; exact single_one h4 hq hn
   have HZ := hZ9 (single_at hq); rw [hq] at hA; obtain ⟨b, o, x, rfl, hbB, hx, x0, x1, x2, f0, f1, f2⟩ := hA.tok_at (i := 0) (by simp); obtain rfl : x = q := by have := hx.out; simp at this; exact this.symm
   have Hb := hZ9 hb; rw [h1]; simp only [Nat.zero_mul, Nat.add_zero] at x0 x1 x2; clear h4 hb HB h1 hq hn hA hx f0 f1 f2; go_wp2_with fail
   all_goals
    go_ret; refine ⟨?_, Hb.out⟩; have e1 : (bytes x.t).toList = x.t := toList_mk _; have hE := HE.out; have hz := HZ.out; clear HL HE HZ Hb x0 x1 x2; simp_all
  ·have HE : Hid (B = false) := by show _ = _; rw [HB.out]; exact single_many h1
   have Hb := hZ9 hb; have q0 : ((((lexS s.toList).1.length : Nat) : Int) == 1) = false := by simp; omega
   clear h4 hb HB h1 hn hA; go_wp2_with fail
   go_ret; exact ⟨by rw [HE.out]; rfl, Hb.out⟩
end Go.Proofs.YtaeedepojpablaaGreatDoor

namespace Go.Proofs.YtaeedepojpablaaGreatDoor
open Go.RowKit
theorem str_empty {s : ByteArray} : s.toList = [] ↔ s.size = 0 := by
 rw [← ba_len]; simp
def rightT (t : GTold) : Bool := if t.x.size = 0 then rightB t.v else singleB 3 t.x && decide (t.v = gv0)
abbrev toldV (t : GTold) : Value := .agg #[.string t.x, .int .i64 t.v.k, .int .i64 t.v.n, .string t.v.s]
theorem gv_zero {v : GV} : v = gv0 ↔ v.k = 0 ∧ v.n = 0 ∧ v.s.toList = [] := by
 cases v
 simp [gv0, ← toList_inj, show (⟨#[]⟩ : ByteArray).toList = [] from by rw [ByteArray.toList_eq]]
theorem tright_any (t : GTold) (hx : t.x.size ≤ reachN) (w : World) (hW : LexW w) : Calls Tryz.prog 110 #[toldV t] w (RetBool (rightT t) w) := by
 obtain ⟨B, HB⟩ : ∃ B, Hid (B = rightT t) := ⟨_, rfl⟩
 rw [← HB.out]; have hrb : (w.alloc (.cells #[.string t.x, .int .i64 t.v.k, .int .i64 t.v.n, .string t.v.s] 75)).heap[w.heap.size]? = some (.cells #[.string t.x, .int .i64 t.v.k, .int .i64 t.v.n, .string t.v.s] 75 (0, 0)) := heapNew rfl; have hba : Below w.heap.size w (w.alloc (.cells #[.string t.x, .int .i64 t.v.k, .int .i64 t.v.n, .string t.v.s] 75)) := belowA (Below.refl _ _) _; have HR := hZ9 (fun W => right_any t.v W); have HV := hZ9 (variable_any t.x hx _ (hW.on hba)); clear hW; generalize hwb : w.alloc (.cells #[.string t.x, .int .i64 t.v.k, .int .i64 t.v.n, .string t.v.s] 75) = wb at *; obtain ⟨b0, b1, b2, b3⟩ := facts4 hrb; have Hlt := hZ9 (glt hrb); by_cases h0 : t.x.size = 0
 ·have e0 : (t.x.toList == ([] : List UInt8)) = true := by simp [str_empty.2 h0]
  have e1 : t.x.toList.isEmpty = true := by simp [str_empty.2 h0]
  have HE : Hid (B = rightB t.v) := by show _ = _; rw [HB.out]; simp [rightT, h0]
  clear h0 HB; go_enter Tryz.func110, Tryz.ntmps110
  go_wp2_with fail
  try simp only [hwb]
  go_wp2_with fail
  refine (HR.out _).mono ?_; rintro e w1 ⟨rfl, hb⟩; have Hb := hZ9 hb; clear hb; go_wp2_with fail
  go_ret; exact ⟨by rw [HE.out]; rfl, below_next hba Hb.out⟩
 ·have e0 : (t.x.toList == ([] : List UInt8)) = false := by simp [str_empty, h0]
  have e1 : t.x.toList.isEmpty = false := by simp [str_empty, h0]
  have HE : Hid (B = (singleB 3 t.x && decide (t.v = gv0))) := by show _ = _; rw [HB.out]; simp [rightT, h0]
  clear h0 HB; go_enter Tryz.func110, Tryz.ntmps110
  go_wp2_with fail
  try simp only [hwb]
  go_wp2_with fail
  refine HV.out.mono ?_; rintro e w1 ⟨rfl, hb⟩; have Hb := hZ9 hb; obtain ⟨c0, c1, c2, c3⟩ := facts4 ((hb.block _ Hlt.out).trans hrb); clear hb; cases hs : singleB 3 t.x with
  | false =>
    have HE2 : Hid (B = false) := by show _ = _; rw [HE.out, hs]; rfl
    clear HE hs; go_wp2_with fail
    go_ret; exact ⟨by rw [HE2.out]; rfl, below_next hba Hb.out⟩
  | true =>
    have HE2 : Hid (B = decide (t.v = gv0)) := by show _ = _; rw [HE.out, hs]; rfl
    clear HE hs; go_wp2_with fail
    all_goals
     go_ret; refine ⟨?_, below_next hba Hb.out⟩; have hE := HE2.out; clear HE2 Hb HR HV c0 c1 c2 c3 b0 b1 b2 b3 hwb hrb hba Hlt; simp_all [gv_zero]
end Go.Proofs.YtaeedepojpablaaGreatDoor
