/- My own texts TTerms, TColl, TPut, TConcat, as far as this claim needs them. -/
import Derived.Test.YtfklheagafffmaaGreatDoorZo4
import Derived.Test.YtfklheagafffmaaGreatDoorZo5
import Derived.Test.YtfklheagafffmaaGreatDoorZo7
import Derived.Test.YtfklheagafffmaaGreatDoorZo10
import Derived.OwnWalkIn
import Derived.TacticsInMore
import Derived.RegionIn
import Derived.LoopNIn
import Derived.LoopIn
import Derived.Shelf.Abstract
import Derived.Lib.AppendZerosOnto
import Derived.Lib.Walk
import Derived.Lib.SliceRun
set_option linter.unusedVariables false
set_option linter.unusedSimpArgs false
namespace Go.Proofs.YtfklheagafffmaaGreatDoor
open Go.RowKit Go.Shelf
attribute [local go_sem] Oper.semAt_some
def encT (t : GTold) : Array Value := #[.agg #[.string t.x, .int .i64 t.v.k, .int .i64 t.v.n, .string t.v.s]]
def RT (L : List GTold) (pre : List GTold) (x : GTold) (_base : Nat) (_W : World) : Prop := (pre ++ [x]) <+: L
/-- what the walk through an expression ends with -/
def TermsPost (b0 N : Nat) (H : World) (J Jx : Nat → List GTold → World → Prop) (L end_ : List GTold) (r : Ending) (W' : World) : Prop :=
  (r = .returned (.bool true) ∧ J N end_ W' ∧ (∀ b, b < b0 → W'.heap[b]? = H.heap[b]?) ∧ N ≤ W'.heap.size) ∨ (∃ p, r = .returned (.bool false) ∧ Hid (p <+: L) ∧ Jx N p W')
set_option maxRecDepth 100000 in
set_option maxHeartbeats 4000000 in
theorem terms_go (w : World) (l N : Nat) (S : List Nat) (L : List GTold) (J Jx : Nat → List GTold → World → Prop) (hl : w.heap.size ≤ l) (hN : w.heap.size ≤ N) (hS : ∀ b ∈ S, w.heap.size ≤ b)
    (hJ : ∀ pre W1 W2, J N pre W1 → Below W1.heap.size W1 W2 → J N pre W2)
    (hY : ∀ m pre x W0 W1, J N pre W0 → Below W0.heap.size W0 W1 → (pre ++ [x]) <+: L → YieldAt Fence.wide m Tryz.prog l (encT x) W1 fun e W' =>
      (e = .returned (.bool true) ∧ J N (pre ++ [x]) W' ∧ W1.heap.size ≤ W'.heap.size ∧ (∀ b, b < N → b ∉ S → b ≠ l → W'.heap[b]? = W1.heap[b]?) ∧ ∀ b, W0.heap.size ≤ b → b < W1.heap.size → W'.heap[b]? = W1.heap[b]?) ∨ (e = .returned (.bool false) ∧ Jx N (pre ++ [x]) W')) :
    ∀ (d : Nat) (e : GExp) (A : Option Addr) (n c : Nat) (W : World) (pre : List GTold), SliceIs (Enc.exp d) w w.heap.size A n c e.kids → (∀ b, b < w.heap.size → W.heap[b]? = w.heap[b]?) → N ≤ W.heap.size → J N pre W → (pre ++ leavesE e) <+: L →
    Calls Tryz.prog 104 #[expV e A n c, .func (.yield l) #[] #[]] W (TermsPost w.heap.size N w J Jx L (pre ++ leavesE e)) := by
  intro d
  induction d using Nat.strongRecOn with
  | ind d ih =>
    intro e A n c W pre hk hW hNW hj hpre
    have IH := Lib.hid ih
    have HJ := Lib.hid hJ
    have HY := Lib.hid hY
    have hn := hk.bound
    have HK := Lib.hid hk
    have Hlen := Lib.hid hk.1
    obtain ⟨P, HP⟩ : ∃ P : Ending → World → Prop, Hid (P = TermsPost w.heap.size N w J Jx L (pre ++ leavesE e)) := ⟨_, rfl⟩
    rw [← HP.out]
    have hrb : (W.alloc (.cells #[.int .i64 e.op, .string e.t.x, .int .i64 e.t.v.k, .int .i64 e.t.v.n, .string e.t.v.s, .slice A n c] 68)).heap[W.heap.size]? = some (.cells #[.int .i64 e.op, .string e.t.x, .int .i64 e.t.v.k, .int .i64 e.t.v.n, .string e.t.v.s, .slice A n c] 68 (0, 0)) := heapNew rfl
    obtain ⟨b0, b1, b2, b3, b4, b5⟩ := facts6 hrb
    have hbA : Below W.heap.size W (W.alloc (.cells #[.int .i64 e.op, .string e.t.x, .int .i64 e.t.v.k, .int .i64 e.t.v.n, .string e.t.v.s, .slice A n c] 68)) := belowA (Below.refl _ _) _
    have hszA : (W.alloc (.cells #[.int .i64 e.op, .string e.t.x, .int .i64 e.t.v.k, .int .i64 e.t.v.n, .string e.t.v.s, .slice A n c] 68)).heap.size = W.heap.size + 1 := by simp
    have HJ0 : Hid (J N pre (W.alloc (.cells #[.int .i64 e.op, .string e.t.x, .int .i64 e.t.v.k, .int .i64 e.t.v.n, .string e.t.v.s, .slice A n c] 68))) := hJ _ _ _ hj hbA
    have HW0 : Hid (∀ b, b < w.heap.size → (W.alloc (.cells #[.int .i64 e.op, .string e.t.x, .int .i64 e.t.v.k, .int .i64 e.t.v.n, .string e.t.v.s, .slice A n c] 68)).heap[b]? = w.heap[b]?) := fun b hb => (hbA.block b (by omega)).trans (hW b hb)
    have Hold : Hid (∀ V V2 : World, (∀ b, b < w.heap.size → V.heap[b]? = w.heap[b]?) → Below V.heap.size V V2 → N ≤ V.heap.size → ∀ b, b < w.heap.size → V2.heap[b]? = w.heap[b]?) := fun V V2 h1 h2 h3 b hb => (h2.block b (by omega)).trans (h1 b hb)
    have Hpre := Lib.hid hpre
    clear ih hJ hY hk hj hW hpre hbA
    refine (callsIn_wide (n := 0)).1 ?_
    refine callsIn_of_wp Tryz.func104 rfl trivial ?_ rfl
    simp only [Tryz.ntmps104, List.size_toArray, List.length_cons, List.length_nil, Nat.reduceAdd, Nat.reduceSub, Array.replicate_succ, Array.replicate_zero, List.push_toArray, List.append_toArray, List.nil_append, List.cons_append]
    by_cases h0 : n = 0
    · subst h0
      have hL0 : leavesE e = [e.t] := leavesE_nil (List.eq_nil_of_length_eq_zero (by rw [Hlen.out]))
      have HYs := Lib.hid (fun m => HY.out m pre e.t _ _ HJ0.out (Below.refl _ _) (by rw [← hL0]; exact Hpre.out))
      obtain ⟨fn, tmps, assign, body, hy, hR⟩ := HYs.out 0
      have HRR := Lib.hid hR
      simp only [encT] at hy
      have HE : Hid (∀ W', J N (pre ++ [e.t]) W' → (∀ b, b < w.heap.size → W'.heap[b]? = w.heap[b]?) → N ≤ W'.heap.size → P (.returned (.bool true)) W') := fun W' h1 h2 h3 => by rw [HP.out, hL0]; exact .inl ⟨rfl, h1, h2, h3⟩
      have HE2 : Hid (∀ W', Jx N (pre ++ [e.t]) W' → P (.returned (.bool false)) W') := fun W' h1 => by rw [HP.out]; exact .inr ⟨_, rfl, by rw [← hL0]; exact Hpre.out, h1⟩
      clear hR HYs hL0
      gi_wp2_with fail
      refine ⟨rfl, HRR.out.mono ?_⟩
      rintro r W2 (⟨rfl, hj2, hz2, hbl, hfr⟩ | ⟨rfl, hj2⟩)
      · have hPP := Lib.hid (HE.out W2 hj2 (fun b hb => (hbl b (by omega) (fun hbS => by have := hS b hbS; omega) (by omega)).trans (HW0.out b hb)) (by omega))
        clear hj2 hbl hfr hy
        gi_wp2_with fail
        exact hPP.out
      · have hPP := Lib.hid (HE2.out W2 hj2)
        clear hj2 hy
        gi_wp2_with fail
        exact hPP.out
    · have hL1 : leavesE e = leavesL e.kids := leavesE_kids (by intro h; have := Hlen.out; rw [h] at this; simp at this; omega)
      have hn0 : ¬ (n : Int) = 0 := by omega
      have hq0 : ((n : Int) == 0) = false := by simpa using hn0
      have HE : Hid (∀ W', J N (pre ++ leavesL e.kids) W' → (∀ b, b < w.heap.size → W'.heap[b]? = w.heap[b]?) → N ≤ W'.heap.size → P (.returned (.bool true)) W') := fun W' h1 h2 h3 => by rw [HP.out, hL1]; exact .inl ⟨rfl, h1, h2, h3⟩
      have HE2 : Hid (∀ W' p, Jx N p W' → p <+: L → P (.returned (.bool false)) W') := fun W' p h1 h2 => by rw [HP.out]; exact .inr ⟨p, rfl, h2, h1⟩
      have HpL : Hid ((pre ++ leavesL e.kids) <+: L) := by show _ <+: _; rw [← hL1]; exact Hpre.out
      clear HP Hpre hL1
      gi_wp2_with fail
      gi_loopw [4, 6, 18] (fun _ _ i wr => ∃ (j : Nat), j ≤ n ∧ i = .int .i64 j ∧ Hid (J N (pre ++ leavesL (e.kids.take j)) wr) ∧ Hid (∀ b, b < w.heap.size → wr.heap[b]? = w.heap[b]?) ∧ N ≤ wr.heap.size) (fun _ _ i _ => n - (intOf i).toNat)
      case atStart => exact ⟨0, by omega, rfl, by show J _ _ _; simpa [leavesL] using HJ0.out, HW0.out, by omega⟩
      case round =>
        obtain ⟨j, hj, rfl, HJj, HWj, hNj⟩ := hrel
        have i0 : (0 : Int) ≤ (j : Int) := by omega
        by_cases hlt : j < n
        · have i1 : (j : Int) < (n : Int) := by omega
          obtain ⟨b, o, k, A', n', c', d', rfl, hb, hk', hd, x0, x1, x2, x3, x4, x5, -, f1, f2, hkk⟩ := (HK.out.mono' (w' := wr) (B' := w.heap.size) (Nat.le_refl _) (Kept.of (fun b hb => HWj.out b hb))).exp_at hlt
          have HT := Lib.hid (leavesL_take hk'.out)
          have hkw : SliceIs (Enc.exp d') w w.heap.size A' n' c' k.kids := hkk.mono' (Nat.le_refl _) (Kept.of (fun b hb => (HWj.out b hb).symm))
          have hbB : Below wr.heap.size wr (wr.alloc (.cells #[.int .i64 k.op, .string k.t.x, .int .i64 k.t.v.k, .int .i64 k.t.v.n, .string k.t.v.s, .slice A' n' c'] 68)) := belowA (Below.refl _ _) _
          have HC := Lib.hid (IH.out d' (by omega) k A' n' c' (wr.alloc (.cells #[.int .i64 k.op, .string k.t.x, .int .i64 k.t.v.k, .int .i64 k.t.v.n, .string k.t.v.s, .slice A' n' c'] 68)) (pre ++ leavesL (e.kids.take j)) hkw (Hold.out _ _ HWj.out hbB hNj) (by simp; omega) (HJ.out _ _ _ HJj.out hbB)
            (by rw [List.append_assoc, ← HT.out]; refine List.IsPrefix.trans ?_ HpL.out; rw [leavesL_full e.kids (j + 1), ← List.append_assoc]; exact List.prefix_append _ _))
          rw [List.append_assoc, ← HT.out] at HC
          clear HT hk' hd hkw hbB hkk HJj
          gi_wp2_with fail
          refine ⟨trivial, rfl, (callsIn_wide.2 HC.out).mono ?_⟩
          rintro r w2 (⟨rfl, hj2, hW2, hN2⟩ | ⟨p, rfl, hp, hx⟩)
          · have HJ2 := Lib.hid hj2
            have HW2 := Lib.hid hW2
            clear hj2 hW2
            gi_wp2_with fail
            go_roundw
            case rel =>
              exact ⟨j + 1, by omega, by go_num, HJ2, HW2, hN2⟩
            case measure => simp [intOf]; omega
          · have hPP := Lib.hid (HE2.out w2 p hx hp.out)
            clear hx hp
            gi_wp2_with fail
            exact hPP.out
        · have i1 : ¬ (j : Int) < (n : Int) := by omega
          have hPP := Lib.hid (HE.out wr (by have := HJj.out; rw [List.take_of_length_le (by rw [Hlen.out]; omega)] at this; exact this) HWj.out hNj)
          clear HJj
          gi_wp2_with fail
          exact hPP.out
set_option maxRecDepth 100000 in
set_option maxHeartbeats 2000000 in
theorem terms_seq {w : World} {d : Nat} {e : GExp} {A : Option Addr} {n c g : Nat}
    (hg : w.heap[g]? = some (.cells #[.int .i64 e.op, .string e.t.x, .int .i64 e.t.v.k, .int .i64 e.t.v.n, .string e.t.v.s, .slice A n c] 68 (0, 0))) (S : List Nat) (w0 : World) (h0 : w0.heap.size ≤ g) (hw0 : Below w0.heap.size w0 w) (hkk : SliceIs (Enc.exp d) w0 w0.heap.size A n c e.kids) (hS : ∀ b ∈ S, w0.heap.size ≤ b) :
    SeqR2 Tryz.prog 103 #[.pointer (some ⟨g, 0, none⟩)] encT (RT (leavesE e)) S (fun xs => Hid (xs = leavesE e)) (fun pre => Hid (pre <+: leavesE e)) w := by
  intro l J Jx W hbW hl hlW hJ h0' hY
  have hgl : g < w.heap.size := (Array.getElem?_eq_some_iff.1 hg).1
  have hgW := (hbW.block g hgl).trans hg
  have hzW := hbW.size
  have hz0 := hw0.size
  have HG := Lib.hid (terms_go w0 l W.heap.size S (leavesE e) J Jx (by omega) (by omega) hS (fun pre W1 W2 => hJ _ pre W1 W2) (fun m pre x W0 W1 h1 h2 h3 => hY m _ pre x W0 W1 h1 h2 h3) d e A n c W [] hkk (fun b hb => (hbW.block b (by omega)).trans (hw0.block b hb)) (Nat.le_refl _) (h0' _ _ (Below.refl _ _) (Nat.le_refl _) (Nat.le_refl _)) (by simp))
  obtain ⟨b0, b1, b2, b3, b4, b5⟩ := facts6 hgW
  clear hJ h0' hY hg hgW hbW
  go_enter Tryz.func103, Tryz.ntmps103
  go_wp2_with fail
  refine HG.out.mono ?_
  rintro r W2 (⟨rfl, hj, -, -⟩ | ⟨p, rfl, hp, hj⟩)
  · have HJ2 := Lib.hid hj
    clear hj
    go_wp2_with fail
    refine ⟨rfl, _, results_none (fn := Tryz.f103) rfl _ _ _, ?_⟩
    exact ⟨⟨_, rfl⟩, .inl ⟨_, _, rfl, HJ2.out⟩⟩
  · have HJ2 := Lib.hid hj
    clear hj
    go_wp2_with fail
    refine ⟨rfl, _, results_none (fn := Tryz.f103) rfl _ _ _, ?_⟩
    exact ⟨⟨_, rfl⟩, .inr ⟨_, p, hp, HJ2.out⟩⟩
def SeqPost (w : World) (e : GExp) (A : Option Addr) (n c : Nat) (r : Ending) (w' : World) : Prop :=
  r = .returned (.func (.func 103) #[] #[.pointer (some ⟨w.heap.size, 0, none⟩)]) ∧ w' = w.alloc (.cells #[.int .i64 e.op, .string e.t.x, .int .i64 e.t.v.k, .int .i64 e.t.v.n, .string e.t.v.s, .slice A n c] 68)
set_option maxRecDepth 100000 in
set_option maxHeartbeats 400000 in
theorem termsF_any (w : World) (e : GExp) (A : Option Addr) (n c : Nat) : Calls Tryz.prog 76 #[expV e A n c] w (SeqPost w e A n c) := by
  go_enter Tryz.func76, Tryz.ntmps76
  go_wp2
  go_ret
  exact ⟨rfl, rfl⟩
end Go.Proofs.YtfklheagafffmaaGreatDoor

namespace Go.Proofs.YtfklheagafffmaaGreatDoor
open Go.RowKit Go.Shelf
attribute [local go_sem] Oper.semAt_some
theorem wpListIn_app {F : Fence} {n : Nat} {P : Program} {w w' : World} {ops : Array Oper} {rest : List Oper} {o : Oper} {a : Act} {Q : Exit → Act → World → Prop} {v' : Value} (hg : o.guard = none) (s x : Operand) (t : TypeId)
    (hop : o.op = .call { callee := .builtin .append, args := #[s, x], argTypes := #[t, t] }) (v xv : Value) (hs : a.eval s = v) (hx : a.eval x = xv)
    (hrun : (Builtin.append_ #[t, t] o.type #[v, xv]).run P w = .ok v' w') (h : wpListIn F n P ops Q rest (a.put o.dst v') w') : wpListIn F n P ops Q (o :: rest) a w := by
  refine wpListIn_plain hg fun K hK' => ?_
  unfold Oper.wpIn
  refine ⟨?_, ?_⟩
  · simp [Oper.about, hop, resolve, Target.leads, Sem.run_pure]
  · rw [Oper.semAt_plain F _ _ (by rw [hop]; intro c hc'; cases hc')]
    simp [execOp, hop, resolve, invoke, builtin, hs, hx, hrun, Result.andThen]
    exact hK' _ _ h
theorem encT_eq (t : GTold) : encT t = #[.agg #[.string t.x, .int .i64 t.v.k, .int .i64 t.v.n, .string t.v.s]] := rfl
theorem termS_info : (Tryz.prog.info? 65).map (fun i => (i.zero, i.size, i.bytes)) = some (some (.agg #[.string ⟨#[]⟩, .int .i64 0, .int .i64 0, .string ⟨#[]⟩]), 4, 48) := by kernel_rfl
theorem term_push {W : World} {base : Nat} {A : Option Addr} {c k : Nat} {xs : List GTold} (hown : W.ownsRow base 65 4 (.slice A k c) k (xs.flatMap GTold.cells)) (q : GTold) (hn : k + 1 ≤ 1000000) (hb : base ≤ W.heap.size) :
    ∃ A' c' w', (∀ ty, (Builtin.append_ #[22, 22] ty #[.slice A k c, .slice (some ⟨W.heap.size, 0, none⟩) 1 1]).run Tryz.prog (W.alloc (.cells #[.string q.x, .int .i64 q.v.k, .int .i64 q.v.n, .string q.v.s] 65)) = .ok (.slice A' (k + 1) c') w') ∧
      w'.ownsRow base 65 4 (.slice A' (k + 1) c') (k + 1) ((xs ++ [q]).flatMap GTold.cells) ∧ Out (Value.slice A k c).ownBlock.toList W w' ∧ Below base W w' := by
  have ho : (W.alloc (.cells #[.string q.x, .int .i64 q.v.k, .int .i64 q.v.n, .string q.v.s] 65)).ownsRow base 65 4 (.slice A k c) k (xs.flatMap GTold.cells) := own_below hown (belowA (Below.refl _ _) _)
  obtain ⟨v', w', h1, h2, h3, h4⟩ := run_push_at (P := Tryz.prog) (ty := 22) (W.alloc (.cells #[.string q.x, .int .i64 q.v.k, .int .i64 q.v.n, .string q.v.s] 65)) (base := base) Tryz.underlying22 termS_info rfl (by decide) ho W.heap.size (GTold.cells q) rfl (heapNew rfl) (by intro u hu; simp [GTold.cells] at hu; rcases hu with rfl | rfl | rfl | rfl <;> rfl)
    (by simp [maxLen]; omega) (by omega) (by simp; omega)
  obtain ⟨A', c', rfl⟩ := own_form h2
  refine ⟨A', c', w', fun _ => h1, ?_, ?_, ?_⟩
  · rw [List.flatMap_append]; simpa using h2
  · have h5 := (Out.of_below (belowA (Below.refl W.heap.size W) (.cells #[.string q.x, .int .i64 q.v.k, .int .i64 q.v.n, .string q.v.s] 65)) (Value.slice A k c).ownBlock.toList)
    exact h5.trans (grown_out h3) (fun b hb _ => hb)
  · exact ((Below.refl base W).alloc hb _).trans h4
def CollPost (L : List GTold) (w : World) (r : Ending) (w' : World) : Prop :=
  ∃ A c, r = .returned (.slice A L.length c) ∧ w'.ownsRow w.heap.size 65 4 (.slice A L.length c) L.length (L.flatMap GTold.cells) ∧ Below w.heap.size w w'
set_option maxRecDepth 100000 in
set_option maxHeartbeats 4000000 in
theorem appendSeq_any {w : World} {d : Nat} {e : GExp} {A : Option Addr} {n c g : Nat}
    (hg : w.heap[g]? = some (.cells #[.int .i64 e.op, .string e.t.x, .int .i64 e.t.v.k, .int .i64 e.t.v.n, .string e.t.v.s, .slice A n c] 68 (0, 0))) (w0 : World) (h0 : w0.heap.size ≤ g) (hw0 : Below w0.heap.size w0 w) (hkk : SliceIs (Enc.exp d) w0 w0.heap.size A n c e.kids) (hlen : (leavesE e).length ≤ 1500) :
    Calls Tryz.prog 102 #[.slice none 0 0, .func (.func 103) #[] #[.pointer (some ⟨g, 0, none⟩)]] w (CollPost (leavesE e) w) := by
  have HQ := Lib.hid (terms_seq hg [w.heap.size] w0 h0 hw0 hkk (fun b hb => by have := hw0.size; simp at hb; omega))
  obtain ⟨L, hL⟩ : ∃ L, L = leavesE e := ⟨_, rfl⟩
  rw [← hL] at HQ hlen ⊢
  obtain ⟨P, HP⟩ : ∃ P : Ending → World → Prop, Hid (P = CollPost L w) := ⟨_, rfl⟩
  rw [← HP.out]
  clear hg h0 hw0 hkk hL
  refine (callsIn_wide (n := 8)).1 ?_
  refine callsIn_of_wp_marks Tryz.func102 rfl trivial ?_ rfl
  simp only [Tryz.ntmps102, List.size_toArray, List.length_cons, List.length_nil, Nat.reduceAdd, Nat.reduceSub, Array.replicate_succ, Array.replicate_zero, List.push_toArray, List.append_toArray, List.nil_append, List.cons_append]
  refine wpIn_wide.2 ?_
  go_wp2_with fail
  have hr0 : (w.alloc (.cells #[.slice none 0 0] 22)).heap[w.heap.size]? = some (.cells #[.slice none 0 0] 22 (0, 0)) := heapNew rfl
  have hbw : Below w.heap.size w (w.alloc (.cells #[.slice none 0 0] 22)) := belowA (Below.refl _ _) _
  have hz1 : (w.alloc (.cells #[.slice none 0 0] 22)).heap.size = w.heap.size + 1 := by simp
  generalize w.alloc (.cells #[.slice none 0 0] 22) = w1 at *
  refine (wpIn_wide (n := 8)).1 (range_law2 (hg := rfl) (eg := enters_of Tryz.func103 (by kernel_rfl) rfl) (hseq := HQ.out) (hb0 := hbw) ?hS (hps := fun _ => rfl)
    (I := fun N pre W => (∃ A c, W.heap[w.heap.size]? = some (.cells #[.slice A pre.length c] 22 (0, 0)) ∧ Hid (W.ownsRow N 65 4 (.slice A pre.length c) pre.length (pre.flatMap GTold.cells))) ∧ Below w.heap.size w W ∧ w1.heap.size ≤ N)
    (Ix := fun _ _ _ _ => False)
    ?hI ?hIx ?h0 ?round ?done ?stop)
  case hS => intro b hb; simp at hb; omega
  case hI =>
    rintro N pre W W' ⟨⟨A, c, h5, h6⟩, h7, h8⟩ hs'
    exact ⟨⟨A, c, hs'.row h5, hs'.own h6.out⟩, h7.trans (hs'.below (by omega) h7.size), h8⟩
  case hIx => exact fun _ _ _ _ _ h _ => h
  case h0 =>
    intro N W hs' hN0 _
    exact ⟨⟨none, 0, hs'.row hr0, World.ownsRow_nil _ _ _ _⟩, hbw.trans (hs'.below (by omega) hbw.size), by omega⟩
  case round =>
    rintro k N pre x W0 W1 K ⟨⟨A, c, h5, h6⟩, h7, h8⟩ hs' hN hN2 hW01 hx hK
    have HK := Lib.hid hK
    have H6 := Lib.hid h6.out
    have hps : pre.length + 1 ≤ 1500 := by
      have h9 := List.IsPrefix.length_le hx
      simp only [List.length_append, List.length_cons, List.length_nil] at h9; omega
    clear hK hx h6
    have hb1 : Below w.heap.size w W1 := h7.trans (hs'.below (by omega) h7.size)
    have t3 := hs'.row h5
    have hw00 := (Array.getElem?_eq_some_iff.1 h5).1
    have Hpl : Hid ((pre ++ [x]).length = pre.length + 1) := by show _ = _; simp
    clear h5 HQ hr0
    rw [encT_eq]
    gi_wp2
    refine HK.out _ _ (belowA (Below.refl _ _) _) (fun W2 hs2 hz2 => ?_)
    clear HK
    have v3 := hs2.row (heapOld (o := .cells #[.string x.x, .int .i64 x.v.k, .int .i64 x.v.n, .string x.v.s] 65) t3)
    have vb := hs2.row (heapNew (w := W1) (o := .cells #[.string x.x, .int .i64 x.v.k, .int .i64 x.v.n, .string x.v.s] 65) (g := W1.heap.size) rfl)
    have hb2 : Below w.heap.size w W2 := (belowA hb1 (.cells #[.string x.x, .int .i64 x.v.k, .int .i64 x.v.n, .string x.v.s] 65)).trans (hs2.below (by omega) (belowA hb1 _).size)
    obtain ⟨x0, x1, x2, x4⟩ := facts4 vb
    have c3 : W2.cell? ⟨w.heap.size, 0, none⟩ = some (.slice A pre.length c) := (cell_of_row _ _ 0 _ _ _ v3).trans rfl
    have hzW : W1.heap.size < W2.heap.size := by rw [hz2]; simp
    have H62 := Lib.hid (hs2.own (own_below (hs'.own H6.out) (belowA (Below.refl _ _) (.cells #[.string x.x, .int .i64 x.v.k, .int .i64 x.v.n, .string x.v.s] 65))))
    have HBl : Hid (∀ b, (Value.slice A pre.length c).ownBlock = some b → N ≤ b ∧ b < W0.heap.size) := fun b hb => own_blk H6.out hb
    obtain ⟨A9, c9, w9, q1, q2, q3, q4⟩ := term_push H62.out x (by omega) (by omega)
    have r3 := (q4.block _ (by omega)).trans v3
    have y3 : w9.cell? ⟨w.heap.size, 0, none⟩ = some (.slice A pre.length c) := (cell_of_row _ _ 0 _ _ _ r3).trans rfl
    have f3 : w9.frozen? ⟨w.heap.size, 0, none⟩ = false := frozen_of_row _ _ _ _ _ r3
    have HRun := Lib.hid q1
    have Q2 := Lib.hid q2
    have HR3 := Lib.hid r3
    have hb9 : Below w.heap.size w w9 := hb2.trans (q4.mono (by omega))
    have HT : Hid (Turn2 [w.heap.size] N W0.heap.size W2 (w9.setCell ⟨w.heap.size, 0, none⟩ (.slice A9 (pre.length + 1) c9))) :=
      Turn2.of_out (T := w.heap.size :: (Value.slice A pre.length c).ownBlock.toList) ((q3.mono (fun b hb _ => List.mem_cons_of_mem _ hb)).trans (set_out w9 _ 0 _) (fun b hb _ => by simp at hb; simp [hb])) (by omega) (fun b hb _ => by
        rcases List.mem_cons.1 hb with hb | hb
        · exact ⟨.inl (by simp [hb]), by omega⟩
        · have := HBl.out b (by simpa using hb)
          exact ⟨.inr this.1, this.2⟩)
    clear t3 v3 q1 q2 q3 r3 H62 H6
    have HZ2 := Lib.hid hz2
    clear hz2
    gi_wp2_with (gi_at_builtin; refine wpListIn_app (o := ⟨some 11, _, _, _, _, _⟩) rfl _ _ _ rfl _ _ rfl rfl (HRun.out _) ?_)
    refine ⟨HT.out, ⟨A9, c9, ?_, ?_⟩, hb9.setCell (Nat.le_refl _) _, h8⟩
    · rw [Hpl.out]; exact set_zero HR3.out
    · show World.ownsRow _ _ _ _ _ _ _
      rw [Hpl.out]
      exact own_out' Q2.out (set_out w9 _ 0 _) (fun b hb hb' => by have := (own_blk Q2.out hb).1; simp at hb'; omega)
  case done =>
    rintro N xs W hxs ⟨⟨A, c, h5, h6⟩, h7, h8⟩ hD
    obtain rfl : xs = L := hxs.out
    have c3 : W.cell? ⟨w.heap.size, 0, none⟩ = some (.slice A xs.length c) := (cell_of_row _ _ 0 _ _ _ h5).trans rfl
    have HDl := (Array.getElem?_eq_some_iff.1 hD).1
    have HHD := Lib.hid hD
    have H6 := Lib.hid h6.out
    clear hxs HQ hr0 h5 h6 hD
    go_wp2_with fail
    refine ⟨by simp, .inl ⟨_, _, rfl, run_takeDeferred HHD.out, ?_⟩⟩
    have hsf : Soft w1.heap.size W (W.putObj w1.heap.size (.deferred none)) := Soft.putObj _ (Nat.le_refl _) HHD.out rfl
    have hpost : P (.returned (.slice A xs.length c)) (W.putObj w1.heap.size (.deferred none)) := by
      rw [HP.out]
      refine ⟨A, c, rfl, ?_, h7.trans (hsf.below (by omega) h7.size)⟩
      have ho := hsf.own H6.out
      refine ⟨ho.1, ?_⟩
      rcases ho.2 with hn | ⟨g, cap, cur, hv, hbg, rest⟩
      · exact .inl hn
      · exact .inr ⟨g, cap, cur, hv, by omega, rest⟩
    exact ⟨.slice A xs.length c, by simp [results, Tryz.results102, go_sem], hpost⟩
  case stop => exact fun _ _ _ _ _ h _ => h.elim
set_option maxRecDepth 100000 in
set_option maxHeartbeats 1000000 in
theorem collect_any {w : World} {d : Nat} {e : GExp} {A : Option Addr} {n c g : Nat}
    (hg : w.heap[g]? = some (.cells #[.int .i64 e.op, .string e.t.x, .int .i64 e.t.v.k, .int .i64 e.t.v.n, .string e.t.v.s, .slice A n c] 68 (0, 0))) (w0 : World) (h0 : w0.heap.size ≤ g) (hw0 : Below w0.heap.size w0 w) (hkk : SliceIs (Enc.exp d) w0 w0.heap.size A n c e.kids) (hlen : (leavesE e).length ≤ 1500) :
    Calls Tryz.prog 75 #[.func (.func 103) #[] #[.pointer (some ⟨g, 0, none⟩)]] w (CollPost (leavesE e) w) := by
  have H := Lib.hid (appendSeq_any hg w0 h0 hw0 hkk hlen)
  obtain ⟨L, HL⟩ : ∃ L, Hid (L = leavesE e) := ⟨_, rfl⟩
  rw [← HL.out] at H ⊢
  clear hg h0 hw0 hkk hlen
  go_enter Tryz.func75, Tryz.ntmps75
  go_wp2_with fail
  refine H.out.mono ?_
  rintro r w1 ⟨A1, c1, rfl, h1, h2⟩
  go_wp2_with fail
  go_ret
  exact ⟨A1, c1, rfl, h1, h2⟩
end Go.Proofs.YtfklheagafffmaaGreatDoor

namespace Go.Proofs.YtfklheagafffmaaGreatDoor
open Go.RowKit
def put1 (acc : List ByteArray) (t : GTold) : List ByteArray := if t.x.toList.isEmpty || decide (t.x ∈ acc) then acc else acc ++ [t.x]
def putL (acc : List ByteArray) (l : List GTold) : List ByteArray := l.foldl put1 acc
theorem putL_take {l : List GTold} {k : Nat} {t : GTold} {acc : List ByteArray} (hx : l[k]? = some t) : putL acc (l.take (k + 1)) = put1 (putL acc (l.take k)) t := by
  rw [List.take_add_one, hx]; simp [putL, List.foldl_append]
theorem putL_app (acc : List ByteArray) (a b : List GTold) : putL acc (a ++ b) = putL (putL acc a) b := by simp [putL, List.foldl_append]
theorem putL_mem {l : List GTold} {acc : List ByteArray} {s : ByteArray} (h : s ∈ putL acc l) : s ∈ acc ∨ ∃ t ∈ l, t.x = s := by
  induction l generalizing acc with
  | nil => exact .inl h
  | cons t l ih =>
    rcases ih (acc := put1 acc t) h with h | ⟨u, hu, e⟩
    · unfold put1 at h
      split at h
      · exact .inl h
      · rcases List.mem_append.1 h with h | h
        · exact .inl h
        · simp at h; exact .inr ⟨t, List.mem_cons_self, h.symm⟩
    · exact .inr ⟨u, List.mem_cons_of_mem _ hu, e⟩
theorem putL_len (l : List GTold) (acc : List ByteArray) : (putL acc l).length ≤ acc.length + l.length := by
  induction l generalizing acc with
  | nil => simp [putL]
  | cons t l ih =>
    have h := ih (put1 acc t)
    have h2 : (put1 acc t).length ≤ acc.length + 1 := by
      unfold put1
      split
      · omega
      · simp only [List.length_append, List.length_cons, List.length_nil]; omega
    simp only [List.length_cons]
    show (putL (put1 acc t) l).length ≤ _
    omega
theorem told_ok {w : World} {B : Nat} {A : Option Addr} {n c : Nat} {l : List GTold} (h : SliceIs Enc.told w B A n c l) : ∀ t ∈ l, t.x.size ≤ reachN ∧ t.v.ok := by
  intro t ht
  rcases h.2.2.2.2 with h4 | ⟨b, o, _, _, hc⟩
  · subst h4; cases ht
  · obtain ⟨i, hi⟩ := List.mem_iff_getElem?.1 ht
    obtain ⟨cs, hok, _⟩ := hc i t hi
    exact hok.2
def strC (s : ByteArray) : List Value := [.string s]
theorem str_info : (Tryz.prog.info? 9).map (fun i => (i.zero, i.size, i.bytes)) = some (some (.string ⟨#[]⟩), 1, 16) := by kernel_rfl
theorem str_push {W : World} {base : Nat} {A : Option Addr} {c k : Nat} {xs : List ByteArray} (hown : W.ownsRow base 9 1 (.slice A k c) k (xs.flatMap strC)) (s : ByteArray) (hn : k + 1 ≤ 1000000) (hb : base ≤ W.heap.size) :
    ∃ A' c' w', (∀ ty, (Builtin.append_ #[40, 40] ty #[.slice A k c, .slice (some ⟨W.heap.size, 0, none⟩) 1 1]).run Tryz.prog (W.alloc (.cells #[.string s] 9)) = .ok (.slice A' (k + 1) c') w') ∧
      w'.ownsRow base 9 1 (.slice A' (k + 1) c') (k + 1) ((xs ++ [s]).flatMap strC) ∧ Below base W w' ∧ KeepsT 9 W w' := by
  have ho : (W.alloc (.cells #[.string s] 9)).ownsRow base 9 1 (.slice A k c) k (xs.flatMap strC) := own_below hown (belowA (Below.refl _ _) _)
  obtain ⟨v', w', h1, h2, h3, h4⟩ := run_push_at (P := Tryz.prog) (ty := 40) (W.alloc (.cells #[.string s] 9)) (base := base) Tryz.underlying40 str_info rfl (by decide) ho W.heap.size (strC s) rfl (heapNew rfl) (by intro u hu; simp [strC] at hu; rcases hu with rfl; rfl)
    (by simp [maxLen]; omega) (by omega) (by simp; omega)
  obtain ⟨A', c', rfl⟩ := own_form h2
  refine ⟨A', c', w', fun _ => h1, ?_, ?_, ?_⟩
  · rw [List.flatMap_append]; simpa using h2
  · exact ((Below.refl base W).alloc hb _).trans h4
  · have k1 : KeepsT 9 W (W.alloc (.cells #[.string s] 9)) := KeepsT.of_below (belowA (Below.refl _ _) _)
    refine k1.trans ?_
    intro b cs t fr hbb ht
    refine ((grown_out h3).block b (Array.getElem?_eq_some_iff.1 hbb).1 (fun hbo => ?_)).trans hbb
    obtain ⟨cur, hc⟩ := own_type ho (b := b) (by simpa using hbo)
    rw [hc] at hbb
    injection hbb with hbb; injection hbb with _ h5 _; exact ht h5.symm
def PutPost (L : List ByteArray) (base : Nat) (w : World) (e : Ending) (w' : World) : Prop :=
  ∃ A c, e = .returned (.slice A L.length c) ∧ w'.ownsRow base 9 1 (.slice A L.length c) L.length (L.flatMap strC) ∧ KeepsT 9 w w' ∧ Below base w w'
theorem texts_is {w : World} {base : Nat} {A : Option Addr} {n c : Nat} {l : List ByteArray} (h : w.ownsRow base 9 1 (.slice A n c) n (l.flatMap strC)) (hl : l.length = n) (hn : n ≤ 1000000) (hok : ∀ s ∈ l, s.size ≤ reachN) : SliceIs Enc.str w w.heap.size A n c l :=
  SliceIs.of_flat (E := Enc.str) strC (fun _ => rfl) h hl (by simp [reachN]; omega) (fun q hq => ⟨rfl, hok q hq⟩)
set_option maxRecDepth 100000 in
set_option maxHeartbeats 2000000 in
theorem put_any (base : Nat) (A0 : Option Addr) (c0 m0 : Nat) (L0 : List ByteArray) (A : Option Addr) (n c : Nat) (l : List GTold) (w : World) (hbase : base ≤ w.heap.size) (hm0 : L0.length = m0) (hown : w.ownsRow base 9 1 (.slice A0 m0 c0) m0 (L0.flatMap strC)) (hok : ∀ s ∈ L0, s.size ≤ reachN)
    (hl : ∀ W, KeepsT 9 w W → Below base w W → SliceIs Enc.told W W.heap.size A n c l) (hsz : m0 + n ≤ 100000) :
    Calls Tryz.prog 46 #[.slice A0 m0 c0, .slice A n c] w (PutPost (putL L0 l) base w) := by
  have hl0 := hl w (KeepsT.refl _ _) (Below.refl _ _)
  have hn := hl0.bound
  have hlen := Lib.hid hl0.1
  have Htold := Lib.hid (fun t h => told_ok hl0 t h)
  have HL := Lib.hid hl
  have Hm0 := Lib.hid hm0
  have Hok := Lib.hid hok
  have Hown := Lib.hid hown
  obtain ⟨P, HP⟩ : ∃ P : Ending → World → Prop, Hid (P = PutPost (putL L0 l) base w) := ⟨_, rfl⟩
  rw [← HP.out]
  clear hl hl0 hok hown hm0
  go_enter Tryz.func46, Tryz.ntmps46
  go_wp2_with fail
  go_loopw [0, 6, 9] (fun v _ i wr => ∃ (k m c' : Nat) (A' : Option Addr) (L : List ByteArray), k ≤ n ∧ i = .int .i64 k ∧ v = .slice A' m c' ∧ Hid (putL L0 (l.take k) = L) ∧ m ≤ m0 + k ∧ Hid (L.length = m) ∧ Hid (wr.ownsRow base 9 1 (.slice A' m c') m (L.flatMap strC)) ∧ Hid (KeepsT 9 w wr) ∧ Below base w wr ∧ w.heap.size ≤ wr.heap.size) (fun _ _ i _ => n - (intOf i).toNat)
  case atStart => exact ⟨0, m0, c0, A0, L0, by omega, rfl, rfl, by show putL L0 _ = _; simp [putL], by omega, Hm0.out, Hown, KeepsT.refl _ _, Below.refl _ _, Nat.le_refl _⟩
  case round =>
    obtain ⟨k, m, c', A', L, hk, rfl, rfl, hL, hmk, HLm, HO, HKp, hbr, hzr⟩ := hrel
    have i0 : (0 : Int) ≤ (k : Int) := by omega
    by_cases hlt : k < n
    · have i1 : (k : Int) < (n : Int) := by omega
      obtain ⟨b, o, x, rfl, hbl, hx, x1, x2, x3, x4, hxs, _⟩ := (HL.out wr HKp.out hbr).told_at hlt
      have hbx : Below wr.heap.size wr (wr.alloc (.cells #[.string x.x, .int .i64 x.v.k, .int .i64 x.v.n, .string x.v.s] 65)) := belowA (Below.refl _ _) _
      have HbX := Lib.hid hbx
      have HLs : Hid (∀ s ∈ L, s.size ≤ reachN) := fun s h => by
        rw [← hL.out] at h
        rcases putL_mem h with h | ⟨t, ht, e⟩
        · exact Hok.out s h
        · exact e ▸ (Htold.out t (List.mem_of_mem_take ht)).1
      have HE : Hid (putL L0 (l.take (k + 1)) = put1 L x) := by
        show putL L0 (l.take (k + 1)) = put1 L x
        rw [putL_take hx.out, hL.out]
      cases he : x.x.toList.isEmpty with
      | true =>
        have HT : Hid (putL L0 (l.take (k + 1)) = L) := by rw [HE.out]; simp [put1, he, Hid]
        have he' : (!x.x.toList.isEmpty) = false := by simp [he]
        clear hbx HE HLs
        go_wp2_with fail
        go_roundw
        case rel => exact ⟨k + 1, m, c', A', L, by omega, by go_num, rfl, HT, by omega, HLm, own_below HO.out HbX.out, HKp.out.trans (KeepsT.of_below HbX.out), hbr.trans (HbX.out.mono (by omega)), by simp; omega⟩
        case measure => simp [intOf]; omega
      | false =>
        have he' : (!x.x.toList.isEmpty) = true := by simp [he]
        have hC := contains_any A' m c' L x.x (wr.alloc (.cells #[.string x.x, .int .i64 x.v.k, .int .i64 x.v.n, .string x.v.s] 65)) ((texts_is HO.out HLm.out (by omega) HLs.out).keep hbx)
        cases hm : decide (x.x ∈ L) with
        | true =>
          have HT : Hid (putL L0 (l.take (k + 1)) = L) := by rw [HE.out]; simp only [put1, he, hm, Bool.false_or, if_true]; exact trivial
          rw [hm] at hC
          have hC := Lib.hid hC
          clear hm hbx HE HLs
          go_wp2_with fail
          refine hC.out.mono ?_
          rintro e w1 ⟨rfl, hb1⟩
          have hbn : Below wr.heap.size wr w1 := below_next HbX.out hb1
          have hzn := hbn.size
          have HbN := Lib.hid hbn
          clear hbn hC hb1
          go_wp2_with fail
          go_roundw
          case rel => exact ⟨k + 1, m, c', A', L, by omega, by go_num, rfl, HT, by omega, HLm, own_below HO.out HbN.out, HKp.out.trans (KeepsT.of_below HbN.out), hbr.trans (HbN.out.mono (by omega)), by omega⟩
          case measure => simp [intOf]; omega
        | false =>
          have HT : Hid (putL L0 (l.take (k + 1)) = L ++ [x.x]) := by rw [HE.out]; simp only [put1, he, hm, Bool.false_or, Bool.false_eq_true, if_false]; exact trivial
          have Hxs := Lib.hid hxs
          rw [hm] at hC
          have hC := Lib.hid hC
          clear hm hbx HE hxs
          go_wp2_with fail
          refine hC.out.mono ?_
          rintro e w1 ⟨rfl, hb1⟩
          obtain ⟨hc, hf⟩ := bcell hb1
          have hz := hb1.size
          have hbn : Below wr.heap.size wr w1 := below_next HbX.out hb1
          have HbN := Lib.hid hbn
          simp only [World.size_alloc, Nat.add_one_le_iff] at hz hc hf
          obtain ⟨A2, c2, w3, hrun, hown2, hb3, hk3⟩ := str_push (own_below HO.out HbN.out) x.x (by omega) (by omega)
          have HRun := Lib.hid hrun
          have HO3 := Lib.hid hown2
          have HK3 : Hid (KeepsT 9 w w3) := (HKp.out.trans (KeepsT.of_below HbN.out)).trans hk3
          have hbw3 : Below base w w3 := (hbr.trans (HbN.out.mono (by omega))).trans hb3
          have hz3 := hb3.size
          have HB3 := Lib.hid hbw3
          have HLm2 : Hid ((L ++ [x.x]).length = m + 1) := by show _ = _; simp [HLm.out]
          clear hrun hown2 hk3 hbw3 hb3 hbn hC hb1 HLs
          go_wp2_with (at_builtin; refine wpList_append_run rfl _ _ _ rfl _ _ rfl rfl (HRun.out _) ?_)
          go_roundw
          case rel => exact ⟨k + 1, m + 1, c2, A2, L ++ [x.x], by omega, by go_num, rfl, HT, by omega, HLm2, HO3, HK3, HB3.out, by omega⟩
          case measure => simp [intOf]; omega
    · have i1 : ¬ (k : Int) < (n : Int) := by omega
      have e : putL L0 l = L := by rw [← hL.out, List.take_of_length_le (by have := hlen.out; omega)]
      have hPP : Hid (P (.returned (.slice A' m c')) wr) := by
        show P _ _
        rw [HP.out, e]
        refine ⟨A', c', by rw [HLm.out], by rw [HLm.out]; exact HO.out, HKp.out, hbr⟩
      clear HP e
      go_wp2_with fail
      exact hPP.out
end Go.Proofs.YtfklheagafffmaaGreatDoor

namespace Go.Proofs.YtfklheagafffmaaGreatDoor
open Go.RowKit
def GrowPost (w : World) (e : Ending) (w' : World) : Prop := ∃ A c, e = .returned (.slice A 0 c) ∧ w'.ownsRow w.heap.size 65 4 (.slice A 0 c) 0 [] ∧ Below w.heap.size w w'
set_option maxRecDepth 100000 in
set_option maxHeartbeats 2000000 in
theorem grow_any (n : Nat) (w : World) (hn : n ≤ 10000) : Calls Tryz.prog 101 #[.slice none 0 0, .int .i64 n] w (GrowPost w) := by
  have h1 : ¬ ((n : Int) < 0) := by omega
  by_cases h0 : n = 0
  · subst h0
    go_enter Tryz.func101, Tryz.ntmps101
    go_wp2
    go_ret
    exact ⟨none, 0, rfl, World.ownsRow_nil _ _ _ _, Below.refl _ _⟩
  · have h4 : (0 : Int) < (n : Int) := by omega
    obtain ⟨i0, hi0, hz0, hs0, hb0⟩ := info_parts termS_info
    have hold : (Builtin.firstCells i0.size 0 (.slice none 0 0)).run Tryz.prog w.drew = .ok (List.toArray []) w.drew := Go.run_firstCells_none w.drew i0.size 0 0 0
    have hgn : n ≤ grownCap w n 0 65 := grownCap_ge w _ _ _
    have hgm : grownCap w n 0 65 ≤ maxLen := grownCap_le_maxLen w n 0 65 (by simp [maxLen]; omega)
    obtain ⟨cap, cur, h5, h6, h7, hrz⟩ : ∃ cap cur, n ≤ cap ∧ cap ≤ maxLen ∧ cur.size = cap * 4 ∧ ∀ ty, (Builtin.append_ #[22, 3] ty #[.slice none 0 0, .int .i64 n]).run Tryz.prog w = .ok (.slice (some ⟨w.heap.size, 0, none⟩) n cap) (w.drew.alloc (.cells cur 65)) := by
      have h := fun ty => Lib.run_append_grow_zeros w 22 3 ty 65 i0 _ .i64 .i64 Tryz.underlying22 Tryz.underlying3 hi0 hz0 none 0 0 [] hold n (by omega) (by omega) (by omega) (by omega)
          (by rw [hb0]; omega) (by rw [Nat.zero_add]; exact growslice_fits (by omega) (by rw [hb0]; omega))
      simp only [Nat.zero_add] at h
      refine ⟨_, _, hgn, hgm, ?_, h⟩
      simp only [Array.size_append, size_zeroCells, List.size_toArray, List.length_nil, Value.cells]
      simp only [List.length_cons, List.length_nil]
      omega
    have HRz := Lib.hid hrz
    clear hrz hold hgn hgm
    have c1 : (0 : Int) ≤ (cap : Int) := by omega
    go_enter Tryz.func101, Tryz.ntmps101
    go_wp2_with (at_builtin; refine Lib.wpList_append_run _ rfl _ _ _ _ rfl _ _ rfl rfl _ _ (HRz.out _) ?_)
    go_ret
    exact ⟨some ⟨w.heap.size, 0, none⟩, cap, rfl, ⟨by simp, .inr ⟨w.heap.size, cap, cur, rfl, Nat.le_refl _, (Go.heap_alloc_new w _ : (w.alloc _).heap[w.heap.size]? = some _), Nat.zero_le _, h6, h7, by simp⟩⟩, (belowA (Below.refl _ _) _).drew⟩
def sumLen (ls : List (List GTold)) : Nat := (ls.map List.length).sum
theorem sumLen_take {ls : List (List GTold)} {k : Nat} {l : List GTold} (hx : ls[k]? = some l) : sumLen (ls.take (k + 1)) = sumLen (ls.take k) + l.length := by
  rw [List.take_add_one, hx]; simp [sumLen]
theorem sumLen_le (ls : List (List GTold)) (k : Nat) : sumLen (ls.take k) ≤ sumLen ls := by
  have : sumLen ls = sumLen (ls.take k) + sumLen (ls.drop k) := by
    have h := congrArg sumLen (List.take_append_drop k ls)
    simp only [sumLen, List.map_append, List.sum_append] at h ⊢
    exact h.symm
  omega
theorem flat_take {ls : List (List GTold)} {k : Nat} {l : List GTold} (hx : ls[k]? = some l) : (ls.take (k + 1)).flatten = (ls.take k).flatten ++ l := by
  rw [List.take_add_one, hx]; simp
theorem flat_sum (ls : List (List GTold)) : ls.flatten.length = sumLen ls := by simp [sumLen, List.length_flatten]
set_option maxRecDepth 100000 in
set_option maxHeartbeats 2000000 in
theorem concat_any (A : Option Addr) (n c : Nat) (ls : List (List GTold)) (w : World) (hl : SliceIs (Enc.slice Enc.told) w w.heap.size A n c ls) (hsum : sumLen ls ≤ 10000) :
    Calls Tryz.prog 74 #[.slice A n c] w (CollPost ls.flatten w) := by
  have hn := hl.bound
  have hlen := Lib.hid hl.1
  have HL := Lib.hid hl
  have Hok : Hid (∀ x ∈ ls.flatten, x.x.size ≤ reachN ∧ x.v.ok) := by
    intro x hx
    obtain ⟨l, hl1, hx⟩ := List.mem_flatten.1 hx
    obtain ⟨i, hi, rfl⟩ := List.mem_iff_getElem.1 hl1
    obtain ⟨b, o, l', A2, m, c2, _, _, hx', _, hs⟩ := hl.slice_at (i := i) (by rw [← hl.1]; exact hi)
    have e : ls[i] = l' := by have := hx'.out; rw [List.getElem?_eq_getElem hi] at this; simpa using this
    exact told_ok hs x (e ▸ hx)
  go_enter Tryz.func74, Tryz.ntmps74
  go_wp2_with fail
  go_loop [3, 5, 11] (fun t _ i => ∃ k : Nat, k ≤ n ∧ i = .int .i64 k ∧ t = .int .i64 (sumLen (ls.take k) : Nat)) (fun _ _ i => n - (intOf i).toNat)
  case atStart => exact ⟨0, by omega, rfl, by simp [sumLen]⟩
  case round =>
    obtain ⟨k, hk, rfl, rfl⟩ := hrel
    have hsk := sumLen_le ls k
    by_cases hlt : k < n
    · obtain ⟨b, o, l, A2, m, c2, rfl, hb, hx, hc, hs⟩ := hl.slice_at hlt
      have hml := hs.1
      have hsk1 := sumLen_le ls (k + 1)
      rw [sumLen_take hx.out] at hsk1
      have HT := Lib.hid (sumLen_take hx.out)
      have i1 : (k : Int) < (n : Int) := by omega
      clear hl
      go_wp2_with fail
      go_round
      case rel => exact ⟨k + 1, by omega, by go_num, by rw [HT.out, hml]; go_num⟩
      case measure => simp [intOf]; omega
    · have hkn : k = n := by omega
      subst hkn
      have Htot : Hid (sumLen (ls.take k) = sumLen ls) := by
        show _ = _
        rw [List.take_of_length_le (by have := hlen.out; omega)]
      go_wp2_with fail
      refine (grow_any _ w (by omega)).mono ?_
      rintro e w1 ⟨A1, c1, rfl, hown, hb1⟩
      clear hsk
      go_wp2_with fail
      go_loopw [6, 8, 27] (fun v _ i wr => ∃ (j m : Nat), j ≤ k ∧ i = .int .i64 j ∧ m = sumLen (ls.take j) ∧ wr.ownsRow w.heap.size 65 4 v m ((ls.take j).flatten.flatMap GTold.cells) ∧ Below w.heap.size w wr) (fun _ _ i _ => k - (intOf i).toNat)
      case atStart => exact ⟨0, 0, by omega, rfl, by simp [sumLen], by simpa using hown, hb1⟩
      case round =>
        obtain ⟨j, m, hj, rfl, hm, hown, hbr⟩ := hrel
        by_cases hlt2 : j < k
        · obtain ⟨b, o, l, A2, m2, c2, rfl, hb, hx, hc, hs⟩ := (HL.out.below hbr).slice_at hlt2
          have hsk1 := sumLen_le ls (j + 1)
          rw [sumLen_take hx.out] at hsk1
          have hm2 := hs.1
          have HT := Lib.hid (sumLen_take hx.out)
          have HF := Lib.hid (flat_take hx.out)
          have i1 : (j : Int) < (k : Int) := by omega
          obtain ⟨v2, w3, hrun, hown2, _, hb3⟩ := run_append_slice (P := Tryz.prog) (E := Enc.told) GTold.cells (fun _ => rfl) (fun h => h.1) (by intro x u hu; simp [GTold.cells] at hu; rcases hu with rfl | rfl | rfl | rfl <;> rfl) wr (ty := 22) Tryz.underlying22 termS_info rfl (by decide) hown hs
            (by simp [maxLen]; omega) (by omega) (by have := hbr.size; omega)
          obtain ⟨A3, c3, rfl⟩ := own_form hown2
          have HRun := Lib.hid hrun
          have Hm := Lib.hid hm
          clear hrun hm hsk1
          go_wp2_with (at_builtin; refine wpList_append_run rfl _ _ _ rfl _ _ rfl rfl HRun ?_)
          go_roundw
          case rel => exact ⟨j + 1, m + m2, by omega, by go_num, by rw [HT.out, Hm.out, hm2], by rw [HF.out, List.flatMap_append]; exact hown2, hbr.trans hb3⟩
          case measure => simp [intOf]; omega
        · have hjk : j = k := by omega
          subst hjk
          have Hown := Lib.hid hown
          obtain ⟨A3, c3, rfl⟩ := own_form hown
          have Hm := Lib.hid hm
          clear hown hm
          go_wp2_with fail
          go_ret
          have et : ls.take j = ls := List.take_of_length_le (by have := hlen.out; omega)
          have hown := Hown.out
          have hm := Hm.out
          rw [et] at hown hm
          have hml : ls.flatten.length = m := by rw [flat_sum, hm]
          exact ⟨A3, c3, by rw [hml]; rfl, by rw [hml]; exact hown, hbr⟩
end Go.Proofs.YtfklheagafffmaaGreatDoor
