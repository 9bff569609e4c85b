/- My own texts ShowRL, TRefE, as far as this claim needs them. -/
import Derived.Test.YtplekbpmfaghbaaGreatDoorZd1
import Derived.Test.YtplekbpmfaghbaaGreatDoorZd8
import Derived.Test.YtplekbpmfaghbaaGreatDoorZd9
import Derived.Test.YtplekbpmfaghbaaGreatDoorZd10
import Derived.Test.YtplekbpmfaghbaaGreatDoorZd11
import Derived.Test.YtplekbpmfaghbaaGreatDoorZd13
import Derived.Test.YtplekbpmfaghbaaGreatDoorZd14
import Derived.Test.YtplekbpmfaghbaaGreatDoorZd15
import Derived.Test.YtplekbpmfaghbaaGreatDoorZdb4
import Derived.Test.YtplekbpmfaghbaaGreatDoorZdb7
import Derived.Test.YtplekbpmfaghbaaGreatDoorZdb8
import Derived.WalkKit
import Derived.WalkSpells
import Derived.WalkLawsBesides
import Derived.MapKept
import Derived.BigQuiet
import Derived.Lib.Hide
import Derived.Deep.Draws
import Derived.Deep.QuietTactic
import Derived.Deep.MidRow
import Derived.Great.Walk
import Derived.Great.BuildSlice
import Derived.Deep.RegionHeld3
set_option linter.unusedVariables false
set_option linter.unusedSimpArgs false
namespace Go.Proofs.YtplekbpmfaghbaaGreatDoor
open Go.RowKit
theorem refAtom0_any (x : GAtom) (A : Option Addr) (n c : Nat) (w : World) (ht : SliceIs Enc.told w w.heap.size A n c x.args) (hlen : (atomS x 0 0).length ≤ 1000000000000) :
    Calls Tryz.prog 76 #[.agg #[.string x.rel, .slice A n c], .int .i64 0, .int .i64 0] w (RetV (.string (bytes (atomS x 0 0))) w) := refAtom_any 0 0 x A n c w ht (by omega) hlen
def rlF (j H : Nat) (sl so sr : ByteArray) (vl vr : Value) (i : Nat) (v : Value) (W : World) : Prop := match i with
  | 0 => v = .pointer (some ⟨H, 4, none⟩)
  | 1 => v = vl
  | 2 => v = .string sl
  | 3 => ∃ h, v = .slice (some ⟨h, 0, none⟩) 7 7 ∧ W.cell? ⟨h, j, none⟩ = some (.string so)
  | 4 => v = .pointer (some ⟨H, 3, none⟩)
  | 5 => v = .int .i64 j
  | 6 => ∃ h, v = .pointer (some ⟨h, j, none⟩) ∧ W.cell? ⟨h, j, none⟩ = some (.string so)
  | 7 => v = .string so
  | 8 => v = .string (sl ++ so)
  | 9 => v = .pointer (some ⟨H, 10, none⟩)
  | 10 => v = vr
  | 11 => v = .string sr
  | 12 => v = .string (sl ++ so ++ sr)
  | _ => True
theorem rlF_keep {j H : Nat} {sl so sr : ByteArray} {vl vr : Value} {i : Nat} {v : Value} {W W' : World} (h : rlF j H sl so sr vl vr i v W) (hb : Below W.heap.size W W') : rlF j H sl so sr vl vr i v W' := by
  match i, h with
  | 0, h => exact h
  | 1, h => exact h
  | 2, h => exact h
  | 3, ⟨q, h1, h2⟩ => exact ⟨q, h1, below_cell hb h2⟩
  | 4, h => exact h
  | 5, h => exact h
  | 6, ⟨q, h1, h2⟩ => exact ⟨q, h1, below_cell hb h2⟩
  | 7, h => exact h
  | 8, h => exact h
  | 9, h => exact h
  | 10, h => exact h
  | 11, h => exact h
  | 12, h => exact h
  | _ + 13, _ => exact trivial
set_option maxRecDepth 100000 in
set_option maxHeartbeats 8000000 in
theorem refLiteral_any (d : Nat) (x : GLit) (A : Option Addr) (an ac : Nat) (P : Option Addr) (pn pc : Nat) (Q : Option Addr) (qn qc : Nat) (w : World) (h : LitAt d w w.heap.size x ⟨A, an, ac⟩ ⟨P, pn, pc⟩ ⟨Q, qn, qc⟩) (hr : rightLit x = true) (hlen : (litS x).length ≤ 1000000000000) :
    Calls Tryz.prog 26 #[.agg #[.int .i64 x.k, .string x.atom.rel, .slice A an ac, .int .i64 x.op, .int .i64 x.l.op, .string x.l.t.x, .int .i64 x.l.t.v.k, .int .i64 x.l.t.v.n, .string x.l.t.v.s, .slice P pn pc, .int .i64 x.r.op, .string x.r.t.x, .int .i64 x.r.t.v.k, .int .i64 x.r.t.v.n, .string x.r.t.v.s, .slice Q qn qc, .int .i64 x.pos]] w (RetV (.string (bytes (litS x))) w) := by
  have mixed : Tryz.prog.follows .mixedOrders = true := by kernel_rfl
  obtain ⟨S, HS⟩ : ∃ S, Hid (S = litS x) := ⟨_, rfl⟩
  rw [← HS.out] at hlen ⊢
  have hrb : (w.alloc (.cells #[.int .i64 x.k, .string x.atom.rel, .slice A an ac, .int .i64 x.op, .int .i64 x.l.op, .string x.l.t.x, .int .i64 x.l.t.v.k, .int .i64 x.l.t.v.n, .string x.l.t.v.s, .slice P pn pc, .int .i64 x.r.op, .string x.r.t.x, .int .i64 x.r.t.v.k, .int .i64 x.r.t.v.n, .string x.r.t.v.s, .slice Q qn qc, .int .i64 x.pos] 53)).heap[w.heap.size]? = some (.cells #[.int .i64 x.k, .string x.atom.rel, .slice A an ac, .int .i64 x.op, .int .i64 x.l.op, .string x.l.t.x, .int .i64 x.l.t.v.k, .int .i64 x.l.t.v.n, .string x.l.t.v.s, .slice P pn pc, .int .i64 x.r.op, .string x.r.t.x, .int .i64 x.r.t.v.k, .int .i64 x.r.t.v.n, .string x.r.t.v.s, .slice Q qn qc, .int .i64 x.pos] 53 (0, 0)) := heapNew rfl
  have hba : Below w.heap.size w (w.alloc (.cells #[.int .i64 x.k, .string x.atom.rel, .slice A an ac, .int .i64 x.op, .int .i64 x.l.op, .string x.l.t.x, .int .i64 x.l.t.v.k, .int .i64 x.l.t.v.n, .string x.l.t.v.s, .slice P pn pc, .int .i64 x.r.op, .string x.r.t.x, .int .i64 x.r.t.v.k, .int .i64 x.r.t.v.n, .string x.r.t.v.s, .slice Q qn qc, .int .i64 x.pos] 53)) := belowA (Below.refl _ _) _
  have HH := Lib.hid (h.keep hba)
  have Hba := Lib.hid hba
  have Hla := Lib.hid h.args.1
  have Hrb := Lib.hid hrb
  obtain ⟨f0, f1, f2, f3, f4, f5, f6, f7, f8, f9, f10, f11, f12, f13, f14, f15, f16⟩ := facts17 hrb
  have hcs := rightLit_cases hr
  clear h hr hrb hba
  obtain ⟨kk, hkk⟩ : ∃ kk, x.k = kk := ⟨_, rfl⟩
  rw [hkk] at hcs
  have HK := Lib.hid hkk
  generalize hwb : (w.alloc (.cells #[.int .i64 x.k, .string x.atom.rel, .slice A an ac, .int .i64 x.op, .int .i64 x.l.op, .string x.l.t.x, .int .i64 x.l.t.v.k, .int .i64 x.l.t.v.n, .string x.l.t.v.s, .slice P pn pc, .int .i64 x.r.op, .string x.r.t.x, .int .i64 x.r.t.v.k, .int .i64 x.r.t.v.n, .string x.r.t.v.s, .slice Q qn qc, .int .i64 x.pos] 53)) = wb at *
  clear hkk
  rcases hcs with ⟨rfl, h6⟩ | ⟨rfl, h6⟩ | ⟨rfl, ho1, ho6, hl, hr⟩
  rotate_left
  rotate_left
  · have q1 : (x.k == 3) = true := by simp [HK.out]
    obtain ⟨j, hj⟩ : ∃ j : Nat, x.op = (j : Int) := ⟨x.op.toNat, by omega⟩
    have j0 : (0 : Int) ≤ x.op := by omega
    have j1 : x.op < 7 := by omega
    have hE : S = expS 20 x.l ++ [32] ++ sgnS x.op ++ [32] ++ expS 20 x.r := by rw [HS.out]; unfold litS; rw [if_pos HK.out]
    have hl0 := hlen
    rw [hE] at hl0
    simp only [List.length_append, List.length_cons, List.length_nil] at hl0
    have HC1 := Lib.hid (fun (W : World) (hb : Below wb.heap.size wb W) => refExp2_any 20 x.l P pn pc d W hl (HH.out.keep hb).lk HH.out.lv HH.out.lx (by omega))
    have HC2 := Lib.hid (fun (W : World) (hb : Below wb.heap.size wb W) => refExp2_any 20 x.r Q qn qc d W hr (HH.out.keep hb).rk HH.out.rv HH.out.rx (by omega))
    have HSE : Hid (bytes S = bytes (expS 20 x.l) ++ bytes ([32] ++ sgnS x.op ++ [32]) ++ bytes (expS 20 x.r)) := by
      show _ = _
      rw [hE, bytes_app, bytes_app]
      simp only [List.append_assoc]
    have e1 : (bytes (expS 20 x.l)).size = (expS 20 x.l).length := rfl
    have e2 : (bytes (expS 20 x.r)).size = (expS 20 x.r).length := rfl
    have e3 : (bytes ([32] ++ sgnS x.op ++ [32])).size ≤ 4 := by
      have := sgnS_len x.op
      show ([32] ++ sgnS x.op ++ [32]).length ≤ 4
      simp only [List.length_append, List.length_cons, List.length_nil]
      omega
    rw [hj] at f3 j0 j1
    have kW : ∀ W : World, (W.alloc (.cells #[.string ⟨#[]⟩, .string ⟨#[32, 61, 32]⟩, .string ⟨#[32, 33, 61, 32]⟩, .string ⟨#[32, 60, 32]⟩, .string ⟨#[32, 60, 61, 32]⟩, .string ⟨#[32, 62, 32]⟩, .string ⟨#[32, 62, 61, 32]⟩] 9)).cell? ⟨W.heap.size, j, none⟩ = some (.string (bytes ([32] ++ sgnS x.op ++ [32]))) := fun W => by
      rw [hj]
      have hj6 : j = 1 ∨ j = 2 ∨ j = 3 ∨ j = 4 ∨ j = 5 ∨ j = 6 := by omega
      rcases hj6 with rfl | rfl | rfl | rfl | rfl | rfl
      · exact (cell_of_row _ _ 1 _ _ _ (heapNew rfl)).trans rfl
      · exact (cell_of_row _ _ 2 _ _ _ (heapNew rfl)).trans rfl
      · exact (cell_of_row _ _ 3 _ _ _ (heapNew rfl)).trans rfl
      · exact (cell_of_row _ _ 4 _ _ _ (heapNew rfl)).trans rfl
      · exact (cell_of_row _ _ 5 _ _ _ (heapNew rfl)).trans rfl
      · exact (cell_of_row _ _ 6 _ _ _ (heapNew rfl)).trans rfl
    have HJ := Lib.hid hj
    clear hj
    generalize bytes (expS 20 x.l) = sl at *
    generalize bytes (expS 20 x.r) = sr at *
    generalize bytes ([32] ++ sgnS x.op ++ [32]) = so at *
    have y3 : ¬ (9223372036854775807 < sl.size + so.size) := by omega
    have y5 : ¬ (9223372036854775807 < sl.size + so.size + sr.size) := by omega
    clear hE hl0 e1 e2 e3 HS hlen hl hr
    go_enter Tryz.func26, Tryz.ntmps26
    go_wp2_with fail
    try simp only [hwb]
    clear hwb
    try simp only [HJ.out]
    go_wp2_with fail
    refine drawn2 mixed 13 29 [6, 7, 8, 9, 10, 11, 12, 13, 14, 15, 16, 17, 18] (fun _ W => Below wb.heap.size wb W) (rlF j w.heap.size sl so sr (.agg #[.int .i64 x.l.op, .string x.l.t.x, .int .i64 x.l.t.v.k, .int .i64 x.l.t.v.n, .string x.l.t.v.s, .slice P pn pc]) (.agg #[.int .i64 x.r.op, .string x.r.t.x, .int .i64 x.r.t.v.k, .int .i64 x.r.t.v.n, .string x.r.t.v.s, .slice Q qn qc])) (fun _ W W' => Below W.heap.size W W') rfl (by kernel_rfl) (by kernel_rfl) rfl (fun j _ => below_drewN _ 1 _) (fun i j v W W' _ _ _ h h' => rlF_keep h h') (fun _ _ _ _ _ _ _ _ h h' => below_next h h') ?_ ?_
    · intro i o2' a2 W hi ho hd hold hG _ hw
      have hr1 : a2.tmps[1]? = some (.pointer (some ⟨w.heap.size, 0, none⟩)) := hold 1 (by kernel_rfl)
      clear hold
      match i, hi, ho with
          | 0, _, ho =>
            injection ho with ho; subst ho
            exact op_val _ (by simp [execOp, Act.eval, hr1, go_sem]) ⟨_, rfl, Below.refl _ _, rfl⟩
          | 1, _, ho =>
            injection ho with ho; subst ho
            obtain ⟨v0, h0, e0⟩ := hw 0 6 (by kernel_rfl)
            obtain rfl : v0 = _ := e0
            have z4 := below_cell hG f4; have z5 := below_cell hG f5; have z6 := below_cell hG f6; have z7 := below_cell hG f7; have z8 := below_cell hG f8; have z9 := below_cell hG f9
            exact op_val _ (by simp [execOp, Act.eval, h0, go_sem, z4, z5, z6, z7, z8, z9]) ⟨_, rfl, Below.refl _ _, rfl⟩
          | 2, _, ho =>
            injection ho with ho; subst ho
            obtain ⟨v1, h1, e1⟩ := hw 1 7 (by kernel_rfl)
            obtain rfl : v1 = _ := e1
            refine op_call 29 _ rfl rfl #[.agg #[.int .i64 x.l.op, .string x.l.t.x, .int .i64 x.l.t.v.k, .int .i64 x.l.t.v.n, .string x.l.t.v.s, .slice P pn pc]] (by simp [Act.eval, h1]) _ Tryz.func29 (by kernel_rfl) (by kernel_rfl) ((HC1.out W hG).mono ?_)
            rintro r w' ⟨rfl, hb⟩
            exact ⟨_, rfl, _, rfl, hb, rfl⟩
          | 3, _, ho =>
            injection ho with ho; subst ho
            exact op_bslice 81 9 7 _ rfl 1 [.string ⟨#[]⟩, .string ⟨#[32, 61, 32]⟩, .string ⟨#[32, 33, 61, 32]⟩, .string ⟨#[32, 60, 32]⟩, .string ⟨#[32, 60, 61, 32]⟩, .string ⟨#[32, 62, 32]⟩, .string ⟨#[32, 62, 61, 32]⟩] Tryz.underlying81 (by kernel_rfl) (by decide) rfl (by decide) (by decide) (by simp [Act.eval]) (fun v hv => by simp at hv; rcases hv with rfl | rfl | rfl | rfl | rfl | rfl | rfl <;> rfl) ⟨_, rfl, belowA (Below.refl _ _) _, _, rfl, kW W⟩
          | 4, _, ho =>
            injection ho with ho; subst ho
            exact op_val _ (by simp [execOp, Act.eval, hr1, go_sem]) ⟨_, rfl, Below.refl _ _, rfl⟩
          | 5, _, ho =>
            injection ho with ho; subst ho
            obtain ⟨v4, h4, e4⟩ := hw 4 10 (by kernel_rfl)
            obtain rfl : v4 = _ := e4
            have z3 := below_cell hG f3
            exact op_val _ (by simp [execOp, Act.eval, h4, go_sem, z3]) ⟨_, rfl, Below.refl _ _, rfl⟩
          | 6, _, ho =>
            injection ho with ho; subst ho
            obtain ⟨v3, h3, e3⟩ := hw 3 9 (by kernel_rfl)
            obtain ⟨q3, rfl, kc3⟩ := e3
            obtain ⟨v5, h5, e5⟩ := hw 5 11 (by kernel_rfl)
            obtain rfl : v5 = _ := e5
            exact op_val _ (by simp [execOp, Act.eval, h3, h5, go_sem, j0, j1]) ⟨_, rfl, Below.refl _ _, _, rfl, kc3⟩
          | 7, _, ho =>
            injection ho with ho; subst ho
            obtain ⟨v6, h6, e6⟩ := hw 6 12 (by kernel_rfl)
            obtain ⟨q6, rfl, kc6⟩ := e6
            exact op_val _ (by simp [execOp, Act.eval, h6, go_sem, kc6]) ⟨_, rfl, Below.refl _ _, rfl⟩
          | 8, _, ho =>
            injection ho with ho; subst ho
            obtain ⟨v2, h2, e2⟩ := hw 2 8 (by kernel_rfl)
            obtain rfl : v2 = _ := e2
            obtain ⟨v7, h7, e7⟩ := hw 7 13 (by kernel_rfl)
            obtain rfl : v7 = _ := e7
            exact op_val _ (by simp [execOp, Act.eval, h2, h7, go_sem, y3]) ⟨_, rfl, Below.refl _ _, rfl⟩
          | 9, _, ho =>
            injection ho with ho; subst ho
            exact op_val _ (by simp [execOp, Act.eval, hr1, go_sem]) ⟨_, rfl, Below.refl _ _, rfl⟩
          | 10, _, ho =>
            injection ho with ho; subst ho
            obtain ⟨v9, h9, e9⟩ := hw 9 15 (by kernel_rfl)
            obtain rfl : v9 = _ := e9
            have z10 := below_cell hG f10; have z11 := below_cell hG f11; have z12 := below_cell hG f12; have z13 := below_cell hG f13; have z14 := below_cell hG f14; have z15 := below_cell hG f15
            exact op_val _ (by simp [execOp, Act.eval, h9, go_sem, z10, z11, z12, z13, z14, z15]) ⟨_, rfl, Below.refl _ _, rfl⟩
          | 11, _, ho =>
            injection ho with ho; subst ho
            obtain ⟨v10, h10, e10⟩ := hw 10 16 (by kernel_rfl)
            obtain rfl : v10 = _ := e10
            refine op_call 29 _ rfl rfl #[.agg #[.int .i64 x.r.op, .string x.r.t.x, .int .i64 x.r.t.v.k, .int .i64 x.r.t.v.n, .string x.r.t.v.s, .slice Q qn qc]] (by simp [Act.eval, h10]) _ Tryz.func29 (by kernel_rfl) (by kernel_rfl) ((HC2.out W hG).mono ?_)
            rintro r w' ⟨rfl, hb⟩
            exact ⟨_, rfl, _, rfl, hb, rfl⟩
          | 12, _, ho =>
            injection ho with ho; subst ho
            obtain ⟨v8, h8, e8⟩ := hw 8 14 (by kernel_rfl)
            obtain rfl : v8 = _ := e8
            obtain ⟨v11, h11, e11⟩ := hw 11 17 (by kernel_rfl)
            obtain rfl : v11 = _ := e11
            exact op_val _ (by simp [execOp, Act.eval, h8, h11, go_sem, y5]) ⟨_, rfl, Below.refl _ _, rfl⟩
          | n + 13, hi, _ => omega
    · intro o2' u W ho hG hw
      have e0 := hw 12 18 (by decide) (by kernel_rfl)
      obtain ⟨hop, hds⟩ : o2'.op = .assign (.tmp 18) ∧ o2'.dst = some 2 := by injection ho with ho; subst ho; exact ⟨rfl, rfl⟩
      clear ho
      simp only [List.foldl_cons, List.foldl_nil, Act.put, List.setIfInBounds_toArray, List.set_cons_zero, List.set_cons_succ]
      rw [show u 18 = Value.string (sl ++ so ++ sr) from e0]
      have HBn := Lib.hid (below_next Hba.out hG)
      refine op_assign (.tmp 18) (.inl hop) (.string (sl ++ so ++ sr)) (by simp [Act.eval]) ?_
      clear hw e0 HC1 HC2 hG y3 y5 kW
      rw [hds]
      clear hop hds
      simp only [Act.put, List.setIfInBounds_toArray, List.set_cons_zero, List.set_cons_succ]
      go_wp2_with fail
      go_ret
      exact ⟨by rw [HSE.out]; rfl, HBn.out⟩
  · have q1 : (x.k == 3) = false := by simp [HK.out]
    have q2 : (x.k == 2) = false := by simp [HK.out]
    have hE : S = atomS x.atom 0 0 := by rw [HS.out]; unfold litS; simp [HK.out]
    have hl0 := hlen
    rw [hE] at hl0
    skip
    have HC1 := Lib.hid (refAtom0_any x.atom A an ac wb HH.out.args (by omega))
    have HSE : Hid (bytes S = bytes (atomS x.atom 0 0)) := by
      show _ = bytes (atomS x.atom 0 0)
      rw [hE]
    have e1 : (bytes (atomS x.atom 0 0)).size = (atomS x.atom 0 0).length := rfl
    generalize bytes (atomS x.atom 0 0) = st at *
    have y1 : ¬ (9223372036854775807 < 4 + st.size) := by omega
    have y2 : ¬ (9223372036854775803 < st.size) := by omega
    clear hE hl0 e1 HS hlen
    go_enter Tryz.func26, Tryz.ntmps26
    go_wp2_with fail
    try simp only [hwb]
    clear hwb
    go_wp2_with fail
    refine HC1.out.mono ?_
    rintro r wN ⟨rfl, hb1⟩
    go_wp2_with fail
    go_ret
    exact ⟨by rw [HSE.out]; rfl, below_next Hba.out hb1⟩
  · have q1 : (x.k == 3) = false := by simp [HK.out]
    have q2 : (x.k == 2) = true := by simp [HK.out]
    have hE : S = [110, 111, 116, 32] ++ atomS x.atom 0 0 := by rw [HS.out]; unfold litS; simp [HK.out]
    have hl0 := hlen
    rw [hE] at hl0
    simp only [List.length_append, List.length_cons, List.length_nil] at hl0
    have HC1 := Lib.hid (refAtom0_any x.atom A an ac wb HH.out.args (by omega))
    have HSE : Hid (bytes S = ⟨#[110, 111, 116, 32]⟩ ++ bytes (atomS x.atom 0 0)) := by
      show _ = bytes [110, 111, 116, 32] ++ bytes (atomS x.atom 0 0)
      rw [hE, bytes_app]
    have e1 : (bytes (atomS x.atom 0 0)).size = (atomS x.atom 0 0).length := rfl
    generalize bytes (atomS x.atom 0 0) = st at *
    have y1 : ¬ (9223372036854775807 < 4 + st.size) := by omega
    have y2 : ¬ (9223372036854775803 < st.size) := by omega
    clear hE hl0 e1 HS hlen
    go_enter Tryz.func26, Tryz.ntmps26
    go_wp2_with fail
    try simp only [hwb]
    clear hwb
    go_wp2_with fail
    refine HC1.out.mono ?_
    rintro r wN ⟨rfl, hb1⟩
    go_wp2_with fail
    go_ret
    exact ⟨by rw [HSE.out]; rfl, below_next Hba.out hb1⟩
end Go.Proofs.YtplekbpmfaghbaaGreatDoor

namespace Go.Proofs.YtplekbpmfaghbaaGreatDoor
open Go.RowKit
abbrev exp5 (e : GExp) (A : Option Addr) (n c : Nat) : Value := .agg #[.int .i64 e.op, .string e.t.x, .int .i64 e.t.v.k, .int .i64 e.t.v.n, .string e.t.v.s, .slice A n c]
set_option maxRecDepth 100000 in
set_option maxHeartbeats 4000000 in
theorem refRightE_any : ∀ (k : Nat) (e : GExp) (A : Option Addr) (n c d : Nat) (w : World), k ≤ 20 → SliceIs (Enc.exp d) w w.heap.size A n c e.kids → e.t.v.ok →
    Calls Tryz.prog 78 #[exp5 e A n c, .int .i64 (k : Int)] w (RetBool (rightE k e) w) := by
  intro k
  induction k using Nat.strongRecOn with
  | ind k ih =>
    intro e A n c d w hk20 hk hv
    have IH := Lib.hid ih
    have hn := hk.bound
    have HK := Lib.hid hk
    have Hlen := Lib.hid hk.1
    have hrb : (w.alloc (.cells #[.int .i64 e.op, .string e.t.x, .int .i64 e.t.v.k, .int .i64 e.t.v.n, .string e.t.v.s, .slice A n c] 51)).heap[w.heap.size]? = some (.cells #[.int .i64 e.op, .string e.t.x, .int .i64 e.t.v.k, .int .i64 e.t.v.n, .string e.t.v.s, .slice A n c] 51 (0, 0)) := heapNew rfl
    have hba : Below w.heap.size w (w.alloc (.cells #[.int .i64 e.op, .string e.t.x, .int .i64 e.t.v.k, .int .i64 e.t.v.n, .string e.t.v.s, .slice A n c] 51)) := belowA (Below.refl _ _) _
    obtain ⟨P, HP⟩ : ∃ P, Hid (P = RetBool (rightE k e) w) := ⟨_, rfl⟩
    rw [← HP.out]
    have HBad : Hid (rightE k e = false → ∀ w', Below w.heap.size w w' → P (.returned (.bool false)) w') := fun h w' hb => by rw [HP.out, h]; exact ⟨rfl, hb⟩
    obtain ⟨b0, b1, b2, b3, b4, b5⟩ := facts6 hrb
    have Hlt := Lib.hid (Array.getElem?_eq_some_iff.1 hrb).1
    have HR := Lib.hid (refTright_any e.t hv (w.alloc (.cells #[.int .i64 e.op, .string e.t.x, .int .i64 e.t.v.k, .int .i64 e.t.v.n, .string e.t.v.s, .slice A n c] 51)))
    clear hk hv ih
    by_cases h0 : e.op = 0
    · have q0 : (e.op == 0) = true := by simp [h0]
      have HL : Hid (rightE k e = (e.kids.isEmpty && rightT e.t)) := rightE_leaf h0
      by_cases hn0 : n = 0
      · have q2 : ((n : Int) == 0) = true := by simp [hn0]
        have hke : e.kids.isEmpty = true := by have := Hlen.out; simp; exact List.eq_nil_of_length_eq_zero (by omega)
        have HG : Hid (∀ w', Below w.heap.size w w' → P (.returned (.bool (rightT e.t))) w') := fun w' hb => by rw [HP.out, HL.out, hke]; exact ⟨rfl, hb⟩
        clear HP hke h0 hn0 HL HBad HK
        generalize hwb : (w.alloc (.cells #[.int .i64 e.op, .string e.t.x, .int .i64 e.t.v.k, .int .i64 e.t.v.n, .string e.t.v.s, .slice A n c] 51)) = wb at *
        go_enter Tryz.func78, Tryz.ntmps78
        go_wp2_with fail
        try simp only [hwb]
        go_wp2_with fail
        refine HR.out.mono ?_
        rintro e1 w1 ⟨rfl, hb⟩
        have Hb := Lib.hid hb
        clear hb
        generalize rightT e.t = bb at *
        cases bb <;>
        · go_wp2_with fail
          first | exact HG.out _ (below_next hba Hb.out) | (go_ret; exact HG.out _ (below_next hba Hb.out))
      · have q2 : ((n : Int) == 0) = false := by rw [beq_eq_false_iff_ne]; omega
        have hke : e.kids.isEmpty = false := by
          have := Hlen.out
          cases h : e.kids with
          | nil => rw [h] at this; simp at this; omega
          | cons a l => rfl
        have HG : Hid (∀ w', Below w.heap.size w w' → P (.returned (.bool false)) w') := HBad.out (by rw [HL.out, hke]; simp)
        clear HP hke h0 hn0 HL HBad HK HR
        go_enter Tryz.func78, Tryz.ntmps78
        go_wp2_with fail
        first | exact HG.out _ hba | (go_ret; exact HG.out _ hba)
    · have q0 : (e.op == 0) = false := by simp [h0]
      by_cases hk0 : k = 0
      · have HG : Hid (∀ w', Below w.heap.size w w' → P (.returned (.bool false)) w') := HBad.out (by subst hk0; exact rightE_flat h0)
        have k1 : ¬ (0 : Int) < (k : Int) := by omega
        clear HP h0 HBad HK HR hk0
        go_enter Tryz.func78, Tryz.ntmps78
        go_wp2_with fail
        first | exact HG.out _ hba | (go_ret; exact HG.out _ hba)
      have k1 : (0 : Int) < (k : Int) := by omega
      by_cases h1 : e.op < 1
      · have h1' : ¬ 1 ≤ e.op := by omega
        have HG : Hid (∀ w', Below w.heap.size w w' → P (.returned (.bool false)) w') := HBad.out (rightE_bad h0 (opE_lo (by omega)))
        clear HP h0 HBad HK HR hk0 h1
        go_enter Tryz.func78, Tryz.ntmps78
        go_wp2_with fail
        first | exact HG.out _ hba | (go_ret; exact HG.out _ hba)
      have h1' : 1 ≤ e.op := by omega
      by_cases h3 : 3 < e.op
      · have h3' : ¬ e.op ≤ 3 := by omega
        have HG : Hid (∀ w', Below w.heap.size w w' → P (.returned (.bool false)) w') := HBad.out (rightE_bad h0 (opE_hi (by omega)))
        clear HP h0 HBad HK HR hk0 h1 h3
        go_enter Tryz.func78, Tryz.ntmps78
        go_wp2_with fail
        first | exact HG.out _ hba | (go_ret; exact HG.out _ hba)
      have h3' : e.op ≤ 3 := by omega
      by_cases hn2 : n = 2
      rotate_left
      · have q2 : ((n : Int) == 2) = false := by rw [beq_eq_false_iff_ne]; omega
        have HG : Hid (∀ w', Below w.heap.size w w' → P (.returned (.bool false)) w') := HBad.out (rightE_kids h0 (by have := Hlen.out; omega))
        clear HP h0 HBad HK HR hk0 h1 h3 hn2
        go_enter Tryz.func78, Tryz.ntmps78
        go_wp2_with fail
        first | exact HG.out _ hba | (go_ret; exact HG.out _ hba)
      subst hn2
      have q2 : (((2 : Nat) : Int) == 2) = true := by decide
      by_cases hz : e.t = zT
      rotate_left
      · have HG : Hid (∀ w', Below w.heap.size w w' → P (.returned (.bool false)) w') := HBad.out (rightE_bad h0 (by simp [opE, hz]))
        rcases told_not_zero hz with hz | ⟨z0, hz⟩ | ⟨z0, z1, hz⟩ | ⟨z0, z1, z2, hz⟩ <;>
        · clear HP h0 HBad HK HR hk0 h1 h3
          go_enter Tryz.func78, Tryz.ntmps78
          go_wp2_with fail
          first | exact HG.out _ (belowA (Below.refl _ _) _) | (go_ret; exact HG.out _ (belowA (Below.refl _ _) _))
      obtain ⟨z0, z1, z2, z3⟩ := told_zero.1 hz
      obtain ⟨b, o, ka, Aa, na, ca, da, hA, hb, hka, hda, x0, x1, x2, x3, x4, x5, -, -, fa, hkka⟩ := HK.out.exp_at (i := 0) (by omega)
      obtain ⟨b', o', kb, Ab, nb, cb, db, hA', hb', hkb, hdb, y0, y1, y2, y3, y4, y5, -, -, fb, hkkb⟩ := HK.out.exp_at (i := 1) (by omega)
      subst hA
      injection hA' with hA'
      injection hA' with h4 h5 _
      subst h4 h5
      simp only [Nat.zero_mul, Nat.add_zero] at x0 x1 x2 x3 x4 x5
      simp only [Nat.one_mul] at y0 y1 y2 y3 y4 y5
      have hop : opE e = true := by simp [opE, h1', h3', hz]
      obtain ⟨k', rfl⟩ : ∃ k', k = k' + 1 := ⟨k - 1, by omega⟩
      have hkids : e.kids = [ka, kb] := by
        have h9 := Hlen.out
        match hq : e.kids, h9 with
        | [u, v], _ =>
          have e1 := hka.out; have e2 := hkb.out
          rw [hq] at e1 e2
          simp at e1 e2
          rw [e1, e2]
      have HV : Hid (rightE (k' + 1) e = (rightE k' ka && rightE k' kb)) := rightE_two h0 hop hkids
      have kk : ((k' + 1 : Nat) : Int) - 1 = (k' : Int) := by omega
      have kk2 : wrap64 (((k' : Int) + 1) - 1) = (k' : Int) := by unfold wrap64; omega
      have HCa := Lib.hid (fun (W : World) (hb : Below w.heap.size w W) => IH.out k' (by omega) ka Aa na ca da W (by omega) (hkka.keep hb) fa)
      have HCb := Lib.hid (fun (W : World) (hb : Below w.heap.size w W) => IH.out k' (by omega) kb Ab nb cb db W (by omega) (hkkb.keep hb) fb)
      have HKe := Lib.hid (fun (W : World) (hb : Below w.heap.size w W) => And.intro (below_cell hb y0) (And.intro (below_cell hb y1) (And.intro (below_cell hb y2) (And.intro (below_cell hb y3) (And.intro (below_cell hb y4) (below_cell hb y5))))))
      have HG1 : Hid (rightE k' ka = false → ∀ w', Below w.heap.size w w' → P (.returned (.bool false)) w') := fun h => HBad.out (by rw [HV.out, h]; rfl)
      have HG2 : Hid (rightE k' ka = true → ∀ w', Below w.heap.size w w' → P (.returned (.bool (rightE k' kb))) w') := fun h w' hb => by rw [HP.out, HV.out, h]; exact ⟨rfl, hb⟩
      clear h0 h1 h3 hz hop hkids HK HBad HP hka hkb hda hdb hkka hkkb hk0 HR IH HV y0 y1 y2 y3 y4 y5
      go_enter Tryz.func78, Tryz.ntmps78
      go_wp2_with fail
      generalize hwv : w.alloc _ = wv
      have hbv : Below w.heap.size w wv := by rw [← hwv]; exact belowA (Below.refl _ _) _
      have hgv : wv.heap[w.heap.size]? = some (.cells #[.int .i64 e.op, .string e.t.x, .int .i64 0, .int .i64 0, .string e.t.v.s, .slice (some ⟨b, o, none⟩) 2 c] 51 (0, 0)) := by rw [← hwv]; exact heapNew rfl
      refine (HCa.out wv hbv).mono ?_
      rintro e1 w1 ⟨rfl, hb1⟩
      have hbw1 := below_next hbv hb1
      obtain ⟨y0, y1, y2, y3, y4, y5⟩ := HKe.out w1 hbw1
      have HC2 := Lib.hid (HCb.out w1 hbw1)
      have Hb1 := Lib.hid hbw1
      have hg := (hb1.block _ (Array.getElem?_eq_some_iff.1 hgv).1).trans hgv
      clear b0 b1 b2 b3 b4 b5 x0 x1 x2 x3 x4 x5 HCa HCb HKe hb1 hrb hba hwv hgv hbw1 hbv
      obtain ⟨b0, b1, b2, b3, b4, b5⟩ := facts6 hg
      cases hr : rightE k' ka with
      | false =>
        have HG3 := Lib.hid (HG1.out hr)
        clear HG1 HG2 hr
        go_wp2_with fail
        first | exact HG3.out _ Hb1.out | (go_ret; exact HG3.out _ Hb1.out)
      | true =>
        have HG3 := Lib.hid (HG2.out hr)
        clear HG1 HG2 hr
        go_wp2_with fail
        refine HC2.out.mono ?_
        rintro e1 w2 ⟨rfl, hb2⟩
        have Hb2 := Lib.hid (below_next Hb1.out hb2)
        clear hb2
        generalize rightE k' kb = bb at *
        cases bb <;>
        · go_wp2_with fail
          first | exact HG3.out _ Hb2.out | (go_ret; exact HG3.out _ Hb2.out)
theorem refRightExp_any (e : GExp) (A : Option Addr) (n c d : Nat) (w : World) (hk : SliceIs (Enc.exp d) w w.heap.size A n c e.kids) (hv : e.t.v.ok) :
    Calls Tryz.prog 27 #[exp5 e A n c] w (RetBool (rightE 20 e) w) := by
  have hrb : (w.alloc (.cells #[.int .i64 e.op, .string e.t.x, .int .i64 e.t.v.k, .int .i64 e.t.v.n, .string e.t.v.s, .slice A n c] 51)).heap[w.heap.size]? = some (.cells #[.int .i64 e.op, .string e.t.x, .int .i64 e.t.v.k, .int .i64 e.t.v.n, .string e.t.v.s, .slice A n c] 51 (0, 0)) := heapNew rfl
  have hba : Below w.heap.size w (w.alloc (.cells #[.int .i64 e.op, .string e.t.x, .int .i64 e.t.v.k, .int .i64 e.t.v.n, .string e.t.v.s, .slice A n c] 51)) := belowA (Below.refl _ _) _
  obtain ⟨b0, b1, b2, b3, b4, b5⟩ := facts6 hrb
  have HC := Lib.hid (refRightE_any 20 e A n c d _ (by decide) (hk.keep hba) hv)
  clear hrb
  go_enter Tryz.func27, Tryz.ntmps27
  go_wp2_with fail
  refine HC.out.mono ?_
  rintro r w1 ⟨rfl, hb⟩
  go_wp2_with fail
  go_ret
  exact ⟨rfl, below_next hba hb⟩
set_option maxRecDepth 100000 in
set_option maxHeartbeats 1000000 in
theorem refZero_any (e : GExp) (A : Option Addr) (n c : Nat) (w : World) (hn : e.kids.length = n) (hn2 : n ≤ reachN) :
    Calls Tryz.prog 77 #[exp5 e A n c] w (RetBool (noneE e) w) := by
  have hn3 : n ≤ 140737488351232 := hn2
  have Hn := Lib.hid hn
  obtain ⟨B, HB⟩ : ∃ B, Hid (B = noneE e) := ⟨_, rfl⟩
  rw [← HB.out]
  clear hn hn2
  by_cases h0 : e.op = 0
  rotate_left
  · have q0 : (e.op == 0) = false := by simp [h0]
    have HE : Hid (B = false) := by show _ = _; rw [HB.out]; simp [noneE, h0]
    clear h0 HB
    go_enter Tryz.func77, Tryz.ntmps77
    go_wp2_with fail
    go_ret
    exact ⟨by rw [HE.out]; rfl, belowA (Below.refl _ _) _⟩
  have q0 : (e.op == 0) = true := by simp [h0]
  by_cases hk : n = 0
  rotate_left
  · have q2 : ((n : Int) == 0) = false := by rw [beq_eq_false_iff_ne]; omega
    have HE : Hid (B = false) := by show _ = _; rw [HB.out]; simp [noneE, h0]; intro _ h; have := Hn.out; rw [h] at this; simp at this; omega
    clear h0 HB hk
    go_enter Tryz.func77, Tryz.ntmps77
    go_wp2_with fail
    go_ret
    exact ⟨by rw [HE.out]; rfl, belowA (Below.refl _ _) _⟩
  have q2 : ((n : Int) == 0) = true := by simp [hk]
  have hke : e.kids = [] := List.eq_nil_of_length_eq_zero (by have := Hn.out; omega)
  by_cases hz : e.t = zT
  rotate_left
  · have HE : Hid (B = false) := by show _ = _; rw [HB.out]; simp [noneE, hz]
    rcases told_not_zero hz with hz | ⟨z0, hz⟩ | ⟨z0, z1, hz⟩ | ⟨z0, z1, z2, hz⟩ <;>
    · clear h0 HB hk hke
      go_enter Tryz.func77, Tryz.ntmps77
      go_wp2_with fail
      go_ret
      exact ⟨by rw [HE.out]; rfl, belowA (Below.refl _ _) _⟩
  obtain ⟨z0, z1, z2, z3⟩ := told_zero.1 hz
  have HE : Hid (B = true) := by show _ = _; rw [HB.out]; simp [noneE, h0, hz, hke]
  clear h0 HB hz hk hke
  go_enter Tryz.func77, Tryz.ntmps77
  go_wp2_with fail
  go_ret
  exact ⟨by rw [HE.out]; rfl, belowA (Below.refl _ _) _⟩
theorem all_take {α : Type} {l : List α} {p : α → Bool} {k : Nat} {x : α} (hx : l[k]? = some x) : (l.take (k + 1)).all p = ((l.take k).all p && p x) := by
  rw [List.take_add_one, hx]; simp
theorem all_false {α : Type} {l : List α} {p : α → Bool} {k : Nat} {x : α} (hx : l[k]? = some x) (h : p x = false) : l.all p = false := by
  cases hl : l.all p
  · rfl
  · rw [List.all_eq_true.1 hl x (List.mem_of_getElem? hx)] at h; cases h
set_option maxRecDepth 100000 in
set_option maxHeartbeats 2000000 in
theorem refRightAtom_any (x : GAtom) (a : Hd) (w : World) (hl : SliceIs Enc.told w w.heap.size a.A a.n a.c x.args) : Calls Tryz.prog 75 #[.agg #[.string x.rel, a.v]] w (RetBool (atomB x) w) := by
  obtain ⟨A, n, c⟩ := a
  obtain ⟨P, HP⟩ : ∃ P, Hid (P = RetBool (atomB x) w) := ⟨_, rfl⟩
  have HBad : Hid ((x.args.length ≤ 6 → x.args.all rightT = false) → ∀ w', Below w.heap.size w w' → P (.returned (.bool false)) w') := fun h w' hb => by
    rw [HP.out]
    refine ⟨?_, hb⟩
    have : atomB x = false := by
      unfold atomB
      by_cases h6 : x.args.length ≤ 6
      · rw [h h6]; simp
      · simp [h6]
    rw [this]
  have HGood : Hid (x.args.length ≤ 6 → x.args.all rightT = true → ∀ w', Below w.heap.size w w' → P (.returned (.bool (singleB 2 x.rel))) w') := fun h1 h2 w' hb => by
    rw [HP.out]
    refine ⟨?_, hb⟩
    unfold atomB
    rw [h2]; simp [h1]
  rw [← HP.out]
  have hn := hl.bound
  have HL := Lib.hid hl
  have Hlen := Lib.hid hl.1
  have HN := Lib.hid (fun W => refNamed_any x.rel W)
  have HT := Lib.hid (fun (t : GTold) (ht : t.v.ok) W => refTright_any t ht W)
  have hrb : (w.alloc (.cells #[.string x.rel, .slice A n c] 43)).heap[w.heap.size]? = some (.cells #[.string x.rel, .slice A n c] 43 (0, 0)) := heapNew rfl
  have hba : Below w.heap.size w (w.alloc (.cells #[.string x.rel, .slice A n c] 43)) := belowA (Below.refl _ _) _
  dsimp only [Hd.v]
  clear hl HP
  go_enter Tryz.func75, Tryz.ntmps75
  go_wp2_with fail
  go_loopw [3] (fun i wr => ∃ k : Nat, k ≤ n ∧ i = .int .i64 k ∧ k ≤ 6 ∧ Hid ((x.args.take k).all rightT = true) ∧ wr.heap[w.heap.size]? = some (.cells #[.string x.rel, .slice A n c] 43 (0, 0)) ∧ Below w.heap.size w wr) (fun i _ => n - (intOf i).toNat)
  case atStart => exact ⟨0, by omega, rfl, by omega, by show _ = _; simp, hrb, hba⟩
  case round =>
    obtain ⟨k, hk, rfl, hk6, HA, hg, hbr⟩ := hrel
    clear hrb hba
    have i0 : (0 : Int) ≤ (k : Int) := by omega
    obtain ⟨b0, b1⟩ := facts2 hg
    by_cases hlt : k < n
    · have i1 : (k : Int) < (n : Int) := by omega
      by_cases h5 : 5 < k
      · have h5' : (5 : Int) < (k : Int) := by omega
        have HG := Lib.hid (HBad.out (fun h => by have := Hlen.out; omega))
        have HBr := Lib.hid hbr
        clear hbr HBad HGood HA
        go_wp2_with fail
        first | exact HG.out _ HBr.out | (go_ret; exact HG.out _ HBr.out)
      have h5' : ¬ (5 : Int) < (k : Int) := by omega
      obtain ⟨b, o, t, rfl, hb, ht, x0, x1, x2, x3, f1, f2⟩ := (HL.out.below hbr).told_at hlt
      have HC := Lib.hid (HT.out t f2 wr)
      have HTk : Hid ((x.args.take (k + 1)).all rightT = rightT t) := by show _ = _; rw [all_take ht.out, HA.out]; rfl
      have HTb : Hid (rightT t = false → ∀ w', Below w.heap.size w w' → P (.returned (.bool false)) w') := fun h => HBad.out (fun _ => all_false ht.out h)
      clear ht
      go_wp2_with fail
      refine HC.out.mono ?_
      rintro r w1 ⟨rfl, hb1⟩
      have hg1 := (hb1.block _ (Array.getElem?_eq_some_iff.1 hg).1).trans hg
      have HBr := Lib.hid (below_next hbr hb1)
      cases hr : rightT t with
      | false =>
        have HG := Lib.hid (HTb.out hr)
        clear hbr HBad HGood HA hr HTb HTk hb1 hg
        go_wp2_with fail
        first | exact HG.out _ HBr.out | (go_ret; exact HG.out _ HBr.out)
      | true =>
        have HT1 : Hid ((x.args.take (k + 1)).all rightT = true) := by show _ = _; rw [HTk.out, hr]
        have hg2 := Lib.hid hg1
        clear hr HTb HTk hb1 hg hg1 hbr
        go_wp2_with fail
        go_roundw
        case rel => exact ⟨k + 1, by omega, by go_num, by omega, HT1, hg2.out, HBr.out⟩
        case measure => simp [intOf]; omega
    · have i1 : ¬ (k : Int) < (n : Int) := by omega
      have hkn : k = n := by omega
      subst hkn
      have HG := Lib.hid (HGood.out (by have := Hlen.out; omega) (by have := HA.out; rwa [List.take_of_length_le (by have := Hlen.out; omega)] at this))
      have HBr := Lib.hid hbr
      clear hbr HBad HGood HA
      go_wp2_with fail
      refine (HN.out wr).mono ?_
      rintro r w1 ⟨rfl, hb1⟩
      have HB1 := Lib.hid (below_next HBr.out hb1)
      clear hb1
      go_wp2_with fail
      first | exact HG.out _ HB1.out | (go_ret; exact HG.out _ HB1.out)
end Go.Proofs.YtplekbpmfaghbaaGreatDoor
