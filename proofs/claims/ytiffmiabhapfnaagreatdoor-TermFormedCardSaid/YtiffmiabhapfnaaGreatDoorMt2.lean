/- Merged by my own program of: RefSameP, TEvK, TDecl, TEvD, TEvR, TFormed, TRefF, CpRule, CpDoc, TTerms, TColl, TPut, TConcat. -/
import Derived.Test.YtiffmiabhapfnaaGreatDoorMt1
import Derived.Test.YtiffmiabhapfnaaGreatDoorTRight
import Derived.Test.YtiffmiabhapfnaaGreatDoorTVar
import Derived.Test.YtiffmiabhapfnaaGreatDoorPgm
import Derived.Test.YtiffmiabhapfnaaGreatDoorTSmall
import Derived.Test.YtiffmiabhapfnaaGreatDoorRange2
import Derived.OwnWalkIn
import Derived.TacticsInMore
import Derived.RegionIn
import Derived.LoopNIn
import Derived.LoopIn
import Derived.Shelf.Abstract
import Derived.Test.YtiffmiabhapfnaaGreatDoorGen
import Derived.Test.YtiffmiabhapfnaaGreatDoorHas
import Derived.Lib.AppendZerosOnto
import Derived.Lib.Walk
import Derived.Lib.SliceRun
/- The document's Same. -/
namespace Go.Proofs.YtiffmiabhapfnaaGreatDoor
open Go.RowKit

def rsF (A : Option Addr) (n c : Nat) (B : Option Addr) (d : Nat) (b1 o1 b2 o2 : Nat) (k : Nat) (x1 : List Value) (y1 : List Value) (g : Nat) (r : Bool) (i : Nat) (v : Value) (_W : World) : Prop := match i with
  | 0 => v = .pointer (some ⟨g, 1, none⟩)
  | 1 => v = .slice A n c
  | 2 => v = .int .i64 k
  | 3 => v = .pointer (some ⟨b1, o1 + k * 6, none⟩)
  | 4 => v = .agg x1.toArray
  | 5 => v = .pointer (some ⟨g + 1, 1, none⟩)
  | 6 => v = .slice B n d
  | 7 => v = .int .i64 k
  | 8 => v = .pointer (some ⟨b2, o2 + k * 6, none⟩)
  | 9 => v = .agg y1.toArray
  | 10 => v = .bool r
  | _ => True
theorem rule5_size (x : GRule) (a b : Hd) : (Tryz.prog.info? 103).map (·.size) = some (ruleC x a b).length := by
  show _ = some 6
  kernel_rfl
theorem range6 {W : World} {b o : Nat} {v0 v1 v2 v3 v4 v5 : Value} (h0 : W.cell? ⟨b, o, none⟩ = some v0) (h1 : W.cell? ⟨b, o + 1, none⟩ = some v1) (h2 : W.cell? ⟨b, o + 2, none⟩ = some v2) (h3 : W.cell? ⟨b, o + 3, none⟩ = some v3) (h4 : W.cell? ⟨b, o + 4, none⟩ = some v4) (h5 : W.cell? ⟨b, o + 5, none⟩ = some v5) : W.rangeAt b o [v0, v1, v2, v3, v4, v5] := by
  intro j v hj
  match j, hj with
  | 0, hj => simp at hj; subst hj; exact h0
  | 1, hj => simp at hj; subst hj; exact h1
  | 2, hj => simp at hj; subst hj; exact h2
  | 3, hj => simp at hj; subst hj; exact h3
  | 4, hj => simp at hj; subst hj; exact h4
  | 5, hj => simp at hj; subst hj; exact h5
  | n + 6, hj => simp at hj
set_option maxRecDepth 100000 in
set_option maxHeartbeats 4000000 in
theorem refSameP_any (d1 d2 : Nat) (x y : GProg) (A : Option Addr) (n c : Nat) (E : Option Addr) (m e : Nat) (A' : Option Addr) (n' c' : Nat) (E' : Option Addr) (m' e' : Nat) (w : World)
    (hx : ProgAt d1 w w.heap.size x ⟨A, n, c⟩ ⟨E, m, e⟩) (hy : ProgAt d2 w w.heap.size y ⟨A', n', c'⟩ ⟨E', m', e'⟩) :
    Calls Tryz.prog 22 #[.agg #[.slice A n c, .slice E m e], .agg #[.slice A' n' c', .slice E' m' e']] w (RetBool (sameP x y) w) := by
  have mixed : Tryz.prog.follows .mixedOrders = true := by kernel_rfl
  obtain ⟨R, HR⟩ : ∃ R, Hid (R = sameP x y) := ⟨_, rfl⟩
  rw [← HR.out]
  have hrX : ((w.alloc (.cells #[.slice A n c, .slice E m e] 69)).alloc (.cells #[.slice A' n' c', .slice E' m' e'] 69)).heap[w.heap.size]? = some (.cells #[.slice A n c, .slice E m e] 69 (0, 0)) := heapOld (heapNew rfl)
  have hrY : ((w.alloc (.cells #[.slice A n c, .slice E m e] 69)).alloc (.cells #[.slice A' n' c', .slice E' m' e'] 69)).heap[w.heap.size + 1]? = some (.cells #[.slice A' n' c', .slice E' m' e'] 69 (0, 0)) := heapNew (by simp)
  have hba : Below w.heap.size w ((w.alloc (.cells #[.slice A n c, .slice E m e] 69)).alloc (.cells #[.slice A' n' c', .slice E' m' e'] 69)) := belowA (belowA (Below.refl _ _) _) _
  have Hl1 := Lib.hid hx.decls.1
  have Hl2 := Lib.hid hy.decls.1
  have Hm1 := Lib.hid hx.rules.1
  have Hm2 := Lib.hid hy.rules.1
  have hn := hx.decls.bound
  have hn' := hy.decls.bound
  have hm := hx.rules.bound
  have hm' := hy.rules.bound
  dsimp only at Hl1 Hl2 Hm1 Hm2 hn hn' hm hm'
  obtain ⟨f0, f1⟩ := facts2 hrX
  obtain ⟨e0, e1⟩ := facts2 hrY
  have Hx := Lib.hid (hx.keep hba)
  have Hy := Lib.hid (hy.keep hba)
  clear hx hy
  by_cases hnn : n = n'
  rotate_left
  · have hq : ((n : Int) != (n' : Int)) = true := by simp; omega
    have HF : Hid (R = false) := by show _ = _; rw [HR.out]; unfold sameP; rw [eqL_len (by have h1 := Hl1.out; have h2 := Hl2.out; rw [h1, h2]; exact hnn)]; rfl
    clear HR hnn Hx Hy
    go_enter Tryz.func22, Tryz.ntmps22
    go_wp2_with fail
    go_ret
    exact ⟨by rw [HF.out]; rfl, hba⟩
  by_cases hmm : m = m'
  rotate_left
  · have hq : ((n : Int) != (n' : Int)) = false := by simp; omega
    have hq2 : ((m : Int) != (m' : Int)) = true := by simp; omega
    have HF : Hid (R = false) := by show _ = _; rw [HR.out]; unfold sameP; rw [eqL_len (l := x.rules) (by have h1 := Hm1.out; have h2 := Hm2.out; rw [h1, h2]; exact hmm)]; simp
    clear HR hnn hmm Hx Hy
    go_enter Tryz.func22, Tryz.ntmps22
    go_wp2_with fail
    go_ret
    exact ⟨by rw [HF.out]; rfl, hba⟩
  subst hnn
  subst hmm
  have hq : ((n : Int) != (n : Int)) = false := by simp
  have hq2 : ((m : Int) != (m : Int)) = false := by simp
  obtain ⟨R1, HR1⟩ : ∃ r, Hid (r = eqL sameD x.decls y.decls) := ⟨_, rfl⟩
  obtain ⟨R2, HR2⟩ : ∃ r, Hid (r = eqL sameR x.rules y.rules) := ⟨_, rfl⟩
  have HRR : Hid (R = (R1 && R2)) := by show _ = _; rw [HR.out, HR1.out, HR2.out]; rfl
  have HD0 : Hid (R1 = eqL sameD (x.decls.drop 0) (y.decls.drop 0)) := HR1.out
  have HD0' : Hid (R2 = eqL sameR (x.rules.drop 0) (y.rules.drop 0)) := HR2.out
  clear HR HR1 HR2
  go_enter Tryz.func22, Tryz.ntmps22
  go_wp2_with fail
  generalize hwb : (w.alloc _).alloc _ = wb
  rw [hwb] at hrX hrY hba
  rw [hwb] at Hx Hy
  have HX0 := Lib.hid hrX
  have HY0 := Lib.hid hrY
  have HB0 := Lib.hid hba
  clear f0 f1 e0 e1 hwb hrX hrY hba hq hq2
  go_loopw [5] (fun i wr => ∃ k : Nat, k ≤ n ∧ i = .int .i64 k ∧ Hid (R1 = eqL sameD (x.decls.drop k) (y.decls.drop k)) ∧ (∃ q, wr = wb.drewN q)) (fun i _ => n - (intOf i).toNat)
  case atStart => exact ⟨0, by omega, rfl, HD0, ⟨0, rfl⟩⟩
  case round =>
    clear HD0
    obtain ⟨k, hk, rfl, HRk, ⟨q, rfl⟩⟩ := hrel
    have i0 : (0 : Int) ≤ (k : Int) := by omega
    obtain ⟨f0, f1⟩ := facts2 HX0.out
    obtain ⟨e0, e1⟩ := facts2 HY0.out
    by_cases hlt : k < n
    · have i1 : (k : Int) < (n : Int) := by omega
      obtain ⟨b1, o1, v1, aa, hAA, _, h1, ok1, x0, x1, x2⟩ := Hx.out.decls.decl_at hlt
      obtain ⟨b2, o2, v2, bb, hBB, _, h2, ok2, y0, y1, y2⟩ := Hy.out.decls.decl_at hlt
      try simp only at hAA hBB
      subst hAA hBB
      obtain ⟨aA, an, ac⟩ := aa
      obtain ⟨bA, bn, bc⟩ := bb
      dsimp only [Hd.v] at x1 y1
      have han := ok1.kinds.bound
      have hbn := ok2.kinds.bound
      have HK1 := Lib.hid ok1.kinds
      have HK2 := Lib.hid ok2.kinds
      have HL1 := Lib.hid ok1.kinds.1
      have HL2 := Lib.hid ok2.kinds.1
      dsimp only at HL1 HL2 han hbn
      have HRn : Hid (R1 = (sameD v1 v2 && eqL sameD (x.decls.drop (k + 1)) (y.decls.drop (k + 1)))) := by show _ = _; rw [HRk.out, eqL_drop h1.out h2.out]
      clear h1 h2 HRk ok1 ok2
      by_cases hrel : v1.rel = v2.rel
      rotate_left
      · have hs : (v1.rel.toList == v2.rel.toList) = false := by rw [beq_str]; simp [hrel]
        have HF : Hid (R = false) := by show _ = _; rw [HRR.out, HRn.out]; simp [sameD, hrel]
        clear HRn hrel HK1 HK2
        go_wp2_with fail
        go_quiet (fail)
        go_wp2_with fail
        go_ret
        exact ⟨by rw [HF.out]; rfl, (HB0.out.trans (below_drewN _ _ _)).trans (below_drewN _ _ _)⟩
      have hs : (v1.rel.toList == v2.rel.toList) = true := by rw [beq_str]; simp [hrel]
      by_cases hkn : an = bn
      rotate_left
      · have hs2 : ((an : Int) != (bn : Int)) = true := by simp; omega
        have HF : Hid (R = false) := by
          show _ = _; rw [HRR.out, HRn.out]
          have : v1.kinds ≠ v2.kinds := fun e => hkn (by rw [← HL1.out, ← HL2.out, e])
          simp [sameD, this]
        clear HRn hrel hkn HK1 HK2
        go_wp2_with fail
        go_quiet (fail)
        go_wp2_with fail
        go_ret
        exact ⟨by rw [HF.out]; rfl, (HB0.out.trans (below_drewN _ _ _)).trans (below_drewN _ _ _)⟩
      have hs2 : ((an : Int) != (bn : Int)) = false := by simp; omega
      obtain ⟨S, HS⟩ : ∃ S, Hid (S = eqL (fun a b => decide (a = b)) v1.kinds v2.kinds) := ⟨_, rfl⟩
      have HRS : Hid (R1 = (S && eqL sameD (x.decls.drop (k + 1)) (y.decls.drop (k + 1)))) := by
        show _ = _; rw [HRn.out, HS.out, eqL_dec]; simp [sameD, hrel]
      have HS0 : Hid (S = eqL (fun a b => decide (a = b)) (v1.kinds.drop 0) (v2.kinds.drop 0)) := HS.out
      subst hkn
      clear HRn hrel HS
      go_wp2_with fail
      go_quiet (fail)
      go_wp2_with fail
      clear f0 f1 e0 e1 hs hs2
      go_loopw [6] (fun i wr => ∃ j : Nat, j ≤ an ∧ i = .int .i64 j ∧ Hid (S = eqL (fun a b => decide (a = b)) (v1.kinds.drop j) (v2.kinds.drop j)) ∧ (∃ q, wr = wb.drewN q)) (fun i _ => an - (intOf i).toNat)
      case atStart => exact ⟨0, by omega, rfl, HS0, ⟨q + nq, by simp [World.drewN, Nat.add_assoc]⟩⟩
      case round =>
        clear HS0
        obtain ⟨j, hj, rfl, HSj, ⟨q2, rfl⟩⟩ := hrel
        have j0 : (0 : Int) ≤ (j : Int) := by omega
        obtain ⟨f0, f1⟩ := facts2 HX0.out
        obtain ⟨e0, e1⟩ := facts2 HY0.out
        by_cases hjlt : j < an
        · have j1 : (j : Int) < (an : Int) := by omega
          obtain ⟨b3, o3, u1, rfl, _, g1, r1, _⟩ := HK1.out.int_at hjlt
          obtain ⟨b4, o4, u2, rfl, _, g2, r2, _⟩ := HK2.out.int_at hjlt
          have HSn : Hid (S = (decide (u1 = u2) && eqL (fun a b => decide (a = b)) (v1.kinds.drop (j + 1)) (v2.kinds.drop (j + 1)))) := by show _ = _; rw [HSj.out, eqL_drop g1.out g2.out]
          clear g1 g2 HSj
          by_cases hu : u1 = u2
          · have hu' : (u1 != u2) = false := by simp [hu]
            have HS1 : Hid (S = eqL (fun a b => decide (a = b)) (v1.kinds.drop (j + 1)) (v2.kinds.drop (j + 1))) := by show _ = _; rw [HSn.out]; simp [hu]
            clear HSn hu
            go_wp2_with fail
            go_quiet (fail)
            go_wp2_with fail
            go_roundw
            case rel => exact ⟨j + 1, by omega, by go_num, HS1, ⟨q2 + nq, rfl⟩⟩
            case measure => simp [intOf]; omega
          · have hu' : (u1 != u2) = true := by simp [hu]
            have HF : Hid (R = false) := by show _ = _; rw [HRR.out, HRS.out, HSn.out]; simp [hu]
            clear HSn hu
            go_wp2_with fail
            go_quiet (fail)
            go_wp2_with fail
            go_ret
            exact ⟨by rw [HF.out]; rfl, (HB0.out.trans (below_drewN _ _ _)).trans (below_drewN _ _ _)⟩
        · have j1 : ¬ (j : Int) < (an : Int) := by omega
          have HS1 : Hid (S = true) := by show _ = _; rw [HSj.out, List.drop_eq_nil_of_le (by have := HL1.out; omega), List.drop_eq_nil_of_le (by have := HL2.out; omega), eqL]
          have HR1 : Hid (R1 = eqL sameD (x.decls.drop (k + 1)) (y.decls.drop (k + 1))) := by show _ = _; rw [HRS.out, HS1.out]; rfl
          clear HSj HS1 HRS
          go_wp2_with fail
          go_roundw
          case rel => exact ⟨k + 1, by omega, by go_num, HR1, ⟨_, rfl⟩⟩
          case measure => simp [intOf]; omega
    · have i1 : ¬ (k : Int) < (n : Int) := by omega
      have HR1 : Hid (R1 = true) := by show _ = _; rw [HRk.out, List.drop_eq_nil_of_le (by have := Hl1.out; omega), List.drop_eq_nil_of_le (by have := Hl2.out; omega), eqL]
      have HRR2 : Hid (R = R2) := by show _ = _; rw [HRR.out, HR1.out]; rfl
      have HBd := Lib.hid (HB0.out.trans (below_drewN wb q w.heap.size))
      have HBq := Lib.hid (below_drewN wb q wb.heap.size)
      clear HRk HR1 HRR
      go_wp2_with fail
      clear f0 f1 e0 e1
      go_loopw [7] (fun i wr => ∃ k : Nat, k ≤ m ∧ i = .int .i64 k ∧ Hid (R2 = eqL sameR (x.rules.drop k) (y.rules.drop k)) ∧ Hid (Below wb.heap.size wb wr)) (fun i _ => m - (intOf i).toNat)
      case atStart => exact ⟨0, by omega, rfl, HD0', HBq⟩
      case round =>
        clear HD0' HBd HBq
        obtain ⟨k, hk, rfl, HRk, HBr⟩ := hrel
        have i0 : (0 : Int) ≤ (k : Int) := by omega
        obtain ⟨f0, f1⟩ := facts2 ((HBr.out.block _ (Array.getElem?_eq_some_iff.1 HX0.out).1).trans HX0.out)
        obtain ⟨e0, e1⟩ := facts2 ((HBr.out.block _ (Array.getElem?_eq_some_iff.1 HY0.out).1).trans HY0.out)
        by_cases hlt : k < m
        · have i1 : (k : Int) < (m : Int) := by omega
          obtain ⟨b1, o1, rx, aa, ab, hAA, _, h1, ok1, x0, x1, x2, x3, x4, x5⟩ := (Hx.out.keep HBr.out).rules.rule_at hlt
          obtain ⟨b2, o2, ry, ba, bb, hBB, _, h2, ok2, y0, y1, y2, y3, y4, y5⟩ := (Hy.out.keep HBr.out).rules.rule_at hlt
          try simp only at hAA hBB
          subst hAA hBB
          obtain ⟨a1, an1, ac1⟩ := aa
          obtain ⟨a2, an2, ac2⟩ := ab
          obtain ⟨a3, an3, ac3⟩ := ba
          obtain ⟨a4, an4, ac4⟩ := bb
          dsimp only [Hd.v] at x1 y1 x4 y4
          have HC := Lib.hid (fun (W : World) (hb : Below wr.heap.size wr W) => refSameR_any d1 d2 rx ry a1 an1 ac1 a2 an2 ac2 a3 an3 ac3 a4 an4 ac4 W (ok1.keep hb) (ok2.keep hb))
          have HRn : Hid (R2 = (sameR rx ry && eqL sameR (x.rules.drop (k + 1)) (y.rules.drop (k + 1)))) := by show _ = _; rw [HRk.out, eqL_drop h1.out h2.out]
          have HBw := Lib.hid (HB0.out.trans (HBr.out.mono HB0.out.size))
          clear h1 h2 HRk ok1 ok2
          generalize sameR rx ry = s at *
          have Hc1 : Hid (wr.rangeAt b1 (o1 + k * 6) (ruleC rx ⟨a1, an1, ac1⟩ ⟨a2, an2, ac2⟩)) := range6 x0 x1 x2 x3 x4 x5
          have Hc2 : Hid (wr.rangeAt b2 (o2 + k * 6) (ruleC ry ⟨a3, an3, ac3⟩ ⟨a4, an4, ac4⟩)) := range6 y0 y1 y2 y3 y4 y5
          have HgX := Lib.hid ((HBr.out.block _ (Array.getElem?_eq_some_iff.1 HX0.out).1).trans HX0.out)
          have HgY := Lib.hid ((HBr.out.block _ (Array.getElem?_eq_some_iff.1 HY0.out).1).trans HY0.out)
          clear x0 x1 x2 x3 x4 x5 y0 y1 y2 y3 y4 y5
          go_wp2_with fail
          refine drawn2 mixed 11 110 [98, 99, 100, 101, 102, 103, 104, 105, 106, 107, 108] (fun _ W => Below wr.heap.size wr W) (rsF (some ⟨b1, o1, none⟩) m e (some ⟨b2, o2, none⟩) e' b1 o1 b2 o2 k (ruleC rx ⟨a1, an1, ac1⟩ ⟨a2, an2, ac2⟩) (ruleC ry ⟨a3, an3, ac3⟩ ⟨a4, an4, ac4⟩) w.heap.size s) (fun _ W W' => Below W.heap.size W W') rfl (by kernel_rfl) (by kernel_rfl) rfl (fun j _ => below_drewN _ 1 _) (fun i j v W W' _ _ _ h _ => by unfold rsF at h ⊢; exact h) (fun _ _ _ _ _ _ _ _ h h' => below_next h h') ?_ ?_
          · intro i o2' fa W hi ho hd hold hG _ hw
            have hr2 : fa.tmps[2]? = some (.pointer (some ⟨w.heap.size, 0, none⟩)) := hold 2 (by kernel_rfl)
            have hr3 : fa.tmps[3]? = some (.pointer (some ⟨w.heap.size + 1, 0, none⟩)) := hold 3 (by kernel_rfl)
            have hr5 : fa.tmps[7]? = some (.int .i64 k) := hold 7 (by kernel_rfl)
            have hgX := (hG.block _ (Array.getElem?_eq_some_iff.1 HgX.out).1).trans HgX.out
            have hgY := (hG.block _ (Array.getElem?_eq_some_iff.1 HgY.out).1).trans HgY.out
            have f1 : W.cell? ⟨w.heap.size, 1, none⟩ = some (.slice (some ⟨b1, o1, none⟩) m e) := (cell_of_row _ _ 1 _ _ _ hgX).trans rfl
            have e1 : W.cell? ⟨w.heap.size + 1, 1, none⟩ = some (.slice (some ⟨b2, o2, none⟩) m e') := (cell_of_row _ _ 1 _ _ _ hgY).trans rfl
            clear hold
            match i, hi, ho with
            | 0, _, ho =>
              injection ho with ho; subst ho
              exact op_val _ (by simp [execOp, Act.eval, hr2, go_sem]) ⟨_, rfl, Below.refl _ _, rfl⟩
            | 1, _, ho =>
              injection ho with ho; subst ho
              obtain ⟨v0, h0, e0'⟩ := hw 0 98 (by kernel_rfl)
              obtain rfl : v0 = _ := e0'
              exact op_val _ (by simp [execOp, Act.eval, h0, run_load1 Tryz.underlying67 f1]) ⟨_, rfl, Below.refl _ _, rfl⟩
            | 2, _, ho =>
              injection ho with ho; subst ho
              exact op_assign (.tmp 7) (.inr rfl) _ (eval_tmp hr5) ⟨_, rfl, Below.refl _ _, rfl⟩
            | 3, _, ho =>
              injection ho with ho; subst ho
              obtain ⟨v0, h0, e0'⟩ := hw 1 99 (by kernel_rfl)
              obtain rfl : v0 = _ := e0'
              obtain ⟨v1, h1, e1'⟩ := hw 2 100 (by kernel_rfl)
              obtain rfl : v1 = _ := e1'
              exact op_val _ (by simp [execOp, Act.eval, h0, h1, go_sem, i0, i1]) ⟨_, rfl, Below.refl _ _, rfl⟩
            | 4, _, ho =>
              injection ho with ho; subst ho
              obtain ⟨v0, h0, e0'⟩ := hw 3 101 (by kernel_rfl)
              obtain rfl : v0 = _ := e0'
              exact wp_load_mid 103 (.tmp 101) rfl _ _ (eval_tmp h0) (ruleC rx ⟨a1, an1, ac1⟩ ⟨a2, an2, ac2⟩) _ (range_below Hc1.out hG) Tryz.underlying103 rfl (rule5_size _ _ _) ⟨_, rfl, Below.refl _ _, rfl⟩
            | 5, _, ho =>
              injection ho with ho; subst ho
              exact op_val _ (by simp [execOp, Act.eval, hr3, go_sem]) ⟨_, rfl, Below.refl _ _, rfl⟩
            | 6, _, ho =>
              injection ho with ho; subst ho
              obtain ⟨v0, h0, e0'⟩ := hw 5 103 (by kernel_rfl)
              obtain rfl : v0 = _ := e0'
              exact op_val _ (by simp [execOp, Act.eval, h0, run_load1 Tryz.underlying67 e1]) ⟨_, rfl, Below.refl _ _, rfl⟩
            | 7, _, ho =>
              injection ho with ho; subst ho
              exact op_assign (.tmp 7) (.inr rfl) _ (eval_tmp hr5) ⟨_, rfl, Below.refl _ _, rfl⟩
            | 8, _, ho =>
              injection ho with ho; subst ho
              obtain ⟨v0, h0, e0'⟩ := hw 6 104 (by kernel_rfl)
              obtain rfl : v0 = _ := e0'
              obtain ⟨v1, h1, e1'⟩ := hw 7 105 (by kernel_rfl)
              obtain rfl : v1 = _ := e1'
              exact op_val _ (by simp [execOp, Act.eval, h0, h1, go_sem, i0, i1]) ⟨_, rfl, Below.refl _ _, rfl⟩
            | 9, _, ho =>
              injection ho with ho; subst ho
              obtain ⟨v0, h0, e0'⟩ := hw 8 106 (by kernel_rfl)
              obtain rfl : v0 = _ := e0'
              exact wp_load_mid 103 (.tmp 106) rfl _ _ (eval_tmp h0) (ruleC ry ⟨a3, an3, ac3⟩ ⟨a4, an4, ac4⟩) _ (range_below Hc2.out hG) Tryz.underlying103 rfl (rule5_size _ _ _) ⟨_, rfl, Below.refl _ _, rfl⟩
            | 10, _, ho =>
              injection ho with ho; subst ho
              obtain ⟨v0, h0, e0'⟩ := hw 4 102 (by kernel_rfl)
              obtain rfl : v0 = _ := e0'
              obtain ⟨v1, h1, e1'⟩ := hw 9 107 (by kernel_rfl)
              obtain rfl : v1 = _ := e1'
              refine op_call 47 _ rfl rfl #[.agg (ruleC rx ⟨a1, an1, ac1⟩ ⟨a2, an2, ac2⟩).toArray, .agg (ruleC ry ⟨a3, an3, ac3⟩ ⟨a4, an4, ac4⟩).toArray] (by simp [Act.eval, h0, h1]) _ Tryz.func47 (by kernel_rfl) (by kernel_rfl) ((HC.out W hG).mono ?_)
              rintro r w' ⟨rfl, hb⟩
              exact ⟨_, rfl, _, rfl, hb, rfl⟩
            | n + 11, hi, _ => omega
          · intro o2' u W ho hG hw
            have e0 := hw 10 108 (by decide) (by kernel_rfl)
            injection ho with ho; subst ho
            simp only [List.foldl_cons, List.foldl_nil, Act.put, List.setIfInBounds_toArray, List.set_cons_zero, List.set_cons_succ]
            rw [show u 108 = Value.bool s from e0]
            refine op_val (.bool (!s)) (by simp [execOp, Act.eval, go_sem]) ?_
            have HBn := Lib.hid (below_next HBr.out hG)
            have HB9 := Lib.hid (below_next HB0.out HBn.out)
            have hgX := (hG.block _ (Array.getElem?_eq_some_iff.1 HgX.out).1).trans HgX.out
            clear hw e0 HC Hc1 Hc2 f1 hG
            simp only [Act.put, List.setIfInBounds_toArray, List.set_cons_zero, List.set_cons_succ]
            cases s with
            | false =>
              have HF : Hid (R = false) := by show _ = _; rw [HRR2.out, HRn.out]; rfl
              clear HRn
              go_wp2_with fail
              go_ret
              exact ⟨by rw [HF.out]; rfl, HB9.out⟩
            | true =>
              have HR3 : Hid (R2 = eqL sameR (x.rules.drop (k + 1)) (y.rules.drop (k + 1))) := by show _ = _; rw [HRn.out]; rfl
              clear HRn
              go_wp2_with fail
              go_roundw
              case rel => exact ⟨k + 1, by omega, by go_num, HR3, HBn⟩
              case measure => simp [intOf]; omega
        · have i1 : ¬ (k : Int) < (m : Int) := by omega
          have HR1 : Hid (R2 = true) := by show _ = _; rw [HRk.out, List.drop_eq_nil_of_le (by have := Hm1.out; omega), List.drop_eq_nil_of_le (by have := Hm2.out; omega), eqL]
          have HBw := Lib.hid (HB0.out.trans (HBr.out.mono HB0.out.size))
          clear HRk
          go_wp2_with fail
          go_ret
          exact ⟨by rw [HRR2.out, HR1.out]; rfl, HBw.out⟩
end Go.Proofs.YtiffmiabhapfnaaGreatDoor

/- term.every over a list of kinds. -/
namespace Go.Proofs.YtiffmiabhapfnaaGreatDoor
open Go.RowKit

def kindB (k : Int) : Bool := decide (k = 1) || decide (k = 2)
set_option maxRecDepth 100000 in
theorem kind_any (k : Int) (w : World) : Calls Tryz.prog 53 #[.int .i64 k] w (RetBool (kindB k) w) := by
  by_cases h1 : k = 1
  · subst h1
    go_enter Tryz.func53, Tryz.ntmps53
    go_wp2
    go_ret
    exact ⟨rfl, Below.refl _ _⟩
  · have e1 : (k == 1) = false := by simp [h1]
    have HB : Hid (kindB k = (k == 2)) := by show _ = _; simp [kindB, h1]; rw [Bool.eq_iff_iff]; simp
    clear h1
    go_enter Tryz.func53, Tryz.ntmps53
    go_wp2
    go_ret
    exact ⟨by rw [HB.out]; rfl, Below.refl _ _⟩

set_option maxRecDepth 100000 in
set_option maxHeartbeats 1000000 in
theorem ev1K_any (x : Int) (g : Nat) (w : World) (hg : w.cell? ⟨g, 0, none⟩ = some (.func (.func 53) #[] #[])) (HC : Hid (∀ W, Below w.heap.size w W → Calls Tryz.prog 53 #[.int .i64 x] W (RetBool (kindB x) W))) :
    Calls Tryz.prog 82 #[.int .i64 x, .pointer (some ⟨g, 0, none⟩)] w (RetBool (!kindB x) w) := by
  have cg := hg
  clear hg
  generalize kindB x = B at *
  go_enter Tryz.func82, Tryz.ntmps82
  go_wp2_with fail
  refine (HC.out _ (by first | exact Below.refl _ _ | exact belowA (Below.refl _ _) _)).mono ?_
  rintro e w1 ⟨rfl, hb⟩
  have Hb := Lib.hid hb
  clear hb
  go_wp2_with fail
  go_ret
  exact ⟨rfl, Hb.out⟩

set_option maxRecDepth 100000 in
set_option maxHeartbeats 1000000 in
theorem evIK_any (A : Option Addr) (n c : Nat) (l : List Int) (g : Nat) (w : World) (hl : SliceIs Enc.int w w.heap.size A n c l) (hg : w.cell? ⟨g, 0, none⟩ = some (.func (.func 53) #[] #[]))
    (HC : Hid (∀ (x : Int) W, fits x → Below w.heap.size w W → Calls Tryz.prog 53 #[.int .i64 x] W (RetBool (kindB x) W))) :
    Calls Tryz.prog 104 #[.slice A n c, .func (.func 82) #[] #[.pointer (some ⟨g, 0, none⟩)]] w (fun e w' => ∃ k : Int, e = .returned (.int .i64 k) ∧ decide (0 ≤ k) = !(l.all kindB) ∧ Below w.heap.size w w') := by
  have hn := hl.bound
  have HL := Lib.hid hl
  have hlen := Lib.hid hl.1
  have Hg := Lib.hid hg
  clear hl hg
  go_enter Tryz.func104, Tryz.ntmps104
  go_wp2_with fail
  go_loopw [5, 8] (fun _ i wr => ∃ k : Nat, k ≤ n ∧ i = .int .i64 k ∧ Hid ((l.take k).all kindB = true) ∧ Below w.heap.size w wr) (fun _ i _ => n - (intOf i).toNat)
  case atStart => exact ⟨0, by omega, rfl, by simp [Hid], Below.refl _ _⟩
  case round =>
    obtain ⟨k, hk, rfl, hpre, hbr⟩ := hrel
    by_cases hlt : k < n
    · have HLr := (HL.out.below hbr)
      obtain ⟨b, o, x, rfl, hbb, hx, z0, f0⟩ := HLr.int_at hlt
      have hokx : fits x := f0
      have C := Lib.hid (ev1K_any x g wr (below_cell hbr Hg.out) (fun W hW => HC.out x W (hokx) (below_next hbr hW)))
      have i0 : (0 : Int) ≤ (k : Int) := by omega
      have i1 : (k : Int) < (n : Int) := by omega
      have HT : Hid ((l.take (k + 1)).all kindB = kindB x) := by
        show _ = _
        obtain ⟨g1, g2⟩ := List.getElem?_eq_some_iff.1 hx.out
        rw [List.take_succ_eq_append_getElem g1, g2, List.all_append, hpre.out]; simp
      have HF : Hid (kindB x = false → l.all kindB = false) := fun h => by
        rw [List.all_eq_false]
        exact ⟨x, List.mem_of_getElem? hx.out, by simp [h]⟩
      clear HLr hokx
      generalize kindB x = B at *
      cases B with
      | true =>
        clear HF
        go_wp2_with fail
        refine C.out.mono ?_
        rintro e w1 ⟨rfl, hb⟩
        have Hb := Lib.hid hb
        clear hb
        go_wp2_with fail
        go_roundw
        case rel => exact ⟨k + 1, by omega, by go_num, HT, below_next hbr Hb.out⟩
        case measure => simp [intOf]; omega
      | false =>
        have HF' : Hid (l.all kindB = false) := HF.out rfl
        clear HF
        go_wp2_with fail
        refine C.out.mono ?_
        rintro e w1 ⟨rfl, hb⟩
        have Hb := Lib.hid hb
        clear hb
        go_wp2_with fail
        go_ret
        exact ⟨_, rfl, by rw [HF'.out]; simp, below_next hbr Hb.out⟩
    · have i1 : ¬ (k : Int) < (n : Int) := by omega
      have HA : Hid (l.all kindB = true) := by
        show _ = _
        have h := hpre.out
        rw [List.take_of_length_le (by have := hlen.out; omega)] at h
        exact h
      go_wp2_with fail
      go_ret
      exact ⟨_, rfl, by rw [HA.out]; rfl, hbr⟩

set_option maxRecDepth 100000 in
set_option maxHeartbeats 1000000 in
theorem everyK_any (A : Option Addr) (n c : Nat) (l : List Int) (w : World) (hl : SliceIs Enc.int w w.heap.size A n c l)
    (HC : Hid (∀ (x : Int) W, fits x → Below w.heap.size w W → Calls Tryz.prog 53 #[.int .i64 x] W (RetBool (kindB x) W))) :
    Calls Tryz.prog 55 #[.slice A n c, .func (.func 53) #[] #[]] w (RetBool (l.all kindB) w) := by
  have hba : Below w.heap.size w (w.alloc (.cells #[.func (.func 53) #[] #[]] 121)) := belowA (Below.refl _ _) _
  have C := Lib.hid (evIK_any A n c l w.heap.size (w.alloc (.cells #[.func (.func 53) #[] #[]] 121)) (hl.keep hba) ((cell_of_row _ _ 0 _ _ _ (heapNew rfl)).trans rfl) (fun x W h hW => HC.out x W h (below_next hba hW)))
  generalize l.all kindB = B at *
  clear hl HC
  have CC : Hid (Calls Tryz.prog 81 #[.slice A n c, .func (.func 82) #[] #[.pointer (some ⟨w.heap.size, 0, none⟩)]] (w.alloc (.cells #[.func (.func 53) #[] #[]] 121)) (RetBool (!B) (w.alloc (.cells #[.func (.func 53) #[] #[]] 121)))) := by
    show Calls _ _ _ _ _
    generalize w.alloc (.cells #[.func (.func 53) #[] #[]] 121) = wb at *
    go_enter Tryz.func81, Tryz.ntmps81
    go_wp2_with fail
    refine C.out.mono ?_
    rintro e w1 ⟨k, rfl, hk, hb⟩
    have Hb := Lib.hid hb
    have Hk := Lib.hid hk
    clear hb hk
    go_wp2_with fail
    go_ret
    exact ⟨by rw [← Hk.out]; rfl, Hb.out⟩
  clear C
  go_enter Tryz.func55, Tryz.ntmps55
  go_wp2_with fail
  refine CC.out.mono ?_
  rintro e w1 ⟨rfl, hb⟩
  have Hb := Lib.hid hb
  clear hb CC
  go_wp2_with fail
  go_ret
  exact ⟨by cases B <;> rfl, below_next hba Hb.out⟩
end Go.Proofs.YtiffmiabhapfnaaGreatDoor

/- term.declared. -/
namespace Go.Proofs.YtiffmiabhapfnaaGreatDoor
open Go.RowKit

def declB (x : GDecl) : Bool := singleB 2 x.rel && (decide (x.kinds.length ≤ 6) && x.kinds.all kindB)
set_option maxRecDepth 100000 in
set_option maxHeartbeats 2000000 in
theorem declared_any (x : GDecl) (a : Hd) (w : World) (h : DeclAt w w.heap.size x a) (hW : LexW w) : Calls Tryz.prog 31 #[.agg #[.string x.rel, a.v, .int .i64 x.pos]] w (RetBool (declB x) w) := by
  obtain ⟨B, HB⟩ : ∃ B, Hid (B = declB x) := ⟨_, rfl⟩
  rw [← HB.out]
  have hrb : (w.alloc (.cells #[.string x.rel, a.v, .int .i64 x.pos] 89)).heap[w.heap.size]? = some (.cells #[.string x.rel, a.v, .int .i64 x.pos] 89 (0, 0)) := heapNew rfl
  have hba : Below w.heap.size w (w.alloc (.cells #[.string x.rel, a.v, .int .i64 x.pos] 89)) := belowA (Below.refl _ _) _
  have hn := h.kinds.bound
  have Hlen := Lib.hid h.kinds.1
  have HH := Lib.hid (h.keep hba)
  have HW := Lib.hid (hW.on hba)
  clear h hW
  obtain ⟨P1, HP1⟩ : ∃ E, Hid (E = singleB 2 x.rel) := ⟨_, rfl⟩
  obtain ⟨P2, HP2⟩ : ∃ E, Hid (E = x.kinds.all kindB) := ⟨_, rfl⟩
  have HE : Hid (B = (P1 && (decide (x.kinds.length ≤ 6) && P2))) := by show _ = _; rw [HB.out, HP1.out, HP2.out]; rfl
  have Hrow : Hid (∀ W, Below (w.alloc (.cells #[.string x.rel, a.v, .int .i64 x.pos] 89)).heap.size (w.alloc (.cells #[.string x.rel, a.v, .int .i64 x.pos] 89)) W → W.heap[w.heap.size]? = some (.cells #[.string x.rel, a.v, .int .i64 x.pos] 89 (0, 0))) := fun W h => (h.block _ (Array.getElem?_eq_some_iff.1 hrb).1).trans hrb
  obtain ⟨f0_0, f0_1, f0_2⟩ := facts3 hrb
  have C1 : Hid (∀ W, Below (w.alloc (.cells #[.string x.rel, a.v, .int .i64 x.pos] 89)).heap.size (w.alloc (.cells #[.string x.rel, a.v, .int .i64 x.pos] 89)) W → Calls Tryz.prog 54 #[.string x.rel] W (RetBool P1 W)) := fun W h => by rw [HP1.out]; exact named_any x.rel HH.out.rel W (HW.out.on h)
  have C2 : Hid (∀ W, Below (w.alloc (.cells #[.string x.rel, a.v, .int .i64 x.pos] 89)).heap.size (w.alloc (.cells #[.string x.rel, a.v, .int .i64 x.pos] 89)) W → Calls Tryz.prog 55 #[a.v, .func (.func 53) #[] #[]] W (RetBool P2 W)) := fun W h => by
    rw [HP2.out]
    exact everyK_any a.A a.n a.c x.kinds W (HH.out.kinds.keep h) (fun y W' hy h' => kind_any y W')
  clear hrb HB HP1 HP2 HH HW
  by_cases h8 : a.n ≤ 6
  · have z8 : (a.n : Int) ≤ 6 := by omega
    have HE2 : Hid (B = (P1 && P2)) := by show _ = _; rw [HE.out, decide_eq_true (by rw [Hlen.out]; exact h8)]; rfl
    clear HE Hlen h8
    generalize hwb : (w.alloc (.cells #[.string x.rel, a.v, .int .i64 x.pos] 89)) = wb at *
    have Hbw0 := Lib.hid (Below.refl wb.heap.size wb)
    go_enter Tryz.func31, Tryz.ntmps31
    go_wp2_with fail
    try simp only [hwb]
    go_wp2_with fail
    refine (C1.out _ Hbw0.out).mono ?_
    rintro e1 w1 ⟨rfl, hq1⟩
    have Hbw1 := Lib.hid (below_next Hbw0.out hq1)
    obtain ⟨f1_0, f1_1, f1_2⟩ := facts3 (Hrow.out _ Hbw1.out)
    clear hq1 f0_0 f0_1 f0_2
    cases P1 with
    | false =>
      go_wp2_with fail
      go_ret
      exact ⟨by rw [HE2.out]; rfl, below_next hba Hbw1.out⟩
    | true =>
      go_wp2_with fail
      refine (C2.out _ Hbw1.out).mono ?_
      rintro e2 w2 ⟨rfl, hq2⟩
      have Hbw2 := Lib.hid (below_next Hbw1.out hq2)
      obtain ⟨f2_0, f2_1, f2_2⟩ := facts3 (Hrow.out _ Hbw2.out)
      clear hq2 f1_0 f1_1 f1_2
      cases P2 <;>
      · go_wp2_with fail
        go_ret
        exact ⟨by rw [HE2.out]; rfl, below_next hba Hbw2.out⟩
  · have z8 : ¬ (a.n : Int) ≤ 6 := by omega
    have HE2 : Hid (B = false) := by show _ = _; rw [HE.out, decide_eq_false (by rw [Hlen.out]; exact h8)]; simp
    clear HE Hlen h8 C2
    generalize hwb : (w.alloc (.cells #[.string x.rel, a.v, .int .i64 x.pos] 89)) = wb at *
    have Hbw0 := Lib.hid (Below.refl wb.heap.size wb)
    go_enter Tryz.func31, Tryz.ntmps31
    go_wp2_with fail
    try simp only [hwb]
    go_wp2_with fail
    refine (C1.out _ Hbw0.out).mono ?_
    rintro e1 w1 ⟨rfl, hq1⟩
    have Hbw1 := Lib.hid (below_next Hbw0.out hq1)
    obtain ⟨f1_0, f1_1, f1_2⟩ := facts3 (Hrow.out _ Hbw1.out)
    clear hq1 f0_0 f0_1 f0_2
    cases P1 <;>
    · go_wp2_with fail
      go_ret
      exact ⟨by rw [HE2.out]; rfl, below_next hba Hbw1.out⟩
end Go.Proofs.YtiffmiabhapfnaaGreatDoor

/- term.every over a list of declarations. -/
namespace Go.Proofs.YtiffmiabhapfnaaGreatDoor
open Go.RowKit

set_option maxRecDepth 100000 in
set_option maxHeartbeats 1000000 in
theorem ev1D_any (x : GDecl) (a : Hd) (g : Nat) (w : World) (hg : w.cell? ⟨g, 0, none⟩ = some (.func (.func 31) #[] #[])) (HC : Hid (∀ W, Below w.heap.size w W → Calls Tryz.prog 31 #[.agg #[.string x.rel, a.v, .int .i64 x.pos]] W (RetBool (declB x) W))) :
    Calls Tryz.prog 52 #[.agg #[.string x.rel, a.v, .int .i64 x.pos], .pointer (some ⟨g, 0, none⟩)] w (RetBool (!declB x) w) := by
  have hrb : (w.alloc (.cells #[.string x.rel, a.v, .int .i64 x.pos] 89)).heap[w.heap.size]? = some (.cells #[.string x.rel, a.v, .int .i64 x.pos] 89 (0, 0)) := heapNew rfl
  obtain ⟨b0, b1, b2⟩ := facts3 hrb
  have cg : (w.alloc (.cells #[.string x.rel, a.v, .int .i64 x.pos] 89)).cell? ⟨g, 0, none⟩ = some (.func (.func 31) #[] #[]) := cellA hg
  clear hrb hg
  generalize declB x = B at *
  go_enter Tryz.func52, Tryz.ntmps52
  go_wp2_with fail
  refine (HC.out _ (by first | exact Below.refl _ _ | exact belowA (Below.refl _ _) _)).mono ?_
  rintro e w1 ⟨rfl, hb⟩
  have Hb := Lib.hid hb
  clear hb
  go_wp2_with fail
  go_ret
  exact ⟨rfl, below_next (belowA (Below.refl _ _) _) Hb.out⟩

set_option maxRecDepth 100000 in
set_option maxHeartbeats 1000000 in
theorem evID_any (A : Option Addr) (n c : Nat) (l : List GDecl) (g : Nat) (w : World) (hl : SliceIs Enc.decl w w.heap.size A n c l) (hg : w.cell? ⟨g, 0, none⟩ = some (.func (.func 31) #[] #[]))
    (HC : Hid (∀ (x : GDecl) (a : Hd) W, DeclAt W W.heap.size x a → Below w.heap.size w W → Calls Tryz.prog 31 #[.agg #[.string x.rel, a.v, .int .i64 x.pos]] W (RetBool (declB x) W))) :
    Calls Tryz.prog 80 #[.slice A n c, .func (.func 52) #[] #[.pointer (some ⟨g, 0, none⟩)]] w (fun e w' => ∃ k : Int, e = .returned (.int .i64 k) ∧ decide (0 ≤ k) = !(l.all declB) ∧ Below w.heap.size w w') := by
  have hn := hl.bound
  have HL := Lib.hid hl
  have hlen := Lib.hid hl.1
  have Hg := Lib.hid hg
  clear hl hg
  go_enter Tryz.func80, Tryz.ntmps80
  go_wp2_with fail
  go_loopw [5, 8] (fun _ i wr => ∃ k : Nat, k ≤ n ∧ i = .int .i64 k ∧ Hid ((l.take k).all declB = true) ∧ Below w.heap.size w wr) (fun _ i _ => n - (intOf i).toNat)
  case atStart => exact ⟨0, by omega, rfl, by simp [Hid], Below.refl _ _⟩
  case round =>
    obtain ⟨k, hk, rfl, hpre, hbr⟩ := hrel
    by_cases hlt : k < n
    · have HLr := (HL.out.below hbr)
      obtain ⟨b, o, x, a, rfl, hbb, hx, hat, z0, z1, z2⟩ := HLr.decl_at hlt
      have hokx : DeclAt wr wr.heap.size x a := hat.mono' hbr.size (Kept.of fun _ _ => rfl)
      have C := Lib.hid (ev1D_any x a g wr (below_cell hbr Hg.out) (fun W hW => HC.out x a W (hokx.keep hW) (below_next hbr hW)))
      have i0 : (0 : Int) ≤ (k : Int) := by omega
      have i1 : (k : Int) < (n : Int) := by omega
      have HT : Hid ((l.take (k + 1)).all declB = declB x) := by
        show _ = _
        obtain ⟨g1, g2⟩ := List.getElem?_eq_some_iff.1 hx.out
        rw [List.take_succ_eq_append_getElem g1, g2, List.all_append, hpre.out]; simp
      have HF : Hid (declB x = false → l.all declB = false) := fun h => by
        rw [List.all_eq_false]
        exact ⟨x, List.mem_of_getElem? hx.out, by simp [h]⟩
      clear HLr hokx
      generalize declB x = B at *
      cases B with
      | true =>
        clear HF
        go_wp2_with fail
        refine C.out.mono ?_
        rintro e w1 ⟨rfl, hb⟩
        have Hb := Lib.hid hb
        clear hb
        go_wp2_with fail
        go_roundw
        case rel => exact ⟨k + 1, by omega, by go_num, HT, below_next hbr Hb.out⟩
        case measure => simp [intOf]; omega
      | false =>
        have HF' : Hid (l.all declB = false) := HF.out rfl
        clear HF
        go_wp2_with fail
        refine C.out.mono ?_
        rintro e w1 ⟨rfl, hb⟩
        have Hb := Lib.hid hb
        clear hb
        go_wp2_with fail
        go_ret
        exact ⟨_, rfl, by rw [HF'.out]; simp, below_next hbr Hb.out⟩
    · have i1 : ¬ (k : Int) < (n : Int) := by omega
      have HA : Hid (l.all declB = true) := by
        show _ = _
        have h := hpre.out
        rw [List.take_of_length_le (by have := hlen.out; omega)] at h
        exact h
      go_wp2_with fail
      go_ret
      exact ⟨_, rfl, by rw [HA.out]; rfl, hbr⟩

set_option maxRecDepth 100000 in
set_option maxHeartbeats 1000000 in
theorem everyD_any (A : Option Addr) (n c : Nat) (l : List GDecl) (w : World) (hl : SliceIs Enc.decl w w.heap.size A n c l)
    (HC : Hid (∀ (x : GDecl) (a : Hd) W, DeclAt W W.heap.size x a → Below w.heap.size w W → Calls Tryz.prog 31 #[.agg #[.string x.rel, a.v, .int .i64 x.pos]] W (RetBool (declB x) W))) :
    Calls Tryz.prog 30 #[.slice A n c, .func (.func 31) #[] #[]] w (RetBool (l.all declB) w) := by
  have hba : Below w.heap.size w (w.alloc (.cells #[.func (.func 31) #[] #[]] 92)) := belowA (Below.refl _ _) _
  have C := Lib.hid (evID_any A n c l w.heap.size (w.alloc (.cells #[.func (.func 31) #[] #[]] 92)) (hl.keep hba) ((cell_of_row _ _ 0 _ _ _ (heapNew rfl)).trans rfl) (fun x a W h hW => HC.out x a W h (below_next hba hW)))
  generalize l.all declB = B at *
  clear hl HC
  have CC : Hid (Calls Tryz.prog 51 #[.slice A n c, .func (.func 52) #[] #[.pointer (some ⟨w.heap.size, 0, none⟩)]] (w.alloc (.cells #[.func (.func 31) #[] #[]] 92)) (RetBool (!B) (w.alloc (.cells #[.func (.func 31) #[] #[]] 92)))) := by
    show Calls _ _ _ _ _
    generalize w.alloc (.cells #[.func (.func 31) #[] #[]] 92) = wb at *
    go_enter Tryz.func51, Tryz.ntmps51
    go_wp2_with fail
    refine C.out.mono ?_
    rintro e w1 ⟨k, rfl, hk, hb⟩
    have Hb := Lib.hid hb
    have Hk := Lib.hid hk
    clear hb hk
    go_wp2_with fail
    go_ret
    exact ⟨by rw [← Hk.out]; rfl, Hb.out⟩
  clear C
  go_enter Tryz.func30, Tryz.ntmps30
  go_wp2_with fail
  refine CC.out.mono ?_
  rintro e w1 ⟨rfl, hb⟩
  have Hb := Lib.hid hb
  clear hb CC
  go_wp2_with fail
  go_ret
  exact ⟨by cases B <;> rfl, below_next hba Hb.out⟩
end Go.Proofs.YtiffmiabhapfnaaGreatDoor

/- term.every over a list of rules. -/
namespace Go.Proofs.YtiffmiabhapfnaaGreatDoor
open Go.RowKit

set_option maxRecDepth 100000 in
set_option maxHeartbeats 1000000 in
theorem ev1R_any (x : GRule) (a m : Hd) (g : Nat) (w : World) (hg : w.cell? ⟨g, 0, none⟩ = some (.func (.func 15) #[] #[])) (HC : Hid (∀ W, Below w.heap.size w W → Calls Tryz.prog 15 #[.agg #[.string x.head.rel, a.v, .int .i64 x.agg, .int .i64 x.col, m.v, .int .i64 x.pos]] W (RetBool (rightRule x) W))) :
    Calls Tryz.prog 57 #[.agg #[.string x.head.rel, a.v, .int .i64 x.agg, .int .i64 x.col, m.v, .int .i64 x.pos], .pointer (some ⟨g, 0, none⟩)] w (RetBool (!rightRule x) w) := by
  have hrb : (w.alloc (.cells #[.string x.head.rel, a.v, .int .i64 x.agg, .int .i64 x.col, m.v, .int .i64 x.pos] 56)).heap[w.heap.size]? = some (.cells #[.string x.head.rel, a.v, .int .i64 x.agg, .int .i64 x.col, m.v, .int .i64 x.pos] 56 (0, 0)) := heapNew rfl
  obtain ⟨b0, b1, b2, b3, b4, b5⟩ := facts6 hrb
  have cg : (w.alloc (.cells #[.string x.head.rel, a.v, .int .i64 x.agg, .int .i64 x.col, m.v, .int .i64 x.pos] 56)).cell? ⟨g, 0, none⟩ = some (.func (.func 15) #[] #[]) := cellA hg
  clear hrb hg
  generalize rightRule x = B at *
  go_enter Tryz.func57, Tryz.ntmps57
  go_wp2_with fail
  refine (HC.out _ (by first | exact Below.refl _ _ | exact belowA (Below.refl _ _) _)).mono ?_
  rintro e w1 ⟨rfl, hb⟩
  have Hb := Lib.hid hb
  clear hb
  go_wp2_with fail
  go_ret
  exact ⟨rfl, below_next (belowA (Below.refl _ _) _) Hb.out⟩

set_option maxRecDepth 100000 in
set_option maxHeartbeats 1000000 in
theorem evIR_any (d : Nat) (A : Option Addr) (n c : Nat) (l : List GRule) (g : Nat) (w : World) (hl : SliceIs (Enc.rule d) w w.heap.size A n c l) (hg : w.cell? ⟨g, 0, none⟩ = some (.func (.func 15) #[] #[]))
    (HC : Hid (∀ (x : GRule) (a m : Hd) W, RuleAt d W W.heap.size x a m → Below w.heap.size w W → Calls Tryz.prog 15 #[.agg #[.string x.head.rel, a.v, .int .i64 x.agg, .int .i64 x.col, m.v, .int .i64 x.pos]] W (RetBool (rightRule x) W))) :
    Calls Tryz.prog 83 #[.slice A n c, .func (.func 57) #[] #[.pointer (some ⟨g, 0, none⟩)]] w (fun e w' => ∃ k : Int, e = .returned (.int .i64 k) ∧ decide (0 ≤ k) = !(l.all rightRule) ∧ Below w.heap.size w w') := by
  have hn := hl.bound
  have HL := Lib.hid hl
  have hlen := Lib.hid hl.1
  have Hg := Lib.hid hg
  clear hl hg
  go_enter Tryz.func83, Tryz.ntmps83
  go_wp2_with fail
  go_loopw [5, 8] (fun _ i wr => ∃ k : Nat, k ≤ n ∧ i = .int .i64 k ∧ Hid ((l.take k).all rightRule = true) ∧ Below w.heap.size w wr) (fun _ i _ => n - (intOf i).toNat)
  case atStart => exact ⟨0, by omega, rfl, by simp [Hid], Below.refl _ _⟩
  case round =>
    obtain ⟨k, hk, rfl, hpre, hbr⟩ := hrel
    by_cases hlt : k < n
    · have HLr := (HL.out.below hbr)
      obtain ⟨b, o, x, a, m, rfl, hbb, hx, hat, z0, z1, z2, z3, z4, z5⟩ := HLr.rule_at hlt
      have hokx : RuleAt d wr wr.heap.size x a m := hat.mono' hbr.size (Kept.of fun _ _ => rfl)
      have C := Lib.hid (ev1R_any x a m g wr (below_cell hbr Hg.out) (fun W hW => HC.out x a m W (hokx.keep hW) (below_next hbr hW)))
      have i0 : (0 : Int) ≤ (k : Int) := by omega
      have i1 : (k : Int) < (n : Int) := by omega
      have HT : Hid ((l.take (k + 1)).all rightRule = rightRule x) := by
        show _ = _
        obtain ⟨g1, g2⟩ := List.getElem?_eq_some_iff.1 hx.out
        rw [List.take_succ_eq_append_getElem g1, g2, List.all_append, hpre.out]; simp
      have HF : Hid (rightRule x = false → l.all rightRule = false) := fun h => by
        rw [List.all_eq_false]
        exact ⟨x, List.mem_of_getElem? hx.out, by simp [h]⟩
      clear HLr hokx
      generalize rightRule x = B at *
      cases B with
      | true =>
        clear HF
        go_wp2_with fail
        refine C.out.mono ?_
        rintro e w1 ⟨rfl, hb⟩
        have Hb := Lib.hid hb
        clear hb
        go_wp2_with fail
        go_roundw
        case rel => exact ⟨k + 1, by omega, by go_num, HT, below_next hbr Hb.out⟩
        case measure => simp [intOf]; omega
      | false =>
        have HF' : Hid (l.all rightRule = false) := HF.out rfl
        clear HF
        go_wp2_with fail
        refine C.out.mono ?_
        rintro e w1 ⟨rfl, hb⟩
        have Hb := Lib.hid hb
        clear hb
        go_wp2_with fail
        go_ret
        exact ⟨_, rfl, by rw [HF'.out]; simp, below_next hbr Hb.out⟩
    · have i1 : ¬ (k : Int) < (n : Int) := by omega
      have HA : Hid (l.all rightRule = true) := by
        show _ = _
        have h := hpre.out
        rw [List.take_of_length_le (by have := hlen.out; omega)] at h
        exact h
      go_wp2_with fail
      go_ret
      exact ⟨_, rfl, by rw [HA.out]; rfl, hbr⟩

set_option maxRecDepth 100000 in
set_option maxHeartbeats 1000000 in
theorem everyR_any (d : Nat) (A : Option Addr) (n c : Nat) (l : List GRule) (w : World) (hl : SliceIs (Enc.rule d) w w.heap.size A n c l)
    (HC : Hid (∀ (x : GRule) (a m : Hd) W, RuleAt d W W.heap.size x a m → Below w.heap.size w W → Calls Tryz.prog 15 #[.agg #[.string x.head.rel, a.v, .int .i64 x.agg, .int .i64 x.col, m.v, .int .i64 x.pos]] W (RetBool (rightRule x) W))) :
    Calls Tryz.prog 32 #[.slice A n c, .func (.func 15) #[] #[]] w (RetBool (l.all rightRule) w) := by
  have hba : Below w.heap.size w (w.alloc (.cells #[.func (.func 15) #[] #[]] 57)) := belowA (Below.refl _ _) _
  have C := Lib.hid (evIR_any d A n c l w.heap.size (w.alloc (.cells #[.func (.func 15) #[] #[]] 57)) (hl.keep hba) ((cell_of_row _ _ 0 _ _ _ (heapNew rfl)).trans rfl) (fun x a m W h hW => HC.out x a m W h (below_next hba hW)))
  generalize l.all rightRule = B at *
  clear hl HC
  have CC : Hid (Calls Tryz.prog 56 #[.slice A n c, .func (.func 57) #[] #[.pointer (some ⟨w.heap.size, 0, none⟩)]] (w.alloc (.cells #[.func (.func 15) #[] #[]] 57)) (RetBool (!B) (w.alloc (.cells #[.func (.func 15) #[] #[]] 57)))) := by
    show Calls _ _ _ _ _
    generalize w.alloc (.cells #[.func (.func 15) #[] #[]] 57) = wb at *
    go_enter Tryz.func56, Tryz.ntmps56
    go_wp2_with fail
    refine C.out.mono ?_
    rintro e w1 ⟨k, rfl, hk, hb⟩
    have Hb := Lib.hid hb
    have Hk := Lib.hid hk
    clear hb hk
    go_wp2_with fail
    go_ret
    exact ⟨by rw [← Hk.out]; rfl, Hb.out⟩
  clear C
  go_enter Tryz.func32, Tryz.ntmps32
  go_wp2_with fail
  refine CC.out.mono ?_
  rintro e w1 ⟨rfl, hb⟩
  have Hb := Lib.hid hb
  clear hb CC
  go_wp2_with fail
  go_ret
  exact ⟨by cases B <;> rfl, below_next hba Hb.out⟩
end Go.Proofs.YtiffmiabhapfnaaGreatDoor

/- term.Formed. -/
namespace Go.Proofs.YtiffmiabhapfnaaGreatDoor
open Go.RowKit

def formedB (x : GProg) : Bool := (decide (x.decls.length ≤ 32) && decide (x.rules.length ≤ 64)) && (x.decls.all declB && x.rules.all rightRule)
set_option maxRecDepth 100000 in
set_option maxHeartbeats 2000000 in
theorem formed_any (d : Nat) (x : GProg) (a b : Hd) (w : World) (h : ProgAt d w w.heap.size x a b) (hW : LexW w) : Calls Tryz.prog 14 #[.agg #[a.v, b.v]] w (RetBool (formedB x) w) := by
  obtain ⟨B, HB⟩ : ∃ B, Hid (B = formedB x) := ⟨_, rfl⟩
  rw [← HB.out]
  have hrb : (w.alloc (.cells #[a.v, b.v] 48)).heap[w.heap.size]? = some (.cells #[a.v, b.v] 48 (0, 0)) := heapNew rfl
  have hba : Below w.heap.size w (w.alloc (.cells #[a.v, b.v] 48)) := belowA (Below.refl _ _) _
  have hna := h.decls.bound
  have hnb := h.rules.bound
  have Hla := Lib.hid h.decls.1
  have Hlb := Lib.hid h.rules.1
  have HH := Lib.hid (h.keep hba)
  have HW := Lib.hid (hW.on hba)
  clear h hW
  obtain ⟨P1, HP1⟩ : ∃ E, Hid (E = x.decls.all declB) := ⟨_, rfl⟩
  obtain ⟨P2, HP2⟩ : ∃ E, Hid (E = x.rules.all rightRule) := ⟨_, rfl⟩
  have HE : Hid (B = ((decide (x.decls.length ≤ 32) && decide (x.rules.length ≤ 64)) && (P1 && P2))) := by show _ = _; rw [HB.out, HP1.out, HP2.out]; rfl
  have Hrow : Hid (∀ W, Below (w.alloc (.cells #[a.v, b.v] 48)).heap.size (w.alloc (.cells #[a.v, b.v] 48)) W → W.heap[w.heap.size]? = some (.cells #[a.v, b.v] 48 (0, 0))) := fun W h => (h.block _ (Array.getElem?_eq_some_iff.1 hrb).1).trans hrb
  obtain ⟨f0_0, f0_1⟩ := facts2 hrb
  have C1 : Hid (∀ W, Below (w.alloc (.cells #[a.v, b.v] 48)).heap.size (w.alloc (.cells #[a.v, b.v] 48)) W → Calls Tryz.prog 30 #[a.v, .func (.func 31) #[] #[]] W (RetBool P1 W)) := fun W h => by
    rw [HP1.out]
    exact everyD_any a.A a.n a.c x.decls W (HH.out.decls.keep h) (fun y a W' hy h' => declared_any y a W' hy ((HW.out.on h).on h'))
  have C2 : Hid (∀ W, Below (w.alloc (.cells #[a.v, b.v] 48)).heap.size (w.alloc (.cells #[a.v, b.v] 48)) W → Calls Tryz.prog 32 #[b.v, .func (.func 15) #[] #[]] W (RetBool P2 W)) := fun W h => by
    rw [HP2.out]
    exact everyR_any d b.A b.n b.c x.rules W (HH.out.rules.keep h) (fun y a m W' hy h' => rightRule_any d y a m W' hy ((HW.out.on h).on h'))
  clear hrb HB HP1 HP2 HH HW
  by_cases h1 : a.n ≤ 32
  rotate_left
  · have z1 : ¬ (a.n : Int) ≤ 32 := by omega
    have HE2 : Hid (B = false) := by show _ = _; rw [HE.out, decide_eq_false (by rw [Hla.out]; exact h1)]; rfl
    clear HE Hla Hlb h1 C1 C2
    go_enter Tryz.func14, Tryz.ntmps14
    go_wp2_with fail
    go_ret
    exact ⟨by rw [HE2.out]; rfl, hba⟩
  have z1 : (a.n : Int) ≤ 32 := by omega
  by_cases h2 : b.n ≤ 64
  rotate_left
  · have z2 : ¬ (b.n : Int) ≤ 64 := by omega
    have HE2 : Hid (B = false) := by show _ = _; rw [HE.out, decide_eq_false (show ¬ x.rules.length ≤ 64 by rw [Hlb.out]; exact h2)]; simp
    clear HE Hla Hlb h1 h2 C1 C2
    go_enter Tryz.func14, Tryz.ntmps14
    go_wp2_with fail
    go_ret
    exact ⟨by rw [HE2.out]; rfl, hba⟩
  have z2 : (b.n : Int) ≤ 64 := by omega
  have HE2 : Hid (B = (P1 && P2)) := by show _ = _; rw [HE.out, decide_eq_true (show x.decls.length ≤ 32 by rw [Hla.out]; exact h1), decide_eq_true (show x.rules.length ≤ 64 by rw [Hlb.out]; exact h2)]; rfl
  clear HE Hla Hlb h1 h2
  generalize hwb : (w.alloc (.cells #[a.v, b.v] 48)) = wb at *
  have Hbw0 := Lib.hid (Below.refl wb.heap.size wb)
  go_enter Tryz.func14, Tryz.ntmps14
  go_wp2_with fail
  try simp only [hwb]
  go_wp2_with fail
  refine (C1.out _ Hbw0.out).mono ?_
  rintro e1 w1 ⟨rfl, hq1⟩
  have Hbw1 := Lib.hid (below_next Hbw0.out hq1)
  obtain ⟨f1_0, f1_1⟩ := facts2 (Hrow.out _ Hbw1.out)
  clear hq1 f0_0 f0_1
  cases P1 with
  | false =>
    go_wp2_with fail
    go_ret
    exact ⟨by rw [HE2.out]; rfl, below_next hba Hbw1.out⟩
  | true =>
    go_wp2_with fail
    refine (C2.out _ Hbw1.out).mono ?_
    rintro e2 w2 ⟨rfl, hq2⟩
    have Hbw2 := Lib.hid (below_next Hbw1.out hq2)
    obtain ⟨f2_0, f2_1⟩ := facts2 (Hrow.out _ Hbw2.out)
    clear hq2 f1_0 f1_1
    cases P2 <;>
    · go_wp2_with fail
      go_ret
      exact ⟨by rw [HE2.out]; rfl, below_next hba Hbw2.out⟩
end Go.Proofs.YtiffmiabhapfnaaGreatDoor

/- The document's Formed. -/
namespace Go.Proofs.YtiffmiabhapfnaaGreatDoor
open Go.RowKit

set_option maxRecDepth 100000 in
set_option maxHeartbeats 4000000 in
theorem refFormed_any (d : Nat) (x : GProg) (a b : Hd) (w : World) (h : ProgAt d w w.heap.size x a b) : Calls Tryz.prog 20 #[.agg #[a.v, b.v]] w (RetBool (formedB x) w) := by
  obtain ⟨P, HP⟩ : ∃ P, Hid (P = RetBool (formedB x) w) := ⟨_, rfl⟩
  have HBad : Hid (formedB x = false → ∀ w', Below w.heap.size w w' → P (.returned (.bool false)) w') := fun h w' hb => by rw [HP.out, h]; exact ⟨rfl, hb⟩
  have HGood : Hid (formedB x = true → ∀ w', Below w.heap.size w w' → P (.returned (.bool true)) w') := fun h w' hb => by rw [HP.out, h]; exact ⟨rfl, hb⟩
  rw [← HP.out]
  have hn := h.decls.bound
  have hm := h.rules.bound
  obtain ⟨A, n, c⟩ := a
  obtain ⟨B, m, e⟩ := b
  have Hlen : Hid (x.decls.length = n) := h.decls.1
  have Hlen2 : Hid (x.rules.length = m) := h.rules.1
  have HK := Lib.hid h
  have HBD : Hid (x.decls.all declB = false → ∀ w', Below w.heap.size w w' → P (.returned (.bool false)) w') := fun h => HBad.out (by unfold formedB; rw [h]; simp)
  have HBR : Hid (x.rules.all rightRule = false → ∀ w', Below w.heap.size w w' → P (.returned (.bool false)) w') := fun h => HBad.out (by unfold formedB; rw [h]; simp)
  have hrb : (w.alloc (.cells #[.slice A n c, .slice B m e] 69)).heap[w.heap.size]? = some (.cells #[.slice A n c, .slice B m e] 69 (0, 0)) := heapNew rfl
  have hba : Below w.heap.size w (w.alloc (.cells #[.slice A n c, .slice B m e] 69)) := belowA (Below.refl _ _) _
  obtain ⟨b0, b1⟩ := facts2 hrb
  clear h HP
  show Calls Tryz.prog 20 #[.agg #[.slice A n c, .slice B m e]] w P
  by_cases h32 : 32 < n
  · have h32' : (32 : Int) < (n : Int) := by omega
    have HG := Lib.hid (HBad.out (by unfold formedB; have := Hlen.out; have h9 : ¬ x.decls.length ≤ 32 := by omega
                                     simp [h9]))
    clear HBad HGood HBD HBR
    go_enter Tryz.func20, Tryz.ntmps20
    go_wp2_with fail
    first | exact HG.out _ hba | (go_ret; exact HG.out _ hba)
  have h32' : ¬ (32 : Int) < (n : Int) := by omega
  by_cases h64 : 64 < m
  · have h64' : (64 : Int) < (m : Int) := by omega
    have HG := Lib.hid (HBad.out (by unfold formedB; have := Hlen2.out; have h9 : ¬ x.rules.length ≤ 64 := by omega
                                     simp [h9]))
    clear HBad HGood HBD HBR
    go_enter Tryz.func20, Tryz.ntmps20
    go_wp2_with fail
    first | exact HG.out _ hba | (go_ret; exact HG.out _ hba)
  have h64' : ¬ (64 : Int) < (m : Int) := by omega
  have HG0 : Hid (x.decls.all declB = true → x.rules.all rightRule = true → ∀ w', Below w.heap.size w w' → P (.returned (.bool true)) w') := fun h1 h2 => HGood.out (by
    unfold formedB
    have h8 : x.decls.length ≤ 32 := by have := Hlen.out; omega
    have h9 : x.rules.length ≤ 64 := by have := Hlen2.out; omega
    rw [h1, h2]; simp [h8, h9])
  have HR0 := Lib.hid hrb
  have HB0 := Lib.hid hba
  clear HBad HGood
  go_enter Tryz.func20, Tryz.ntmps20
  go_wp2_with fail
  clear b0 b1 hrb hba
  go_loopw [3] (fun i wr => ∃ k : Nat, k ≤ n ∧ i = .int .i64 k ∧ Hid ((x.decls.take k).all declB = true) ∧ Hid (wr.heap[w.heap.size]? = some (.cells #[.slice A n c, .slice B m e] 69 (0, 0))) ∧ Hid (Below w.heap.size w wr)) (fun i _ => n - (intOf i).toNat)
  case atStart => exact ⟨0, by omega, rfl, by show _ = _; simp, HR0, HB0⟩
  case round =>
    clear HR0 HB0
    obtain ⟨k, hk, rfl, HA, HR, HBr⟩ := hrel
    have i0 : (0 : Int) ≤ (k : Int) := by omega
    obtain ⟨b0, b1⟩ := facts2 HR.out
    by_cases hlt : k < n
    · have i1 : (k : Int) < (n : Int) := by omega
      obtain ⟨bb, o, y, aa, hAA, hbb, hy, hat, y0, y1, y2⟩ := (HK.out.keep HBr.out).decls.decl_at hlt
      try simp only at hAA
      subst hAA
      obtain ⟨aA, an, ac⟩ := aa
      dsimp only [Hd.v] at y1
      have hna := hat.kinds.bound
      have Hky : Hid (y.kinds.length = an) := hat.kinds.1
      have HT1 : Hid (declB y = true → (x.decls.take (k + 1)).all declB = true) := fun h => by rw [all_take hy.out, HA.out, h]; rfl
      have HT2 := Lib.hid (fun h => HBD.out (all_false hy.out h))
      have HN := Lib.hid (refNamed_any y.rel (wr.alloc (.cells #[.string y.rel, .slice aA an ac, .int .i64 y.pos] 98)))
      have hba : Below wr.heap.size wr (wr.alloc (.cells #[.string y.rel, .slice aA an ac, .int .i64 y.pos] 98)) := belowA (Below.refl _ _) _
      have HRa := Lib.hid (heapOld (o := .cells #[.string y.rel, .slice aA an ac, .int .i64 y.pos] 98) HR.out)
      have hX : (wr.alloc (.cells #[.string y.rel, .slice aA an ac, .int .i64 y.pos] 98)).heap[wr.heap.size]? = some (.cells #[.string y.rel, .slice aA an ac, .int .i64 y.pos] 98 (0, 0)) := heapNew rfl
      obtain ⟨z0, z1, z2⟩ := facts3 hX
      have HXa := Lib.hid hX
      have HBa := Lib.hid (below_next HBr.out hba)
      have HKy := Lib.hid (hat.kinds.mono' hba.size (Kept.of hba.block))
      clear hy hat hba hX
      go_wp2_with fail
      refine HN.out.mono ?_
      rintro r w1 ⟨rfl, hb1⟩
      have HRb := Lib.hid ((hb1.block _ (Array.getElem?_eq_some_iff.1 HRa.out).1).trans HRa.out)
      have HXb := Lib.hid ((hb1.block _ (Array.getElem?_eq_some_iff.1 HXa.out).1).trans HXa.out)
      have HBb := Lib.hid (below_next HBa.out hb1)
      have HKz := Lib.hid (HKy.out.mono' hb1.size (Kept.of hb1.block))
      clear b0 b1 z0 z1 z2 y0 y1 y2 HRa HXa HBa HKy hb1 HN
      obtain ⟨b0, b1⟩ := facts2 HRb.out
      obtain ⟨z0, z1, z2⟩ := facts3 HXb.out
      cases hq : singleB 2 y.rel with
      | false =>
        have HG := Lib.hid (HT2.out (by unfold declB; rw [hq]; rfl))
        clear hq HT1 HT2 HG0 HBD HBR
        go_wp2_with fail
        first | exact HG.out _ HBb.out | (go_ret; exact HG.out _ HBb.out)
      | true =>
        by_cases h6 : 6 < an
        · have h6' : (6 : Int) < (an : Int) := by omega
          have HG := Lib.hid (HT2.out (by unfold declB; have := Hky.out; have h9 : ¬ y.kinds.length ≤ 6 := by omega
                                          simp [h9]))
          clear hq HT1 HT2 HG0 HBD HBR
          go_wp2_with fail
          first | exact HG.out _ HBb.out | (go_ret; exact HG.out _ HBb.out)
        have h6' : ¬ (6 : Int) < (an : Int) := by omega
        have HT3 : Hid (y.kinds.all kindB = true → (x.decls.take (k + 1)).all declB = true) := fun h => HT1.out (by unfold declB; rw [hq, h]; simp; have := Hky.out; omega)
        have HT4 : Hid (y.kinds.all kindB = false → ∀ w', Below w.heap.size w w' → P (.returned (.bool false)) w') := fun h => HT2.out (by unfold declB; rw [h]; simp)
        obtain ⟨gx, Hgx⟩ : ∃ gx, Hid (wr.heap.size = gx) := ⟨_, rfl⟩
        rw [Hgx.out] at z0 z1 z2 HXb ⊢
        clear hq HT1 HT2
        go_wp2_with fail
        clear z0 z1 z2 b0 b1
        go_loopw [5] (fun i W => ∃ q : Nat, q ≤ an ∧ i = .int .i64 q ∧ Hid ((y.kinds.take q).all kindB = true) ∧ Hid (W = w1)) (fun i _ => an - (intOf i).toNat)
        case atStart => exact ⟨0, by omega, rfl, by show _ = _; simp, rfl⟩
        case round =>
          obtain ⟨q, hqn, rfl, HQ, HW⟩ := hrel
          have hw := HW.out
          subst hw
          clear HW
          have q0 : (0 : Int) ≤ (q : Int) := by omega
          obtain ⟨z0, z1, z2⟩ := facts3 HXb.out
          by_cases hlq : q < an
          · have q1 : (q : Int) < (an : Int) := by omega
            obtain ⟨b5, o5, kd, rfl, hb5, hkd, r0, rf⟩ := HKz.out.int_at hlq
            by_cases hk1 : kd = 1
            · have e1 : (kd != 1) = false := by simp [hk1]
              have HQ2 : Hid ((y.kinds.take (q + 1)).all kindB = true) := by show _ = _; rw [all_take hkd.out, HQ.out]; simp [kindB, hk1]
              clear hkd hk1
              go_wp2_with fail
              go_roundw
              case rel => exact ⟨q + 1, by omega, by go_num, HQ2, by first | exact (rfl : _ = _) | exact (trivial : True)⟩
              case measure => simp [intOf]; omega
            · have e1 : (kd != 1) = true := by simp [hk1]
              by_cases hk2 : kd = 2
              · have e2 : (kd != 2) = false := by simp [hk2]
                have HQ2 : Hid ((y.kinds.take (q + 1)).all kindB = true) := by show _ = _; rw [all_take hkd.out, HQ.out]; simp [kindB, hk2]
                clear hkd hk1 hk2
                go_wp2_with fail
                go_roundw
                case rel => exact ⟨q + 1, by omega, by go_num, HQ2, by first | exact (rfl : _ = _) | exact (trivial : True)⟩
                case measure => simp [intOf]; omega
              · have e2 : (kd != 2) = true := by simp [hk2]
                have HG := Lib.hid (HT4.out (all_false hkd.out (by simp [kindB, hk1, hk2])))
                clear hkd hk1 hk2 HT3 HT4 HG0 HBD HBR
                go_wp2_with fail
                first | exact HG.out _ HBb.out | (go_ret; exact HG.out _ HBb.out)
          · have q1 : ¬ (q : Int) < (an : Int) := by omega
            have HA2 := Lib.hid (HT3.out (by have := HQ.out; rwa [List.take_of_length_le (by have := Hky.out; omega)] at this))
            clear HT3 HT4
            go_wp2_with fail
            go_roundw
            case rel => exact ⟨k + 1, by omega, by go_num, HA2, HRb, HBb⟩
            case measure => simp [intOf]; omega
    · have i1 : ¬ (k : Int) < (n : Int) := by omega
      have HG1 := Lib.hid (HG0.out (by have := HA.out; rwa [List.take_of_length_le (by have := Hlen.out; omega)] at this))
      clear HG0 HBD HA
      go_wp2_with fail
      clear b0 b1
      go_loopw [6] (fun i wr => ∃ k : Nat, k ≤ m ∧ i = .int .i64 k ∧ Hid ((x.rules.take k).all rightRule = true) ∧ Hid (wr.heap[w.heap.size]? = some (.cells #[.slice A n c, .slice B m e] 69 (0, 0))) ∧ Hid (Below w.heap.size w wr)) (fun i _ => m - (intOf i).toNat)
      case atStart => exact ⟨0, by omega, rfl, by show _ = _; simp, HR, HBr⟩
      case round =>
        clear HR HBr
        obtain ⟨k2, hk2, rfl, HA, HR, HBr⟩ := hrel
        have j0 : (0 : Int) ≤ (k2 : Int) := by omega
        obtain ⟨b0, b1⟩ := facts2 HR.out
        by_cases hlt2 : k2 < m
        · have j1 : (k2 : Int) < (m : Int) := by omega
          obtain ⟨bb, o, y, ak, mk, hAA, hbb, hy, hat, y0, y1, y2, y3, y4, y5⟩ := (HK.out.keep HBr.out).rules.rule_at hlt2
          try simp only at hAA
          subst hAA
          have HL := Lib.hid (refRightRule_any d y ak mk wr hat)
          have HT1 : Hid (rightRule y = true → (x.rules.take (k2 + 1)).all rightRule = true) := fun h => by rw [all_take hy.out, HA.out, h]; rfl
          have HT2 := Lib.hid (fun h => HBR.out (all_false hy.out h))
          clear hy hat
          go_wp2_with fail
          refine HL.out.mono ?_
          rintro r w2 ⟨rfl, hb2⟩
          have HB2 := Lib.hid (below_next HBr.out hb2)
          have HR3 := Lib.hid ((hb2.block _ (Array.getElem?_eq_some_iff.1 HR.out).1).trans HR.out)
          clear hb2 HL b0 b1 y0 y1 y2 y3 y4 y5
          cases hq : rightRule y with
          | false =>
            have HB3 := Lib.hid (HT2.out hq)
            clear hq HT1 HT2 HG1 HBR
            go_wp2_with fail
            first | exact HB3.out _ HB2.out | (go_ret; exact HB3.out _ HB2.out)
          | true =>
            have HA2 := Lib.hid (HT1.out hq)
            clear hq HT1 HT2
            go_wp2_with fail
            go_roundw
            case rel => exact ⟨k2 + 1, by omega, by go_num, HA2, HR3, HB2⟩
            case measure => simp [intOf]; omega
        · have j1 : ¬ (k2 : Int) < (m : Int) := by omega
          have HG3 := Lib.hid (HG1.out (by have := HA.out; rwa [List.take_of_length_le (by have := Hlen2.out; omega)] at this))
          clear HG1 HBR
          go_wp2_with fail
          first | exact HG3.out _ HBr.out | (go_ret; exact HG3.out _ HBr.out)
end Go.Proofs.YtiffmiabhapfnaaGreatDoor

/- corollarylaw05.Ruled: a rule of the program's as the document's. -/
namespace Go.Proofs.YtiffmiabhapfnaaGreatDoor
open Go.RowKit

def CopyRule (d : Nat) (x : GRule) (w : World) (r : Ending) (w' : World) : Prop :=
  ∃ a b : Hd, r = .returned (.agg (ruleC x a b).toArray) ∧ RuleAt d (sans w' (List.range w.heap.size)) w'.heap.size x a b ∧ Below w.heap.size w w'
def rulF (x : GRule) (a : Hd) (_b : Hd) (g n0 : Nat) (i : Nat) (v : Value) (W : World) : Prop := match i with
  | 0 => v = .pointer (some ⟨g, 0, none⟩)
  | 1 => v = .agg (atomC x.head a).toArray
  | 2 => ∃ (A : Option Addr) (c : Nat), v = .agg (atomC x.head ⟨A, x.head.args.length, c⟩).toArray ∧ W.ownsRow n0 34 4 (.slice A x.head.args.length c) x.head.args.length (x.head.args.flatMap GTold.cells)
  | 3 => v = .pointer (some ⟨g, 2, none⟩)
  | 4 => v = .int .i64 x.agg
  | 5 => v = .pointer (some ⟨g, 3, none⟩)
  | 6 => v = .int .i64 x.col
  | 7 => v = .pointer (some ⟨g, 5, none⟩)
  | 8 => v = .int .i64 x.pos
  | 9 => ∃ (A : Option Addr) (c : Nat), v = .agg (ruleC x ⟨A, x.head.args.length, c⟩ ⟨none, 0, 0⟩).toArray ∧ W.ownsRow n0 34 4 (.slice A x.head.args.length c) x.head.args.length (x.head.args.flatMap GTold.cells)
  | 10 => ∃ (b : Nat) (cs : List Value), v = .pointer (some ⟨b, 0, none⟩) ∧ n0 ≤ b ∧ cs.length = 6 ∧ W.heap[b]? = some (.cells cs.toArray 103 (0, 0))
  | _ => True
theorem rulF_keep {x : GRule} {a b : Hd} {g n0 i : Nat} {v : Value} {W W' : World} (h : rulF x a b g n0 i v W) (hb : Below W.heap.size W W') : rulF x a b g n0 i v W' := by
  match i, h with
  | 0, h => exact h
  | 1, h => exact h
  | 2, ⟨A, c, h1, h2⟩ => exact ⟨A, c, h1, own_below h2 hb⟩
  | 3, h => exact h
  | 4, h => exact h
  | 5, h => exact h
  | 6, h => exact h
  | 7, h => exact h
  | 8, h => exact h
  | 9, ⟨A, c, h1, h2⟩ => exact ⟨A, c, h1, own_below h2 hb⟩
  | 10, ⟨b, cs, h1, h2, h3, h4⟩ => exact ⟨b, cs, h1, h2, h3, (hb.block _ (Array.getElem?_eq_some_iff.1 h4).1).trans h4⟩
  | _ + 11, _ => exact trivial
theorem own_lowR {W : World} {base base' : Nat} {e : TypeId} {size : Nat} {v : Value} {k : Nat} {xs : List Value} (h : W.ownsRow base e size v k xs) (hb : base' ≤ base) : W.ownsRow base' e size v k xs := by
  refine ⟨h.1, ?_⟩
  rcases h.2 with hn | ⟨g, cap, cur, hv, hbg, rest⟩
  · exact .inl hn
  · exact .inr ⟨g, cap, cur, hv, by omega, rest⟩
abbrev zrC : List Value := [.string ⟨#[]⟩, .slice none 0 0, .int .i64 0, .int .i64 0, .slice none 0 0, .int .i64 0]
set_option maxRecDepth 100000 in
set_option maxHeartbeats 8000000 in
theorem copyRule_any (d : Nat) (x : GRule) (a b : Hd) (w : World) (hk : RuleAt d w w.heap.size x a b) (hs : SmRule x) :
    Calls Tryz.prog 40 #[.agg (ruleC x a b).toArray] w (CopyRule d x w) := by
  have mixed : Tryz.prog.follows .mixedOrders = true := by kernel_rfl
  have hn := hk.body.bound
  have Hlen := Lib.hid hk.body.1
  have HS := Lib.hid hs
  obtain ⟨P, HP⟩ : ∃ P : Ending → World → Prop, Hid (P = CopyRule d x w) := ⟨_, rfl⟩
  rw [← HP.out]
  have HKw := Lib.hid hk
  obtain ⟨aA, an, ac⟩ := a
  obtain ⟨A, n, c⟩ := b
  have hg0 : ((w.alloc (.cells (ruleC x ⟨aA, an, ac⟩ ⟨A, n, c⟩).toArray 56)).alloc (.cells zrC.toArray 103)).heap[w.heap.size]? = some (.cells (ruleC x ⟨aA, an, ac⟩ ⟨A, n, c⟩).toArray 56 (0, 0)) := heapOld (heapNew rfl)
  have hg1 : ((w.alloc (.cells (ruleC x ⟨aA, an, ac⟩ ⟨A, n, c⟩).toArray 56)).alloc (.cells zrC.toArray 103)).heap[w.heap.size + 1]? = some (.cells zrC.toArray 103 (0, 0)) := heapNew (by simp)
  have hbw : Below w.heap.size w ((w.alloc (.cells (ruleC x ⟨aA, an, ac⟩ ⟨A, n, c⟩).toArray 56)).alloc (.cells zrC.toArray 103)) := belowA (belowA (Below.refl _ _) _) _
  have hzw : ((w.alloc (.cells (ruleC x ⟨aA, an, ac⟩ ⟨A, n, c⟩).toArray 56)).alloc (.cells zrC.toArray 103)).heap.size = w.heap.size + 2 := by simp
  clear hk hs
  show Calls Tryz.prog 40 #[.agg #[.string x.head.rel, .slice aA an ac, .int .i64 x.agg, .int .i64 x.col, .slice A n c, .int .i64 x.pos]] w P
  go_enter Tryz.func40, Tryz.ntmps40
  go_wp2_with fail
  generalize hwb : (w.alloc _).alloc _ = wb
  rw [hwb] at hg0 hg1 hbw hzw
  clear hwb
  have HK := Lib.hid (HKw.out.keep hbw)
  have C1 := Lib.hid (fun (W : World) (h : Below wb.heap.size wb W) => copyAtom_any x.head ⟨aA, an, ac⟩ W ((HK.out.keep h).args) HKw.out.rel HS.out.args)
  refine drawn2 mixed 11 32 [6, 7, 8, 9, 10, 11, 12, 13, 14, 15, 3] (fun _ W => Below wb.heap.size wb W) (rulF x ⟨aA, an, ac⟩ ⟨A, n, c⟩ w.heap.size wb.heap.size) (fun _ W W' => Below W.heap.size W W') rfl (by kernel_rfl) (by kernel_rfl) rfl (fun j _ => below_drewN _ 1 _) (fun i j v W W' _ _ _ h h' => rulF_keep h h') (fun _ _ _ _ _ _ _ _ h h' => below_next h h') ?_ ?_
  · intro i o2 a2 W hi ho hd hold hG _ hw
    have hr1 : a2.tmps[1]? = some (.pointer (some ⟨w.heap.size, 0, none⟩)) := hold 1 (by kernel_rfl)
    have hgW := (hG.block _ (Array.getElem?_eq_some_iff.1 hg0).1).trans hg0
    have k2 : W.cell? ⟨w.heap.size, 2, none⟩ = some (.int .i64 x.agg) := (cell_of_row _ _ 2 _ _ _ hgW).trans rfl
    have k3 : W.cell? ⟨w.heap.size, 3, none⟩ = some (.int .i64 x.col) := (cell_of_row _ _ 3 _ _ _ hgW).trans rfl
    have k5 : W.cell? ⟨w.heap.size, 5, none⟩ = some (.int .i64 x.pos) := (cell_of_row _ _ 5 _ _ _ hgW).trans rfl
    have hWz := hG.size
    clear hold
    match i, hi, ho with
    | 0, _, ho =>
      injection ho with ho; subst ho
      exact op_val _ (by simp [execOp, Act.eval, hr1, go_sem]) ⟨_, rfl, Below.refl _ _, rfl⟩
    | 1, _, ho =>
      injection ho with ho; subst ho
      obtain ⟨v0, h0, e0⟩ := hw 0 6 (by kernel_rfl)
      obtain rfl : v0 = _ := e0
      exact wp_load_mid 53 (.tmp 6) rfl _ _ (eval_tmp h0) (atomC x.head ⟨aA, an, ac⟩) _ (range_off hgW rfl) Tryz.underlying53 rfl (atom_size _ _) ⟨_, rfl, Below.refl _ _, rfl⟩
    | 2, _, ho =>
      injection ho with ho; subst ho
      obtain ⟨v0, h0, e0⟩ := hw 1 7 (by kernel_rfl)
      obtain rfl : v0 = _ := e0
      refine op_call 66 _ rfl rfl #[.agg (atomC x.head ⟨aA, an, ac⟩).toArray] (by simp [Act.eval, h0]) _ Tryz.func66 (by kernel_rfl) (by kernel_rfl) ((C1.out W hG).mono ?_)
      rintro r w' ⟨A', c', rfl, hs', hb⟩
      exact ⟨_, rfl, _, rfl, hb, A', c', rfl, own_lowR hs' hWz⟩
    | 3, _, ho =>
      injection ho with ho; subst ho
      exact op_val _ (by simp [execOp, Act.eval, hr1, go_sem]) ⟨_, rfl, Below.refl _ _, rfl⟩
    | 4, _, ho =>
      injection ho with ho; subst ho
      obtain ⟨v0, h0, e0⟩ := hw 3 9 (by kernel_rfl)
      obtain rfl : v0 = _ := e0
      exact op_val _ (by simp [execOp, Act.eval, h0, go_sem, k2]) ⟨_, rfl, Below.refl _ _, rfl⟩
    | 5, _, ho =>
      injection ho with ho; subst ho
      exact op_val _ (by simp [execOp, Act.eval, hr1, go_sem]) ⟨_, rfl, Below.refl _ _, rfl⟩
    | 6, _, ho =>
      injection ho with ho; subst ho
      obtain ⟨v0, h0, e0⟩ := hw 5 11 (by kernel_rfl)
      obtain rfl : v0 = _ := e0
      exact op_val _ (by simp [execOp, Act.eval, h0, go_sem, k3]) ⟨_, rfl, Below.refl _ _, rfl⟩
    | 7, _, ho =>
      injection ho with ho; subst ho
      exact op_val _ (by simp [execOp, Act.eval, hr1, go_sem]) ⟨_, rfl, Below.refl _ _, rfl⟩
    | 8, _, ho =>
      injection ho with ho; subst ho
      obtain ⟨v0, h0, e0⟩ := hw 7 13 (by kernel_rfl)
      obtain rfl : v0 = _ := e0
      exact op_val _ (by simp [execOp, Act.eval, h0, go_sem, k5]) ⟨_, rfl, Below.refl _ _, rfl⟩
    | 9, _, ho =>
      injection ho with ho; subst ho
      obtain ⟨v2, h2, A2, c2, e2, f2⟩ := hw 2 8 (by kernel_rfl)
      obtain ⟨v4, h4, e4⟩ := hw 4 10 (by kernel_rfl)
      obtain ⟨v6, h6, e6⟩ := hw 6 12 (by kernel_rfl)
      obtain ⟨v8, h8, e8⟩ := hw 8 14 (by kernel_rfl)
      obtain rfl : v2 = _ := e2
      obtain rfl : v4 = _ := e4
      obtain rfl : v6 = _ := e6
      obtain rfl : v8 = _ := e8
      exact op_build 103 _ rfl [(0, .agg (atomC x.head ⟨A2, x.head.args.length, c2⟩).toArray), (1, .int .i64 x.agg), (2, .int .i64 x.col), (4, .int .i64 x.pos)] (ruleC x ⟨A2, x.head.args.length, c2⟩ ⟨none, 0, 0⟩).toArray (by simp [Act.eval, h2, h4, h6, h8]) (by kernel_rfl) ⟨_, rfl, Below.refl _ _, A2, c2, rfl, f2⟩
    | 10, _, ho =>
      injection ho with ho; subst ho
      exact op_alloc 103 rfl zrC.toArray 6 (by kernel_rfl) ⟨_, rfl, belowA (Below.refl _ _) _, _, zrC, rfl, hWz, rfl, heapNew rfl⟩
    | n + 11, hi, _ => omega
  · intro o2 u W ho hG hw
    obtain ⟨hA, hc, e0, h1⟩ := hw 9 15 (by decide) (by kernel_rfl)
    obtain ⟨g, cs, e1, hgn, hcs, hgg⟩ := hw 10 3 (by decide) (by kernel_rfl)
    have hgW := (hG.block _ (Array.getElem?_eq_some_iff.1 hg1).1).trans hg1
    injection ho with ho; subst ho
    simp only [List.foldl_cons, List.foldl_nil, Act.put, List.setIfInBounds_toArray, List.set_cons_zero, List.set_cons_succ]
    rw [e0, e1]
    refine wp_store_row 103 (.tmp 3) (.tmp 15) rfl g (ruleC x ⟨hA, x.head.args.length, hc⟩ ⟨none, 0, 0⟩).toArray rfl rfl 103 cs.toArray hgg (by kernel_rfl) (by simp [hcs]) (by simp [Value.oneCell']) ?_
    have hS := setRow_at (cs' := (ruleC x ⟨hA, x.head.args.length, hc⟩ ⟨none, 0, 0⟩).toArray) hgg
    have hoS : Out [g] W (W.setRow g (ruleC x ⟨hA, x.head.args.length, hc⟩ ⟨none, 0, 0⟩).toArray) := ⟨rfl, rfl, rfl, by rw [setRow_size]; exact Nat.le_refl _, fun x _ hx => setRow_ne (by simpa using hx)⟩
    have hgl := (Array.getElem?_eq_some_iff.1 hgg).1
    have hzz := hG.size
    have hO2 := own_out' h1 hoS (fun b hb hb' => by
      obtain ⟨cur, hcur⟩ := own_typeR h1 hb
      simp at hb'
      subst hb'
      rw [hgg] at hcur
      injection hcur with hcur
      injection hcur with _ h3 _
      exact absurd h3 (by decide))
    have hr1 := (hoS.block _ (Array.getElem?_eq_some_iff.1 hgW).1 (by simp; omega)).trans hgW
    have hr0 := (hoS.block _ (Array.getElem?_eq_some_iff.1 ((hG.block _ (Array.getElem?_eq_some_iff.1 hg0).1).trans hg0)).1 (by simp; omega)).trans ((hG.block _ (Array.getElem?_eq_some_iff.1 hg0).1).trans hg0)
    have hbW : Below w.heap.size w (W.setRow g (ruleC x ⟨hA, x.head.args.length, hc⟩ ⟨none, 0, 0⟩).toArray) := (hbw.trans (hG.mono (by omega))).trans (hoS.below (fun b hb => by simp at hb; omega) (by omega))
    have hsz : (W.setRow g (ruleC x ⟨hA, x.head.args.length, hc⟩ ⟨none, 0, 0⟩).toArray).heap.size = W.heap.size := setRow_size
    clear hw C1 hoS hgg hcs h1 hgW hg0 hg1 hG HK hbw e0 e1
    generalize W.setRow g _ = W2 at *
    obtain ⟨b0, b1, b2, b3, b4, b5⟩ := facts6 hr0
    dsimp only [Hd.v] at b0 b1 b2 b3 b4 b5
    obtain ⟨b1z, Hb1⟩ : ∃ b1z, Hid (W2.heap.size = b1z) := ⟨_, rfl⟩
    have HKe := Lib.hid (fun (W : World) (h : Below w.heap.size w W) => (HKw.out.keep h).body)
    simp only [Act.put]
    go_wp2_with fail
    have HO0 := Lib.hid (own_lowR hO2 (base' := w.heap.size) (by omega))
    have hzb : w.heap.size + 2 ≤ b1z := by have := Hb1.out; omega
    have hgb : g < b1z := by have := Hb1.out; omega
    have hgw : w.heap.size + 2 ≤ g := by omega
    have hHO : Hid (∀ bb, (Value.slice hA x.head.args.length hc).ownBlock = some bb → bb < b1z ∧ bb ≠ g) := fun bb hbb => by
      have h9 := (own_blk hO2 hbb).2
      refine ⟨by have := Hb1.out; omega, fun e => ?_⟩
      obtain ⟨cur, hcur⟩ := own_typeR hO2 hbb
      rw [e, hS] at hcur
      injection hcur with hcur
      injection hcur with _ h3 _
      exact absurd h3 (by decide)
    have HzW : Hid (b1z ≤ W2.heap.size) := by show _ ≤ _; rw [Hb1.out]; exact Nat.le_refl _
    clear hO2 hr0 b0 b1 b2 b3 b4 b5 Hb1 hsz hzw hgl hgn hzz
    go_loopw [19] (fun i wr => ∃ (j c' : Nat) (A' : Option Addr) (L : List (GLit × List Value)), j ≤ n ∧ i = .int .i64 j ∧ Hid (L.map (·.1) = x.body.take j) ∧ Hid (Rows (Enc.lit d) b1z 129 wr A' j c' L) ∧ wr.heap[g]? = some (.cells (ruleC x ⟨hA, x.head.args.length, hc⟩ ⟨A', j, c'⟩).toArray 103 (0, 0)) ∧ wr.heap[w.heap.size + 1]? = some (.cells zrC.toArray 103 (0, 0)) ∧
      Hid (wr.ownsRow w.heap.size 34 4 (.slice hA x.head.args.length hc) x.head.args.length (x.head.args.flatMap GTold.cells)) ∧ Below w.heap.size w wr ∧ b1z ≤ wr.heap.size) (fun i _ => n - (intOf i).toNat)
    case atStart => exact ⟨0, 0, none, [], by omega, rfl, rfl, Rows.nil _ _ _, hS, hr1, HO0, hbW, HzW.out⟩
    case round =>
      clear hS hr1 hbW
      obtain ⟨j, c', A', L, hj, rfl, HL, HR, hg, hg1, HOh, hbr, hzr⟩ := hrel
      have i0 : (0 : Int) ≤ (j : Int) := by omega
      by_cases hlt : j < n
      · have i1 : (j : Int) < (n : Int) := by omega
        obtain ⟨bb, o, k, ak, pk, qk, hAA, hbb, hk', hkl, hr⟩ := (HKe.out wr hbr).lit_range hlt
        try simp only at hAA
        subst hAA
        have hkm := Lib.hid (List.mem_of_getElem? hk'.out)
        have HT : Hid (x.body.take (j + 1) = x.body.take j ++ [k]) := by show _ = _; rw [List.take_add_one, hk'.out]; rfl
        have hba : Below wr.heap.size wr (wr.alloc (.cells (litC k ak pk qk).toArray 63)) := belowA (Below.refl _ _) _
        have HC := Lib.hid (fun (W : World) (h : Below (wr.alloc (.cells (litC k ak pk qk).toArray 63)).heap.size (wr.alloc (.cells (litC k ak pk qk).toArray 63)) W) => copyLit_any d k ak pk qk W ((hkl.keep hba).keep h) (HS.out.lits k hkm.out))
        have hn1 : j + 1 ≤ 1500 := by have := HS.out.body; have := Hlen.out; omega
        have hx2 : (wr.alloc (.cells (litC k ak pk qk).toArray 63)).heap[wr.heap.size]? = some (.cells (litC k ak pk qk).toArray 63 (0, 0)) := heapNew rfl
        have hgA := heapOld (o := .cells (litC k ak pk qk).toArray 63) hg
        have hg1A := heapOld (o := .cells (litC k ak pk qk).toArray 63) hg1
        have HRA := Lib.hid (HR.out.out (Out.of_below hba []) (fun _ h _ => by cases h))
        have hbA := below_next hbr hba
        have HOhA := Lib.hid (own_below HOh.out hba)
        have HoG : Hid (g ∉ (Value.slice A' j c').ownBlock.toList) := fun hm => by
          have := (own_blk HR.out.own (b := g) (by simpa using hm)).1
          omega
        have HoX : Hid (wr.heap.size ∉ (Value.slice A' j c').ownBlock.toList) := fun hm => by
          have := (own_blk HR.out.own (b := wr.heap.size) (by simpa using hm)).2
          omega
        have HO : Hid ((wr.alloc (.cells (litC k ak pk qk).toArray 63)).ownsRow b1z 129 17 (.slice A' j c') j (L.flatMap (·.2))) := HRA.out.own
        clear hk' hba hkl HR hg hg1 HOh
        go_wp2_with (first
          | refine wpList_load_mid rfl 63 (.tmp 21) rfl bb (o + j * 17) rfl (litC k ak pk qk) _ hr.out Tryz.underlying63 rfl (lit_size k ak pk qk) ?_
          | refine wpList_new rfl rfl 63 5 (.tmp 22) rfl rfl rfl rfl _ (litC k ak pk qk).toArray lit_info rfl (lit_one k ak pk qk) rfl rfl ?_)
        refine push_region (n := 32) mixed rfl rfl (by kernel_rfl) (by kernel_rfl) (by kernel_rfl) g wr.heap.size 4 b1z 129 17 224 j (.agg zlC.toArray) A' c' (L.flatMap (·.2)) (litC k ak pk qk) (ruleC x ⟨hA, x.head.args.length, hc⟩ ⟨A', j, c'⟩).toArray
          (fun vcs W => (Enc.lit d).ok (sans W (List.range (wr.heap.size + 1))) W.heap.size vcs k) (fun S vcs W => (Enc.lit d).ok (sans W (List.range (wr.heap.size + 1) ++ S)) W.heap.size vcs k) _
          rfl rfl hgA hx2 rfl (fun w => by simp [go_sem]) Tryz.underlying101 (by kernel_rfl) Tryz.underlying63 rfl (lit_size k ak pk qk) (by kernel_rfl) rfl (by decide) (by decide) HO.out HoG.out HoX.out (by simp [maxLen]; omega) (by omega) (by simp; omega) _ Tryz.func67 (by kernel_rfl) (by kernel_rfl) ?_ ?_ ?_ ?_ ?_ ?_
        · intro vcs W W' h hb
          exact (Enc.lit d).mono hb.size ((Out.of_below hb []).kept (fun _ h _ => by cases h) (fun _ h _ => h)) h
        · intro S vcs W W' h hb
          exact (Enc.lit d).mono hb.size ((Out.of_below hb []).kept (fun _ h _ => by cases h) (fun _ h _ => h)) h
        · intro S vcs W W' h hz ho hS
          refine (Enc.lit d).mono ho.size (ho.kept (T := List.range (wr.heap.size + 1)) (fun b hb _ => ?_) (fun b hb hl => ?_)) h
          · have := (own_blk HO.out (b := b) (by simpa using hb)).2
            simp at this
            exact List.mem_range.2 this
          · rcases List.mem_append.1 hb with hb | hb
            · exact hb
            · rcases hS b hb with h1 | h1
              · have := (own_blk HO.out (b := b) (by simpa using h1)).2
                simp at this
                exact List.mem_range.2 this
              · omega
        · intro vcs W W' h hz ho
          refine (Enc.lit d).mono ho.size (ho.kept (T := List.range (wr.heap.size + 1)) (fun b hb _ => ?_) (fun b hb hl => hb)) h
          have := (own_blk HO.out (b := b) (by simpa using hb)).2
          simp at this
          exact List.mem_range.2 this
        · intro W hb
          refine (HC.out W hb).mono ?_
          rintro r w' ⟨a2, p2, q2, rfl, hs, hb2⟩
          refine ⟨litC k a2 p2 q2, rfl, rfl, by simp [Value.oneCell'], ?_, hb2⟩
          refine ⟨a2, p2, q2, rfl, hs.mono' (Nat.le_refl _) ((Out.refl [] w').kept (fun _ h _ => by cases h) (fun b hb' _ => List.mem_range.2 ?_))⟩
          have h1 := List.mem_range.1 hb'
          have h2 := hb.size
          simp at h2
          omega
        · intro u W vcs A2 c2 hl hfar hown hblk ho hgW
          have hsA : (wr.alloc (.cells (litC k ak pk qk).toArray 63)).heap.size = wr.heap.size + 1 := by simp
          have hR2 := HRA.out.push (by rw [hsA]; omega) hown hblk ho (by rw [hsA]; exact hfar)
          have HR2 := Lib.hid (hR2.out (set_out W g 4 (.slice A2 (j + 1) c2)) (fun b hb _ => by simp at hb; omega))
          have HL2 : Hid ((L ++ [(k, vcs)]).map (·.1) = x.body.take (j + 1)) := by show _ = _; rw [HT.out, List.map_append, HL.out]; rfl
          have hG2 : (W.setCell ⟨g, 4, none⟩ (.slice A2 (j + 1) c2)).heap[g]? = some (.cells (ruleC x ⟨hA, x.head.args.length, hc⟩ ⟨A2, j + 1, c2⟩).toArray 103 (0, 0)) := by
            simp [World.setCell, Array.getElem?_modify, hgW]
          have hnot : ∀ bb, bb < b1z → bb ∉ (Value.slice A' j c').ownBlock.toList := fun bb hbb hm => by
            have := (own_blk HO.out (b := bb) (by simpa using hm)).1
            omega
          have hG1 : (W.setCell ⟨g, 4, none⟩ (.slice A2 (j + 1) c2)).heap[w.heap.size + 1]? = some (.cells zrC.toArray 103 (0, 0)) :=
            (World.heap_setCells_other' (by omega)).trans ((ho.block _ (Array.getElem?_eq_some_iff.1 hg1A).1 (hnot _ (by omega))).trans hg1A)
          have HOh2 : Hid ((W.setCell ⟨g, 4, none⟩ (.slice A2 (j + 1) c2)).ownsRow w.heap.size 34 4 (.slice hA x.head.args.length hc) x.head.args.length (x.head.args.flatMap GTold.cells)) :=
            own_out' (own_out' HOhA.out ho (fun b hb => hnot b (hHO.out b hb).1)) (set_out W g 4 _) (fun b hb => by simpa using (hHO.out b hb).2)
          have hzz : wr.heap.size + 1 ≤ W.heap.size := by rw [← hsA]; exact ho.size
          have hB2 : Below w.heap.size w (W.setCell ⟨g, 4, none⟩ (.slice A2 (j + 1) c2)) :=
            (hbA.trans (ho.below (B := w.heap.size) (fun b hb => by
              have := (own_blk HO.out (b := b) (by simpa using hb)).1
              omega) (by rw [hsA]; omega))).setCell (by show w.heap.size ≤ g; omega) _
          have hzs : (W.setCell ⟨g, 4, none⟩ (.slice A2 (j + 1) c2)).heap.size = W.heap.size := World.size_setCell'
          have HZ2 := Lib.hid hzs
          clear hR2 hgW hfar hown hblk ho hsA hgA hg1A hx2 hzs hnot
          simp only [List.foldl_cons, List.foldl_nil, Act.put, List.setIfInBounds_toArray, List.set_cons_zero, List.set_cons_succ]
          generalize W.setCell ⟨g, 4, none⟩ (.slice A2 (j + 1) c2) = W3 at *
          go_wp2_with fail
          go_roundw
          case rel => exact ⟨j + 1, c2, A2, _, by omega, by go_num, HL2, HR2, hG2, hG1, HOh2, hB2, by rw [HZ2.out]; omega⟩
          case measure => simp [intOf]; omega
      · have i1 : ¬ (j : Int) < (n : Int) := by omega
        have hjn : j = n := by omega
        subst hjn
        have hll := Hlen.out
        obtain ⟨c0, c1, c2, c3, c4, c5⟩ := facts6 hg
        have hS := setRow_at (cs' := (ruleC x ⟨hA, x.head.args.length, hc⟩ ⟨A', j, c'⟩).toArray) hg1
        obtain ⟨s0, s1, s2, s3, s4, s5⟩ := facts6 hS
        have hbS : Below w.heap.size w (wr.setRow (w.heap.size + 1) (ruleC x ⟨hA, x.head.args.length, hc⟩ ⟨A', j, c'⟩).toArray) := ⟨hbr.os, hbr.tape, hbr.output, by rw [setRow_size]; exact hbr.size, fun x hx => (setRow_ne (by omega)).trans (hbr.block x hx)⟩
        have hoS : Out [w.heap.size + 1] wr (wr.setRow (w.heap.size + 1) (ruleC x ⟨hA, x.head.args.length, hc⟩ ⟨A', j, c'⟩).toArray) := ⟨rfl, rfl, rfl, by rw [setRow_size]; exact Nat.le_refl _, fun x _ hx => setRow_ne (by simpa using hx)⟩
        have hR3 := HR.out.out hoS (fun b hb _ => by simp at hb; omega)
        have hR2 := hR3.is (base := w.heap.size) (by simpa [reachN] using hn) (by omega)
        rw [HL.out, List.take_of_length_le (by omega)] at hR2
        have hO3 := own_out' HOh.out hoS (fun b hb hb' => by
          simp at hb'
          obtain ⟨cur, hcur⟩ := own_typeR HOh.out hb
          rw [hb', hg1] at hcur
          injection hcur with hcur
          injection hcur with _ h3 _
          exact absurd h3 (by decide))
        have hpost : P (.returned (.agg (ruleC x ⟨hA, x.head.args.length, hc⟩ ⟨A', j, c'⟩).toArray)) (wr.setRow (w.heap.size + 1) (ruleC x ⟨hA, x.head.args.length, hc⟩ ⟨A', j, c'⟩).toArray) := by
          rw [HP.out]
          exact ⟨_, _, rfl, ⟨HKw.out.rel, own_far (n := x.head.args.length) (l := x.head.args) hO3 rfl (Nat.le_trans HS.out.args (by decide)) (told_okA HKw.out.args), HKw.out.agg, HKw.out.col, hR2, HKw.out.pos⟩, hbS⟩
        have HPo := Lib.hid hpost
        clear hR2 hR3 HR HL hll hpost hoS hbS hS HP hO3
        go_wp2_with (refine wpList_store_rowTo rfl 103 (.tmp 2) (.tmp 31) rfl rfl (w.heap.size + 1) (ruleC x ⟨hA, x.head.args.length, hc⟩ ⟨A', j, c'⟩).toArray rfl rfl 103 zrC.toArray hg1 (by kernel_rfl) rfl (by simp [Value.oneCell']) ?_)
        refine bodyPost_ret (v := .agg (ruleC x ⟨hA, x.head.args.length, hc⟩ ⟨A', j, c'⟩).toArray) ?_ rfl HPo.out
        simp [results, Tryz.results40, go_sem, s0, s1, s2, s3, s4, s5]
end Go.Proofs.YtiffmiabhapfnaaGreatDoor

/- corollarylaw05.Document: a program as the document's. -/
namespace Go.Proofs.YtiffmiabhapfnaaGreatDoor
open Go.RowKit

def CopyProg (d : Nat) (x : GProg) (w : World) (r : Ending) (w' : World) : Prop :=
  ∃ a b : Hd, r = .returned (.agg (progC a b).toArray) ∧ ProgAt d w' w'.heap.size x a b ∧ Below w.heap.size w w'
theorem rows_is {α : Type} {E : Enc α} {w : World} {base e : Nat} {A : Option Addr} {k c : Nat} {L : List (α × List Value)} (h : w.ownsRow base e E.sz (.slice A k c) k (L.flatMap (·.2))) (hl : L.length = k) (hk : k ≤ reachN) (hf : ∀ p ∈ L, E.ok w w.heap.size p.2 p.1) : SliceIs E w w.heap.size A k c (L.map (·.1)) :=
  SliceIs.of_own (E := E) (l := L.map (·.1)) h (by simp [hl]) hk (fun i x hx => by
    rw [List.getElem?_map, Option.map_eq_some_iff] at hx
    obtain ⟨p, hp, rfl⟩ := hx
    rw [flat_piece2 E.sz L i p (fun q hq => E.len (hf q hq)) hp]
    exact hf p (List.mem_of_getElem? hp))
theorem decl_info : (Tryz.prog.info? 98).map (fun i => (i.zero, i.size, i.bytes)) = some (some (.agg #[.string ⟨#[]⟩, .slice none 0 0, .int .i64 0]), 3, 48) := by kernel_rfl
theorem decl_push {W : World} {base : Nat} {A : Option Addr} {c k : Nat} {xs : List Value} (hown : W.ownsRow base 98 3 (.slice A k c) k xs) (q : GDecl) (aA : Option Addr) (an ac : Nat) (hn : k + 1 ≤ 1000000) (hb : base ≤ W.heap.size) :
    ∃ A' c' w', (∀ ty, (Builtin.append_ #[66, 66] ty #[.slice A k c, .slice (some ⟨W.heap.size, 0, none⟩) 1 1]).run Tryz.prog (W.alloc (.cells #[.string q.rel, .slice aA an ac, .int .i64 q.pos] 98)) = .ok (.slice A' (k + 1) c') w') ∧
      w'.ownsRow base 98 3 (.slice A' (k + 1) c') (k + 1) (xs ++ declC q ⟨aA, an, ac⟩) ∧ Below base W w' ∧ KeepsT 98 W w' := by
  have ho : (W.alloc (.cells #[.string q.rel, .slice aA an ac, .int .i64 q.pos] 98)).ownsRow base 98 3 (.slice A k c) k xs := own_below hown (belowA (Below.refl _ _) _)
  obtain ⟨v', w', h1, h2, h3, h4⟩ := run_push_at (P := Tryz.prog) (ty := 66) (W.alloc (.cells #[.string q.rel, .slice aA an ac, .int .i64 q.pos] 98)) (base := base) Tryz.underlying66 decl_info rfl (by decide) ho W.heap.size (declC q ⟨aA, an, ac⟩) rfl (heapNew rfl) (by intro u hu; simp at hu; rcases hu with rfl | rfl | rfl <;> rfl)
    (by simp [maxLen]; omega) (by omega) (by simp; omega)
  obtain ⟨A', c', rfl⟩ := own_form h2
  refine ⟨A', c', w', fun _ => h1, h2, ?_, ?_⟩
  · exact ((Below.refl base W).alloc hb _).trans h4
  · have k1 : KeepsT 98 W (W.alloc (.cells #[.string q.rel, .slice aA an ac, .int .i64 q.pos] 98)) := KeepsT.of_below (belowA (Below.refl _ _) _)
    refine k1.trans ?_
    intro b cs t fr hbb ht
    refine ((grown_out h3).block b (Array.getElem?_eq_some_iff.1 hbb).1 (fun hbo => ?_)).trans hbb
    obtain ⟨cur, hc⟩ := own_type ho (b := b) (by simpa using hbo)
    rw [hc] at hbb
    injection hbb with hbb; injection hbb with _ h5 _; exact ht h5.symm
theorem set_first {W : World} {g e : Nat} {a b v : Value} (h : W.heap[g]? = some (.cells #[a, b] e (0, 0))) : (W.setCell ⟨g, 0, none⟩ v).heap[g]? = some (.cells #[v, b] e (0, 0)) := by
  simp [World.setCell, Array.getElem?_modify, h]
set_option maxRecDepth 100000 in
set_option maxHeartbeats 8000000 in
theorem copyProg_any (d : Nat) (x : GProg) (a b : Hd) (w : World) (hk : ProgAt d w w.heap.size x a b) (hs : SmProg x) :
    Calls Tryz.prog 19 #[.agg (progC a b).toArray] w (CopyProg d x w) := by
  have mixed : Tryz.prog.follows .mixedOrders = true := by kernel_rfl
  have hn := hk.decls.bound
  have hm := hk.rules.bound
  have Hlen := Lib.hid hk.decls.1
  have Hlen2 := Lib.hid hk.rules.1
  have HS := Lib.hid hs
  have HK := Lib.hid hk
  obtain ⟨P, HP⟩ : ∃ P : Ending → World → Prop, Hid (P = CopyProg d x w) := ⟨_, rfl⟩
  rw [← HP.out]
  obtain ⟨A, n, c⟩ := a
  obtain ⟨B, m, e⟩ := b
  have hg0 : (((w.alloc (.cells (progC ⟨A, n, c⟩ ⟨B, m, e⟩).toArray 48)).alloc (.cells #[.slice none 0 0, .slice none 0 0] 69)).alloc (.cells #[.slice none 0 0, .slice none 0 0] 69)).heap[w.heap.size]? = some (.cells (progC ⟨A, n, c⟩ ⟨B, m, e⟩).toArray 48 (0, 0)) := heapOld (heapOld (heapNew rfl))
  have hg1 : (((w.alloc (.cells (progC ⟨A, n, c⟩ ⟨B, m, e⟩).toArray 48)).alloc (.cells #[.slice none 0 0, .slice none 0 0] 69)).alloc (.cells #[.slice none 0 0, .slice none 0 0] 69)).heap[w.heap.size + 1]? = some (.cells #[.slice none 0 0, .slice none 0 0] 69 (0, 0)) := heapOld (heapNew (by simp))
  have hg2 : (((w.alloc (.cells (progC ⟨A, n, c⟩ ⟨B, m, e⟩).toArray 48)).alloc (.cells #[.slice none 0 0, .slice none 0 0] 69)).alloc (.cells #[.slice none 0 0, .slice none 0 0] 69)).heap[w.heap.size + 2]? = some (.cells #[.slice none 0 0, .slice none 0 0] 69 (0, 0)) := heapNew (by simp)
  have hbw : Below w.heap.size w (((w.alloc (.cells (progC ⟨A, n, c⟩ ⟨B, m, e⟩).toArray 48)).alloc (.cells #[.slice none 0 0, .slice none 0 0] 69)).alloc (.cells #[.slice none 0 0, .slice none 0 0] 69)) := belowA (belowA (belowA (Below.refl _ _) _) _) _
  have hzw : (((w.alloc (.cells (progC ⟨A, n, c⟩ ⟨B, m, e⟩).toArray 48)).alloc (.cells #[.slice none 0 0, .slice none 0 0] 69)).alloc (.cells #[.slice none 0 0, .slice none 0 0] 69)).heap.size = w.heap.size + 3 := by simp
  obtain ⟨b0, b1⟩ := facts2 hg0
  dsimp only [Hd.v] at b0 b1
  clear hk hs
  show Calls Tryz.prog 19 #[.agg #[.slice A n c, .slice B m e]] w P
  go_enter Tryz.func19, Tryz.ntmps19
  go_wp2_with fail
  try simp only [Nat.add_assoc, Nat.reduceAdd]
  generalize hw3 : ((w.alloc _).alloc _).alloc _ = w3
  rw [hw3] at hg0 hg1 hg2 hbw hzw
  have HZ : Hid (w.heap.size + 3 ≤ w3.heap.size) := by show _ ≤ _; omega
  clear hzw hw3 b0 b1
  go_loopw [12] (fun i wr => ∃ (j c' : Nat) (A' : Option Addr) (L : List (GDecl × List Value)), j ≤ n ∧ i = .int .i64 j ∧ Hid (L.map (·.1) = x.decls.take j) ∧ Hid (∀ p ∈ L, Enc.decl.ok w w.heap.size p.2 p.1) ∧ Hid (wr.ownsRow (w.heap.size + 3) 98 3 (.slice A' j c') j (L.flatMap (·.2))) ∧ Hid (wr.heap[w.heap.size + 2]? = some (.cells #[.slice A' j c', .slice none 0 0] 69 (0, 0))) ∧ Hid (wr.heap[w.heap.size + 1]? = some (.cells #[.slice none 0 0, .slice none 0 0] 69 (0, 0))) ∧
    Hid (wr.heap[w.heap.size]? = some (.cells (progC ⟨A, n, c⟩ ⟨B, m, e⟩).toArray 48 (0, 0))) ∧ Hid (Below w.heap.size w wr) ∧ w.heap.size + 3 ≤ wr.heap.size) (fun i _ => n - (intOf i).toNat)
  case atStart => exact ⟨0, 0, none, [], by omega, rfl, rfl, fun _ h => by (cases h), World.ownsRow_nil _ _ _ _, hg2, hg1, hg0, hbw, HZ.out⟩
  case round =>
    clear hg0 hg1 hg2 hbw
    obtain ⟨j, c', A', L, hj, rfl, HL, HF, HO, HG2, HG1, HG0, HB, hzr⟩ := hrel
    have i0 : (0 : Int) ≤ (j : Int) := by omega
    by_cases hlt : j < n
    · have i1 : (j : Int) < (n : Int) := by omega
      obtain ⟨b, o, t, aa, hAA, hb, ht, hat, v0, v1, v2⟩ := HK.out.decls.decl_at hlt
      try simp only at hAA
      subst hAA
      obtain ⟨aA, an, ac⟩ := aa
      dsimp only [Hd.v] at v0 v1 v2
      have x0 := below_cell HB.out v0
      have x1 := below_cell HB.out v1
      have x2 := below_cell HB.out v2
      have HT : Hid (x.decls.take (j + 1) = x.decls.take j ++ [t]) := by show _ = _; rw [List.take_add_one, ht.out]; rfl
      have hba : Below wr.heap.size wr (wr.alloc (.cells #[.string t.rel, .slice aA an ac, .int .i64 t.pos] 89)) := belowA (Below.refl _ _) _
      have hn1 : j + 1 ≤ 1500 := by have := HS.out.decls; have := Hlen.out; omega
      have hgA := heapOld (o := .cells #[.string t.rel, .slice aA an ac, .int .i64 t.pos] 89) HG2.out
      have hg1A := heapOld (o := .cells #[.string t.rel, .slice aA an ac, .int .i64 t.pos] 89) HG1.out
      have hg0A := heapOld (o := .cells #[.string t.rel, .slice aA an ac, .int .i64 t.pos] 89) HG0.out
      have hxA : (wr.alloc (.cells #[.string t.rel, .slice aA an ac, .int .i64 t.pos] 89)).heap[wr.heap.size]? = some (.cells #[.string t.rel, .slice aA an ac, .int .i64 t.pos] 89 (0, 0)) := heapNew rfl
      obtain ⟨r0, r1⟩ := facts2 hgA
      obtain ⟨z0, z1, z2⟩ := facts3 hxA
      have HOA := own_below HO.out hba
      obtain ⟨A2, c2, w4, hrun, hown2, hb4, hk4⟩ := decl_push HOA t aA an ac (by omega) (by simp; omega)
      simp only [World.size_alloc] at hrun
      have HRun := Lib.hid hrun
      have hbA := below_next HB.out hba
      have hgB := hk4 _ _ _ _ hgA (by decide)
      have hg1B := hk4 _ _ _ _ hg1A (by decide)
      have hg0B := hk4 _ _ _ _ hg0A (by decide)
      have hz4 : wr.heap.size + 1 ≤ w4.heap.size := by have := hb4.size; simp at this; exact this
      have HB2 : Hid (Below w.heap.size w (w4.setCell ⟨w.heap.size + 2, 0, none⟩ (.slice A2 (j + 1) c2))) := (hbA.trans (hb4.mono (by omega))).setCell (by show w.heap.size ≤ w.heap.size + 2; omega) _
      have HO2 : Hid ((w4.setCell ⟨w.heap.size + 2, 0, none⟩ (.slice A2 (j + 1) c2)).ownsRow (w.heap.size + 3) 98 3 (.slice A2 (j + 1) c2) (j + 1) ((L ++ [(t, declC t ⟨aA, an, ac⟩)]).flatMap (·.2))) := by
        have h9 := own_out' hown2 (set_out w4 (w.heap.size + 2) 0 (.slice A2 (j + 1) c2)) (fun b hb hb' => by have := (own_blk hown2 hb).1; simp at hb'; omega)
        show World.ownsRow _ _ _ _ _ _ _
        simpa using h9
      have HL2 : Hid ((L ++ [(t, declC t ⟨aA, an, ac⟩)]).map (·.1) = x.decls.take (j + 1)) := by show _ = _; rw [HT.out, List.map_append, HL.out]; rfl
      have HF2 : Hid (∀ p ∈ L ++ [(t, declC t ⟨aA, an, ac⟩)], Enc.decl.ok w w.heap.size p.2 p.1) := fun p hp => by
        rcases List.mem_append.1 hp with hp | hp
        · exact HF.out p hp
        · obtain rfl : p = (t, declC t ⟨aA, an, ac⟩) := by simpa using hp
          exact ⟨_, rfl, hat⟩
      have HGa := Lib.hid (set_first (v := .slice A2 (j + 1) c2) hgB)
      have HGb := Lib.hid ((World.heap_setCells_other' (W := w4) (g := w.heap.size + 2) (i := 0) (v := .slice A2 (j + 1) c2) (by omega)).trans hg1B)
      have HGc := Lib.hid ((World.heap_setCells_other' (W := w4) (g := w.heap.size + 2) (i := 0) (v := .slice A2 (j + 1) c2) (by omega)).trans hg0B)
      have hzs : (w4.setCell ⟨w.heap.size + 2, 0, none⟩ (.slice A2 (j + 1) c2)).heap.size = w4.heap.size := World.size_setCell'
      have HZ2 : Hid (w.heap.size + 3 ≤ (w4.setCell ⟨w.heap.size + 2, 0, none⟩ (.slice A2 (j + 1) c2)).heap.size) := by show _ ≤ _; rw [hzs]; omega
      have k1 : w4.cell? ⟨w.heap.size + 2, 0, none⟩ = some (.slice A' j c') := (cell_of_row _ _ 0 _ _ _ hgB).trans rfl
      have k2 : w4.frozen? ⟨w.heap.size + 2, 0, none⟩ = false := frozen_of_row _ _ _ _ _ hgB
      clear hrun hown2 hk4 hgA hg1A hg0A hgB hg1B hg0B hb4 hba hbA HOA HO ht hzs hxA HG0 HG1 HG2 hat v0 v1 v2 HB
      go_wp2_with (at_builtin; refine wpList_append_run (o := ⟨some 26, _, _, _, _, _⟩) rfl _ _ _ rfl _ _ rfl rfl (HRun.out _) ?_)
      go_roundw
      case rel => exact ⟨j + 1, c2, A2, _, by omega, by go_num, HL2, HF2, HO2, HGa, HGb, HGc, HB2, HZ2.out⟩
      case measure => simp [intOf]; omega
    · have i1 : ¬ (j : Int) < (n : Int) := by omega
      have hjn : j = n := by omega
      subst hjn
      have hll := Hlen.out
      have HDl : Hid (L.map (·.1) = x.decls) := by show _ = _; rw [HL.out, List.take_of_length_le (by omega)]
      have HLl : Hid (L.length = j) := by
        have h9 := congrArg List.length HDl.out
        simp at h9
        show _ = _
        omega
      obtain ⟨r0, r1⟩ := facts2 HG0.out
      dsimp only [Hd.v] at r0 r1
      have HG1' := HG1
      obtain ⟨b1z, Hb1⟩ : ∃ b1z, Hid (wr.heap.size = b1z) := ⟨_, rfl⟩
      have HDb : Hid (∀ bb, (Value.slice A' j c').ownBlock = some bb → w.heap.size + 3 ≤ bb ∧ bb < b1z) := fun bb hbb => by
        have h9 := own_blk HO.out hbb
        have := Hb1.out
        omega
      have hz1 : w.heap.size + 3 ≤ b1z := by have := Hb1.out; omega
      have HzW : Hid (b1z ≤ wr.heap.size) := by show _ ≤ _; rw [Hb1.out]; exact Nat.le_refl _
      clear HL HG0 hll
      go_wp2_with fail
      go_loopw [32] (fun i wr => ∃ (j2 c2 : Nat) (A2 : Option Addr) (L2 : List (GRule × List Value)), j2 ≤ m ∧ i = .int .i64 j2 ∧ Hid (L2.map (·.1) = x.rules.take j2) ∧ Hid (Rows (Enc.rule d) b1z 103 wr A2 j2 c2 L2) ∧ wr.heap[w.heap.size + 2]? = some (.cells #[.slice A' j c', .slice A2 j2 c2] 69 (0, 0)) ∧ wr.heap[w.heap.size + 1]? = some (.cells #[.slice none 0 0, .slice none 0 0] 69 (0, 0)) ∧
        Hid (wr.ownsRow (w.heap.size + 3) 98 3 (.slice A' j c') j (L.flatMap (·.2))) ∧ Below w.heap.size w wr ∧ b1z ≤ wr.heap.size) (fun i _ => m - (intOf i).toNat)
      case atStart => exact ⟨0, 0, none, [], by omega, rfl, rfl, Rows.nil _ _ _, HG2.out, HG1.out, HO, HB.out, HzW.out⟩
      case round =>
        clear HG1 HG2 HB HO HzW
        obtain ⟨j2, c2, A2, L2, hj2, rfl, HL, HR, hg, hg1, HOd, hbr, hzr2⟩ := hrel
        have q0 : (0 : Int) ≤ (j2 : Int) := by omega
        by_cases hlt2 : j2 < m
        · have q1 : (j2 : Int) < (m : Int) := by omega
          obtain ⟨bb, o, k, ak, bk, hAA, hbb, hk', hkl, y0, y1, y2, y3, y4, y5⟩ := (HK.out.keep hbr).rules.rule_at hlt2
          try simp only at hAA
          subst hAA
          have hkm := Lib.hid (List.mem_of_getElem? hk'.out)
          have HT : Hid (x.rules.take (j2 + 1) = x.rules.take j2 ++ [k]) := by show _ = _; rw [List.take_add_one, hk'.out]; rfl
          have hba : Below wr.heap.size wr (wr.alloc (.cells (ruleC k ak bk).toArray 56)) := belowA (Below.refl _ _) _
          have HC := Lib.hid (fun (W : World) (h : Below (wr.alloc (.cells (ruleC k ak bk).toArray 56)).heap.size (wr.alloc (.cells (ruleC k ak bk).toArray 56)) W) => copyRule_any d k ak bk W ((hkl.keep hba).keep h) (HS.out.each k hkm.out))
          have hn1 : j2 + 1 ≤ 1500 := by have := HS.out.rules; have := Hlen2.out; omega
          have hx2 : (wr.alloc (.cells (ruleC k ak bk).toArray 56)).heap[wr.heap.size]? = some (.cells (ruleC k ak bk).toArray 56 (0, 0)) := heapNew rfl
          have hgA := heapOld (o := .cells (ruleC k ak bk).toArray 56) hg
          have hg1A := heapOld (o := .cells (ruleC k ak bk).toArray 56) hg1
          have HRA := Lib.hid (HR.out.out (Out.of_below hba []) (fun _ h _ => by cases h))
          have hbA := below_next hbr hba
          have HOdA := Lib.hid (own_below HOd.out hba)
          have HoG : Hid (w.heap.size + 2 ∉ (Value.slice A2 j2 c2).ownBlock.toList) := fun hm => by
            have := (own_blk HR.out.own (b := w.heap.size + 2) (by simpa using hm)).1
            omega
          have HoX : Hid (wr.heap.size ∉ (Value.slice A2 j2 c2).ownBlock.toList) := fun hm => by
            have := (own_blk HR.out.own (b := wr.heap.size) (by simpa using hm)).2
            omega
          have HOr : Hid ((wr.alloc (.cells (ruleC k ak bk).toArray 56)).ownsRow b1z 103 6 (.slice A2 j2 c2) j2 (L2.flatMap (·.2))) := HRA.out.own
          have hrs : (Tryz.prog.info? 56).map (·.size) = some (ruleC k ak bk).length := by show _ = some 6; kernel_rfl
          have Hrs := Lib.hid hrs
          clear hk' hba hkl HR hg hg1 HOd hrs
          go_wp2_with fail
          refine push_region (n := 45) mixed rfl rfl (by kernel_rfl) (by kernel_rfl) (by kernel_rfl) (w.heap.size + 2) wr.heap.size 1 b1z 103 6 88 j2 (.agg zrC.toArray) A2 c2 (L2.flatMap (·.2)) (ruleC k ak bk) #[.slice A' j c', .slice A2 j2 c2]
            (fun vcs W => (Enc.rule d).ok (sans W (List.range (wr.heap.size + 1))) W.heap.size vcs k) (fun S vcs W => (Enc.rule d).ok (sans W (List.range (wr.heap.size + 1) ++ S)) W.heap.size vcs k) _
            rfl rfl hgA hx2 rfl (fun w => by simp [go_sem]) Tryz.underlying67 (by kernel_rfl) Tryz.underlying56 rfl Hrs.out (by kernel_rfl) rfl (by decide) (by decide) HOr.out HoG.out HoX.out (by simp [maxLen]; omega) (by omega) (by simp; omega) _ Tryz.func40 (by kernel_rfl) (by kernel_rfl) ?_ ?_ ?_ ?_ ?_ ?_
          · intro vcs W W' h hb
            exact (Enc.rule d).mono hb.size ((Out.of_below hb []).kept (fun _ h _ => by cases h) (fun _ h _ => h)) h
          · intro S vcs W W' h hb
            exact (Enc.rule d).mono hb.size ((Out.of_below hb []).kept (fun _ h _ => by cases h) (fun _ h _ => h)) h
          · intro S vcs W W' h hz ho hS
            refine (Enc.rule d).mono ho.size (ho.kept (T := List.range (wr.heap.size + 1)) (fun b hb _ => ?_) (fun b hb hl => ?_)) h
            · have := (own_blk HOr.out (b := b) (by simpa using hb)).2
              simp at this
              exact List.mem_range.2 this
            · rcases List.mem_append.1 hb with hb | hb
              · exact hb
              · rcases hS b hb with h1 | h1
                · have := (own_blk HOr.out (b := b) (by simpa using h1)).2
                  simp at this
                  exact List.mem_range.2 this
                · omega
          · intro vcs W W' h hz ho
            refine (Enc.rule d).mono ho.size (ho.kept (T := List.range (wr.heap.size + 1)) (fun b hb _ => ?_) (fun b hb hl => hb)) h
            have := (own_blk HOr.out (b := b) (by simpa using hb)).2
            simp at this
            exact List.mem_range.2 this
          · intro W hb
            refine (HC.out W hb).mono ?_
            rintro r w' ⟨a2, p2, rfl, hs, hb2⟩
            refine ⟨ruleC k a2 p2, rfl, rfl, by simp [Value.oneCell'], ?_, hb2⟩
            refine ⟨a2, p2, rfl, hs.mono' (Nat.le_refl _) ((Out.refl [] w').kept (fun _ h _ => by cases h) (fun b hb' _ => List.mem_range.2 ?_))⟩
            have h1 := List.mem_range.1 hb'
            have h2 := hb.size
            simp at h2
            omega
          · intro u W vcs A3 c3 hl hfar hown hblk ho hgW
            have hsA : (wr.alloc (.cells (ruleC k ak bk).toArray 56)).heap.size = wr.heap.size + 1 := by simp
            have hR2 := HRA.out.push (by rw [hsA]; omega) hown hblk ho (by rw [hsA]; exact hfar)
            have HR2 := Lib.hid (hR2.out (set_out W (w.heap.size + 2) 1 (.slice A3 (j2 + 1) c3)) (fun b hb _ => by simp at hb; omega))
            have HL2 : Hid ((L2 ++ [(k, vcs)]).map (·.1) = x.rules.take (j2 + 1)) := by show _ = _; rw [HT.out, List.map_append, HL.out]; rfl
            have hG2 : (W.setCell ⟨w.heap.size + 2, 1, none⟩ (.slice A3 (j2 + 1) c3)).heap[w.heap.size + 2]? = some (.cells #[.slice A' j c', .slice A3 (j2 + 1) c3] 69 (0, 0)) := set_one hgW
            have hnot : ∀ bb, bb < b1z → bb ∉ (Value.slice A2 j2 c2).ownBlock.toList := fun bb hbb hm => by
              have := (own_blk HOr.out (b := bb) (by simpa using hm)).1
              omega
            have hG1 : (W.setCell ⟨w.heap.size + 2, 1, none⟩ (.slice A3 (j2 + 1) c3)).heap[w.heap.size + 1]? = some (.cells #[.slice none 0 0, .slice none 0 0] 69 (0, 0)) :=
              (World.heap_setCells_other' (by omega)).trans ((ho.block _ (Array.getElem?_eq_some_iff.1 hg1A).1 (hnot _ (by omega))).trans hg1A)
            have HOd2 : Hid ((W.setCell ⟨w.heap.size + 2, 1, none⟩ (.slice A3 (j2 + 1) c3)).ownsRow (w.heap.size + 3) 98 3 (.slice A' j c') j (L.flatMap (·.2))) :=
              own_out' (own_out' HOdA.out ho (fun b hb => hnot b (HDb.out b hb).2)) (set_out W (w.heap.size + 2) 1 _) (fun b hb hb' => by have := (HDb.out b hb).1; simp at hb'; omega)
            have hzz : wr.heap.size + 1 ≤ W.heap.size := by rw [← hsA]; exact ho.size
            have hB2 : Below w.heap.size w (W.setCell ⟨w.heap.size + 2, 1, none⟩ (.slice A3 (j2 + 1) c3)) :=
              (hbA.trans (ho.below (B := w.heap.size) (fun b hb => by
                have := (own_blk HOr.out (b := b) (by simpa using hb)).1
                omega) (by rw [hsA]; omega))).setCell (by show w.heap.size ≤ w.heap.size + 2; omega) _
            have hzs : (W.setCell ⟨w.heap.size + 2, 1, none⟩ (.slice A3 (j2 + 1) c3)).heap.size = W.heap.size := World.size_setCell'
            have HZ2 := Lib.hid hzs
            clear hR2 hgW hfar hown hblk ho hsA hgA hg1A hx2 hzs hnot
            simp only [List.foldl_cons, List.foldl_nil, Act.put, List.setIfInBounds_toArray, List.set_cons_zero, List.set_cons_succ]
            generalize W.setCell ⟨w.heap.size + 2, 1, none⟩ (.slice A3 (j2 + 1) c3) = W3 at *
            go_wp2_with fail
            go_roundw
            case rel => exact ⟨j2 + 1, c3, A3, _, by omega, by go_num, HL2, HR2, hG2, hG1, HOd2, hB2, by rw [HZ2.out]; omega⟩
            case measure => simp [intOf]; omega
        · have q1 : ¬ (j2 : Int) < (m : Int) := by omega
          have hjn : j2 = m := by omega
          subst hjn
          have hll := Hlen2.out
          obtain ⟨c0, c1⟩ := facts2 hg
          have hSr := setRow_at (cs' := #[.slice A' j c', .slice A2 j2 c2]) hg1
          obtain ⟨s0, s1⟩ := facts2 hSr
          have hbS : Below w.heap.size w (wr.setRow (w.heap.size + 1) #[.slice A' j c', .slice A2 j2 c2]) := ⟨hbr.os, hbr.tape, hbr.output, by rw [setRow_size]; exact hbr.size, fun x hx => (setRow_ne (by omega)).trans (hbr.block x hx)⟩
          have hoS : Out [w.heap.size + 1] wr (wr.setRow (w.heap.size + 1) #[.slice A' j c', .slice A2 j2 c2]) := ⟨rfl, rfl, rfl, by rw [setRow_size]; exact Nat.le_refl _, fun x _ hx => setRow_ne (by simpa using hx)⟩
          have hR3 := HR.out.out hoS (fun b hb _ => by simp at hb; omega)
          have hR2 := (hR3.is (base := w.heap.size) (by simpa [reachN] using hm) (by omega)).is
          rw [HL.out, List.take_of_length_le (by omega)] at hR2
          have hO3 := own_out' HOd.out hoS (fun b hb hb' => by have := (HDb.out b hb).1; simp at hb'; omega)
          have hD3 := rows_is (E := Enc.decl) hO3 HLl.out (by have := HLl.out; simpa [reachN] using hn) (fun p hp => Enc.decl.mono hbS.size (Kept.of hbS.block) (HF.out p hp))
          rw [HDl.out] at hD3
          have hpost : P (.returned (.agg #[.slice A' j c', .slice A2 j2 c2])) (wr.setRow (w.heap.size + 1) #[.slice A' j c', .slice A2 j2 c2]) := by
            rw [HP.out]
            exact ⟨⟨A', j, c'⟩, ⟨A2, j2, c2⟩, rfl, ⟨hD3, hR2⟩, hbS⟩
          have HPo := Lib.hid hpost
          clear hR2 hR3 HR HL hll hpost hoS hbS hSr HP hO3 hD3
          go_wp2_with (refine wpList_store_rowTo rfl 69 (.tmp 2) (.tmp 44) rfl rfl (w.heap.size + 1) #[.slice A' j c', .slice A2 j2 c2] rfl rfl 69 #[.slice none 0 0, .slice none 0 0] hg1 (by kernel_rfl) rfl (by simp [Value.oneCell']) ?_)
          refine bodyPost_ret (v := .agg #[.slice A' j c', .slice A2 j2 c2]) ?_ rfl HPo.out
          simp [results, Tryz.results19, go_sem, s0, s1]
end Go.Proofs.YtiffmiabhapfnaaGreatDoor

/- term.terms, term.Terms: the iterator over an expression's terms. -/
namespace Go.Proofs.YtiffmiabhapfnaaGreatDoor
open Go.RowKit Go.Shelf
attribute [local go_sem] Oper.semAt_some

def encT (t : GTold) : Array Value := #[.agg #[.string t.x, .int .i64 t.v.k, .int .i64 t.v.n, .string t.v.s]]
def RT (L : List GTold) (pre : List GTold) (x : GTold) (_base : Nat) (_W : World) : Prop := (pre ++ [x]) <+: L
/-- what the walk through an expression ends with -/
def TermsPost (b0 N : Nat) (H : World) (J Jx : Nat → List GTold → World → Prop) (L end_ : List GTold) (r : Ending) (W' : World) : Prop :=
  (r = .returned (.bool true) ∧ J N end_ W' ∧ (∀ b, b < b0 → W'.heap[b]? = H.heap[b]?) ∧ N ≤ W'.heap.size) ∨ (∃ p, r = .returned (.bool false) ∧ Hid (p <+: L) ∧ Jx N p W')

set_option maxRecDepth 100000 in
set_option maxHeartbeats 4000000 in
theorem terms_go (w : World) (l N : Nat) (S : List Nat) (L : List GTold) (J Jx : Nat → List GTold → World → Prop) (hl : w.heap.size ≤ l) (hN : w.heap.size ≤ N) (hS : ∀ b ∈ S, w.heap.size ≤ b)
    (hJ : ∀ pre W1 W2, J N pre W1 → Below W1.heap.size W1 W2 → J N pre W2)
    (hY : ∀ m pre x W0 W1, J N pre W0 → Below W0.heap.size W0 W1 → (pre ++ [x]) <+: L → YieldAt Fence.wide m Tryz.prog l (encT x) W1 fun e W' =>
      (e = .returned (.bool true) ∧ J N (pre ++ [x]) W' ∧ W1.heap.size ≤ W'.heap.size ∧ (∀ b, b < N → b ∉ S → b ≠ l → W'.heap[b]? = W1.heap[b]?) ∧ ∀ b, W0.heap.size ≤ b → b < W1.heap.size → W'.heap[b]? = W1.heap[b]?) ∨ (e = .returned (.bool false) ∧ Jx N (pre ++ [x]) W')) :
    ∀ (d : Nat) (e : GExp) (A : Option Addr) (n c : Nat) (W : World) (pre : List GTold), SliceIs (Enc.exp d) w w.heap.size A n c e.kids → (∀ b, b < w.heap.size → W.heap[b]? = w.heap[b]?) → N ≤ W.heap.size → J N pre W → (pre ++ leavesE e) <+: L →
    Calls Tryz.prog 26 #[expV e A n c, .func (.yield l) #[] #[]] W (TermsPost w.heap.size N w J Jx L (pre ++ leavesE e)) := by
  intro d
  induction d using Nat.strongRecOn with
  | ind d ih =>
    intro e A n c W pre hk hW hNW hj hpre
    have IH := Lib.hid ih
    have HJ := Lib.hid hJ
    have HY := Lib.hid hY
    have hn := hk.bound
    have HK := Lib.hid hk
    have Hlen := Lib.hid hk.1
    obtain ⟨P, HP⟩ : ∃ P : Ending → World → Prop, Hid (P = TermsPost w.heap.size N w J Jx L (pre ++ leavesE e)) := ⟨_, rfl⟩
    rw [← HP.out]
    have hrb : (W.alloc (.cells #[.int .i64 e.op, .string e.t.x, .int .i64 e.t.v.k, .int .i64 e.t.v.n, .string e.t.v.s, .slice A n c] 29)).heap[W.heap.size]? = some (.cells #[.int .i64 e.op, .string e.t.x, .int .i64 e.t.v.k, .int .i64 e.t.v.n, .string e.t.v.s, .slice A n c] 29 (0, 0)) := heapNew rfl
    obtain ⟨b0, b1, b2, b3, b4, b5⟩ := facts6 hrb
    have hbA : Below W.heap.size W (W.alloc (.cells #[.int .i64 e.op, .string e.t.x, .int .i64 e.t.v.k, .int .i64 e.t.v.n, .string e.t.v.s, .slice A n c] 29)) := belowA (Below.refl _ _) _
    have hszA : (W.alloc (.cells #[.int .i64 e.op, .string e.t.x, .int .i64 e.t.v.k, .int .i64 e.t.v.n, .string e.t.v.s, .slice A n c] 29)).heap.size = W.heap.size + 1 := by simp
    have HJ0 : Hid (J N pre (W.alloc (.cells #[.int .i64 e.op, .string e.t.x, .int .i64 e.t.v.k, .int .i64 e.t.v.n, .string e.t.v.s, .slice A n c] 29))) := hJ _ _ _ hj hbA
    have HW0 : Hid (∀ b, b < w.heap.size → (W.alloc (.cells #[.int .i64 e.op, .string e.t.x, .int .i64 e.t.v.k, .int .i64 e.t.v.n, .string e.t.v.s, .slice A n c] 29)).heap[b]? = w.heap[b]?) := fun b hb => (hbA.block b (by omega)).trans (hW b hb)
    have Hold : Hid (∀ V V2 : World, (∀ b, b < w.heap.size → V.heap[b]? = w.heap[b]?) → Below V.heap.size V V2 → N ≤ V.heap.size → ∀ b, b < w.heap.size → V2.heap[b]? = w.heap[b]?) := fun V V2 h1 h2 h3 b hb => (h2.block b (by omega)).trans (h1 b hb)
    have Hpre := Lib.hid hpre
    clear ih hJ hY hk hj hW hpre hbA
    refine (callsIn_wide (n := 0)).1 ?_
    refine callsIn_of_wp Tryz.func26 rfl trivial ?_ rfl
    simp only [Tryz.ntmps26, List.size_toArray, List.length_cons, List.length_nil, Nat.reduceAdd, Nat.reduceSub, Array.replicate_succ, Array.replicate_zero, List.push_toArray, List.append_toArray, List.nil_append, List.cons_append]
    by_cases h0 : n = 0
    · subst h0
      have hL0 : leavesE e = [e.t] := leavesE_nil (List.eq_nil_of_length_eq_zero (by rw [Hlen.out]))
      have HYs := Lib.hid (fun m => HY.out m pre e.t _ _ HJ0.out (Below.refl _ _) (by rw [← hL0]; exact Hpre.out))
      obtain ⟨fn, tmps, assign, body, hy, hR⟩ := HYs.out 0
      have HRR := Lib.hid hR
      simp only [encT] at hy
      have HE : Hid (∀ W', J N (pre ++ [e.t]) W' → (∀ b, b < w.heap.size → W'.heap[b]? = w.heap[b]?) → N ≤ W'.heap.size → P (.returned (.bool true)) W') := fun W' h1 h2 h3 => by rw [HP.out, hL0]; exact .inl ⟨rfl, h1, h2, h3⟩
      have HE2 : Hid (∀ W', Jx N (pre ++ [e.t]) W' → P (.returned (.bool false)) W') := fun W' h1 => by rw [HP.out]; exact .inr ⟨_, rfl, by rw [← hL0]; exact Hpre.out, h1⟩
      clear hR HYs hL0
      gi_wp2_with fail
      refine ⟨rfl, HRR.out.mono ?_⟩
      rintro r W2 (⟨rfl, hj2, hz2, hbl, hfr⟩ | ⟨rfl, hj2⟩)
      · have hPP := Lib.hid (HE.out W2 hj2 (fun b hb => (hbl b (by omega) (fun hbS => by have := hS b hbS; omega) (by omega)).trans (HW0.out b hb)) (by omega))
        clear hj2 hbl hfr hy
        gi_wp2_with fail
        exact hPP.out
      · have hPP := Lib.hid (HE2.out W2 hj2)
        clear hj2 hy
        gi_wp2_with fail
        exact hPP.out
    · have hL1 : leavesE e = leavesL e.kids := leavesE_kids (by intro h; have := Hlen.out; rw [h] at this; simp at this; omega)
      have hn0 : ¬ (n : Int) = 0 := by omega
      have hq0 : ((n : Int) == 0) = false := by simpa using hn0
      have HE : Hid (∀ W', J N (pre ++ leavesL e.kids) W' → (∀ b, b < w.heap.size → W'.heap[b]? = w.heap[b]?) → N ≤ W'.heap.size → P (.returned (.bool true)) W') := fun W' h1 h2 h3 => by rw [HP.out, hL1]; exact .inl ⟨rfl, h1, h2, h3⟩
      have HE2 : Hid (∀ W' p, Jx N p W' → p <+: L → P (.returned (.bool false)) W') := fun W' p h1 h2 => by rw [HP.out]; exact .inr ⟨p, rfl, h2, h1⟩
      have HpL : Hid ((pre ++ leavesL e.kids) <+: L) := by show _ <+: _; rw [← hL1]; exact Hpre.out
      clear HP Hpre hL1
      gi_wp2_with fail
      gi_loopw [4, 6, 18] (fun _ _ i wr => ∃ (j : Nat), j ≤ n ∧ i = .int .i64 j ∧ Hid (J N (pre ++ leavesL (e.kids.take j)) wr) ∧ Hid (∀ b, b < w.heap.size → wr.heap[b]? = w.heap[b]?) ∧ N ≤ wr.heap.size) (fun _ _ i _ => n - (intOf i).toNat)
      case atStart => exact ⟨0, by omega, rfl, by show J _ _ _; simpa [leavesL] using HJ0.out, HW0.out, by omega⟩
      case round =>
        obtain ⟨j, hj, rfl, HJj, HWj, hNj⟩ := hrel
        have i0 : (0 : Int) ≤ (j : Int) := by omega
        by_cases hlt : j < n
        · have i1 : (j : Int) < (n : Int) := by omega
          obtain ⟨b, o, k, A', n', c', d', rfl, hb, hk', hd, x0, x1, x2, x3, x4, x5, -, f1, f2, hkk⟩ := (HK.out.mono' (w' := wr) (B' := w.heap.size) (Nat.le_refl _) (Kept.of (fun b hb => HWj.out b hb))).exp_at hlt
          have HT := Lib.hid (leavesL_take hk'.out)
          have hkw : SliceIs (Enc.exp d') w w.heap.size A' n' c' k.kids := hkk.mono' (Nat.le_refl _) (Kept.of (fun b hb => (HWj.out b hb).symm))
          have hbB : Below wr.heap.size wr (wr.alloc (.cells #[.int .i64 k.op, .string k.t.x, .int .i64 k.t.v.k, .int .i64 k.t.v.n, .string k.t.v.s, .slice A' n' c'] 29)) := belowA (Below.refl _ _) _
          have HC := Lib.hid (IH.out d' (by omega) k A' n' c' (wr.alloc (.cells #[.int .i64 k.op, .string k.t.x, .int .i64 k.t.v.k, .int .i64 k.t.v.n, .string k.t.v.s, .slice A' n' c'] 29)) (pre ++ leavesL (e.kids.take j)) hkw (Hold.out _ _ HWj.out hbB hNj) (by simp; omega) (HJ.out _ _ _ HJj.out hbB)
            (by rw [List.append_assoc, ← HT.out]; refine List.IsPrefix.trans ?_ HpL.out; rw [leavesL_full e.kids (j + 1), ← List.append_assoc]; exact List.prefix_append _ _))
          rw [List.append_assoc, ← HT.out] at HC
          clear HT hk' hd hkw hbB hkk HJj
          gi_wp2_with fail
          refine ⟨trivial, rfl, (callsIn_wide.2 HC.out).mono ?_⟩
          rintro r w2 (⟨rfl, hj2, hW2, hN2⟩ | ⟨p, rfl, hp, hx⟩)
          · have HJ2 := Lib.hid hj2
            have HW2 := Lib.hid hW2
            clear hj2 hW2
            gi_wp2_with fail
            go_roundw
            case rel =>
              exact ⟨j + 1, by omega, by go_num, HJ2, HW2, hN2⟩
            case measure => simp [intOf]; omega
          · have hPP := Lib.hid (HE2.out w2 p hx hp.out)
            clear hx hp
            gi_wp2_with fail
            exact hPP.out
        · have i1 : ¬ (j : Int) < (n : Int) := by omega
          have hPP := Lib.hid (HE.out wr (by have := HJj.out; rw [List.take_of_length_le (by rw [Hlen.out]; omega)] at this; exact this) HWj.out hNj)
          clear HJj
          gi_wp2_with fail
          exact hPP.out

set_option maxRecDepth 100000 in
set_option maxHeartbeats 2000000 in
theorem terms_seq {w : World} {d : Nat} {e : GExp} {A : Option Addr} {n c g : Nat}
    (hg : w.heap[g]? = some (.cells #[.int .i64 e.op, .string e.t.x, .int .i64 e.t.v.k, .int .i64 e.t.v.n, .string e.t.v.s, .slice A n c] 29 (0, 0))) (S : List Nat) (w0 : World) (h0 : w0.heap.size ≤ g) (hw0 : Below w0.heap.size w0 w) (hkk : SliceIs (Enc.exp d) w0 w0.heap.size A n c e.kids) (hS : ∀ b ∈ S, w0.heap.size ≤ b) :
    SeqR2 Tryz.prog 25 #[.pointer (some ⟨g, 0, none⟩)] encT (RT (leavesE e)) S (fun xs => Hid (xs = leavesE e)) (fun pre => Hid (pre <+: leavesE e)) w := by
  intro l J Jx W hbW hl hlW hJ h0' hY
  have hgl : g < w.heap.size := (Array.getElem?_eq_some_iff.1 hg).1
  have hgW := (hbW.block g hgl).trans hg
  have hzW := hbW.size
  have hz0 := hw0.size
  have HG := Lib.hid (terms_go w0 l W.heap.size S (leavesE e) J Jx (by omega) (by omega) hS (fun pre W1 W2 => hJ _ pre W1 W2) (fun m pre x W0 W1 h1 h2 h3 => hY m _ pre x W0 W1 h1 h2 h3) d e A n c W [] hkk (fun b hb => (hbW.block b (by omega)).trans (hw0.block b hb)) (Nat.le_refl _) (h0' _ _ (Below.refl _ _) (Nat.le_refl _) (Nat.le_refl _)) (by simp))
  obtain ⟨b0, b1, b2, b3, b4, b5⟩ := facts6 hgW
  clear hJ h0' hY hg hgW hbW
  go_enter Tryz.func25, Tryz.ntmps25
  go_wp2_with fail
  refine HG.out.mono ?_
  rintro r W2 (⟨rfl, hj, -, -⟩ | ⟨p, rfl, hp, hj⟩)
  · have HJ2 := Lib.hid hj
    clear hj
    go_wp2_with fail
    refine ⟨rfl, _, results_none (fn := Tryz.f25) rfl _ _ _, ?_⟩
    exact ⟨⟨_, rfl⟩, .inl ⟨_, _, rfl, HJ2.out⟩⟩
  · have HJ2 := Lib.hid hj
    clear hj
    go_wp2_with fail
    refine ⟨rfl, _, results_none (fn := Tryz.f25) rfl _ _ _, ?_⟩
    exact ⟨⟨_, rfl⟩, .inr ⟨_, p, hp, HJ2.out⟩⟩

def SeqPost (w : World) (e : GExp) (A : Option Addr) (n c : Nat) (r : Ending) (w' : World) : Prop :=
  r = .returned (.func (.func 25) #[] #[.pointer (some ⟨w.heap.size, 0, none⟩)]) ∧ w' = w.alloc (.cells #[.int .i64 e.op, .string e.t.x, .int .i64 e.t.v.k, .int .i64 e.t.v.n, .string e.t.v.s, .slice A n c] 29)
set_option maxRecDepth 100000 in
set_option maxHeartbeats 400000 in
theorem termsF_any (w : World) (e : GExp) (A : Option Addr) (n c : Nat) : Calls Tryz.prog 10 #[expV e A n c] w (SeqPost w e A n c) := by
  go_enter Tryz.func10, Tryz.ntmps10
  go_wp2
  go_ret
  exact ⟨rfl, rfl⟩
end Go.Proofs.YtiffmiabhapfnaaGreatDoor

/- slices.AppendSeq and slices.Collect at terms, over an expression's terms. -/
namespace Go.Proofs.YtiffmiabhapfnaaGreatDoor
open Go.RowKit Go.Shelf
attribute [local go_sem] Oper.semAt_some

theorem wpListIn_app {F : Fence} {n : Nat} {P : Program} {w w' : World} {ops : Array Oper} {rest : List Oper} {o : Oper} {a : Act} {Q : Exit → Act → World → Prop} {v' : Value} (hg : o.guard = none) (s x : Operand) (t : TypeId)
    (hop : o.op = .call { callee := .builtin .append, args := #[s, x], argTypes := #[t, t] }) (v xv : Value) (hs : a.eval s = v) (hx : a.eval x = xv)
    (hrun : (Builtin.append_ #[t, t] o.type #[v, xv]).run P w = .ok v' w') (h : wpListIn F n P ops Q rest (a.put o.dst v') w') : wpListIn F n P ops Q (o :: rest) a w := by
  refine wpListIn_plain hg fun K hK' => ?_
  unfold Oper.wpIn
  refine ⟨?_, ?_⟩
  · simp [Oper.about, hop, resolve, Target.leads, Sem.run_pure]
  · rw [Oper.semAt_plain F _ _ (by rw [hop]; intro c hc'; cases hc')]
    simp [execOp, hop, resolve, invoke, builtin, hs, hx, hrun, Result.andThen]
    exact hK' _ _ h
theorem encT_eq (t : GTold) : encT t = #[.agg #[.string t.x, .int .i64 t.v.k, .int .i64 t.v.n, .string t.v.s]] := rfl
theorem term_info : (Tryz.prog.info? 26).map (fun i => (i.zero, i.size, i.bytes)) = some (some (.agg #[.string ⟨#[]⟩, .int .i64 0, .int .i64 0, .string ⟨#[]⟩]), 4, 48) := by kernel_rfl
theorem term_push {W : World} {base : Nat} {A : Option Addr} {c k : Nat} {xs : List GTold} (hown : W.ownsRow base 26 4 (.slice A k c) k (xs.flatMap GTold.cells)) (q : GTold) (hn : k + 1 ≤ 1000000) (hb : base ≤ W.heap.size) :
    ∃ A' c' w', (∀ ty, (Builtin.append_ #[51, 51] ty #[.slice A k c, .slice (some ⟨W.heap.size, 0, none⟩) 1 1]).run Tryz.prog (W.alloc (.cells #[.string q.x, .int .i64 q.v.k, .int .i64 q.v.n, .string q.v.s] 26)) = .ok (.slice A' (k + 1) c') w') ∧
      w'.ownsRow base 26 4 (.slice A' (k + 1) c') (k + 1) ((xs ++ [q]).flatMap GTold.cells) ∧ Out (Value.slice A k c).ownBlock.toList W w' ∧ Below base W w' := by
  have ho : (W.alloc (.cells #[.string q.x, .int .i64 q.v.k, .int .i64 q.v.n, .string q.v.s] 26)).ownsRow base 26 4 (.slice A k c) k (xs.flatMap GTold.cells) := own_below hown (belowA (Below.refl _ _) _)
  obtain ⟨v', w', h1, h2, h3, h4⟩ := run_push_at (P := Tryz.prog) (ty := 51) (W.alloc (.cells #[.string q.x, .int .i64 q.v.k, .int .i64 q.v.n, .string q.v.s] 26)) (base := base) Tryz.underlying51 term_info rfl (by decide) ho W.heap.size (GTold.cells q) rfl (heapNew rfl) (by intro u hu; simp [GTold.cells] at hu; rcases hu with rfl | rfl | rfl | rfl <;> rfl)
    (by simp [maxLen]; omega) (by omega) (by simp; omega)
  obtain ⟨A', c', rfl⟩ := own_form h2
  refine ⟨A', c', w', fun _ => h1, ?_, ?_, ?_⟩
  · rw [List.flatMap_append]; simpa using h2
  · have h5 := (Out.of_below (belowA (Below.refl W.heap.size W) (.cells #[.string q.x, .int .i64 q.v.k, .int .i64 q.v.n, .string q.v.s] 26)) (Value.slice A k c).ownBlock.toList)
    exact h5.trans (grown_out h3) (fun b hb _ => hb)
  · exact ((Below.refl base W).alloc hb _).trans h4
def CollPost (L : List GTold) (w : World) (r : Ending) (w' : World) : Prop :=
  ∃ A c, r = .returned (.slice A L.length c) ∧ w'.ownsRow w.heap.size 26 4 (.slice A L.length c) L.length (L.flatMap GTold.cells) ∧ Below w.heap.size w w'

set_option maxRecDepth 100000 in
set_option maxHeartbeats 4000000 in
theorem appendSeq_any {w : World} {d : Nat} {e : GExp} {A : Option Addr} {n c g : Nat}
    (hg : w.heap[g]? = some (.cells #[.int .i64 e.op, .string e.t.x, .int .i64 e.t.v.k, .int .i64 e.t.v.n, .string e.t.v.s, .slice A n c] 29 (0, 0))) (w0 : World) (h0 : w0.heap.size ≤ g) (hw0 : Below w0.heap.size w0 w) (hkk : SliceIs (Enc.exp d) w0 w0.heap.size A n c e.kids) (hlen : (leavesE e).length ≤ 1500) :
    Calls Tryz.prog 90 #[.slice none 0 0, .func (.func 25) #[] #[.pointer (some ⟨g, 0, none⟩)]] w (CollPost (leavesE e) w) := by
  have HQ := Lib.hid (terms_seq hg [w.heap.size] w0 h0 hw0 hkk (fun b hb => by have := hw0.size; simp at hb; omega))
  obtain ⟨L, hL⟩ : ∃ L, L = leavesE e := ⟨_, rfl⟩
  rw [← hL] at HQ hlen ⊢
  obtain ⟨P, HP⟩ : ∃ P : Ending → World → Prop, Hid (P = CollPost L w) := ⟨_, rfl⟩
  rw [← HP.out]
  clear hg h0 hw0 hkk hL
  refine (callsIn_wide (n := 8)).1 ?_
  refine callsIn_of_wp_marks Tryz.func90 rfl trivial ?_ rfl
  simp only [Tryz.ntmps90, List.size_toArray, List.length_cons, List.length_nil, Nat.reduceAdd, Nat.reduceSub, Array.replicate_succ, Array.replicate_zero, List.push_toArray, List.append_toArray, List.nil_append, List.cons_append]
  refine wpIn_wide.2 ?_
  go_wp2_with fail
  have hr0 : (w.alloc (.cells #[.slice none 0 0] 51)).heap[w.heap.size]? = some (.cells #[.slice none 0 0] 51 (0, 0)) := heapNew rfl
  have hbw : Below w.heap.size w (w.alloc (.cells #[.slice none 0 0] 51)) := belowA (Below.refl _ _) _
  have hz1 : (w.alloc (.cells #[.slice none 0 0] 51)).heap.size = w.heap.size + 1 := by simp
  generalize w.alloc (.cells #[.slice none 0 0] 51) = w1 at *
  refine (wpIn_wide (n := 8)).1 (range_law2 (hg := rfl) (eg := enters_of Tryz.func25 (by kernel_rfl) rfl) (hseq := HQ.out) (hb0 := hbw) ?hS (hps := fun _ => rfl)
    (I := fun N pre W => (∃ A c, W.heap[w.heap.size]? = some (.cells #[.slice A pre.length c] 51 (0, 0)) ∧ Hid (W.ownsRow N 26 4 (.slice A pre.length c) pre.length (pre.flatMap GTold.cells))) ∧ Below w.heap.size w W ∧ w1.heap.size ≤ N)
    (Ix := fun _ _ _ _ => False)
    ?hI ?hIx ?h0 ?round ?done ?stop)
  case hS => intro b hb; simp at hb; omega
  case hI =>
    rintro N pre W W' ⟨⟨A, c, h5, h6⟩, h7, h8⟩ hs'
    exact ⟨⟨A, c, hs'.row h5, hs'.own h6.out⟩, h7.trans (hs'.below (by omega) h7.size), h8⟩
  case hIx => exact fun _ _ _ _ _ h _ => h
  case h0 =>
    intro N W hs' hN0 _
    exact ⟨⟨none, 0, hs'.row hr0, World.ownsRow_nil _ _ _ _⟩, hbw.trans (hs'.below (by omega) hbw.size), by omega⟩
  case round =>
    rintro k N pre x W0 W1 K ⟨⟨A, c, h5, h6⟩, h7, h8⟩ hs' hN hN2 hW01 hx hK
    have HK := Lib.hid hK
    have H6 := Lib.hid h6.out
    have hps : pre.length + 1 ≤ 1500 := by
      have h9 := List.IsPrefix.length_le hx
      simp only [List.length_append, List.length_cons, List.length_nil] at h9; omega
    clear hK hx h6
    have hb1 : Below w.heap.size w W1 := h7.trans (hs'.below (by omega) h7.size)
    have t3 := hs'.row h5
    have hw00 := (Array.getElem?_eq_some_iff.1 h5).1
    have Hpl : Hid ((pre ++ [x]).length = pre.length + 1) := by show _ = _; simp
    clear h5 HQ hr0
    rw [encT_eq]
    gi_wp2
    refine HK.out _ _ (belowA (Below.refl _ _) _) (fun W2 hs2 hz2 => ?_)
    clear HK
    have v3 := hs2.row (heapOld (o := .cells #[.string x.x, .int .i64 x.v.k, .int .i64 x.v.n, .string x.v.s] 26) t3)
    have vb := hs2.row (heapNew (w := W1) (o := .cells #[.string x.x, .int .i64 x.v.k, .int .i64 x.v.n, .string x.v.s] 26) (g := W1.heap.size) rfl)
    have hb2 : Below w.heap.size w W2 := (belowA hb1 (.cells #[.string x.x, .int .i64 x.v.k, .int .i64 x.v.n, .string x.v.s] 26)).trans (hs2.below (by omega) (belowA hb1 _).size)
    obtain ⟨x0, x1, x2, x4⟩ := facts4 vb
    have c3 : W2.cell? ⟨w.heap.size, 0, none⟩ = some (.slice A pre.length c) := (cell_of_row _ _ 0 _ _ _ v3).trans rfl
    have hzW : W1.heap.size < W2.heap.size := by rw [hz2]; simp
    have H62 := Lib.hid (hs2.own (own_below (hs'.own H6.out) (belowA (Below.refl _ _) (.cells #[.string x.x, .int .i64 x.v.k, .int .i64 x.v.n, .string x.v.s] 26))))
    have HBl : Hid (∀ b, (Value.slice A pre.length c).ownBlock = some b → N ≤ b ∧ b < W0.heap.size) := fun b hb => own_blk H6.out hb
    obtain ⟨A9, c9, w9, q1, q2, q3, q4⟩ := term_push H62.out x (by omega) (by omega)
    have r3 := (q4.block _ (by omega)).trans v3
    have y3 : w9.cell? ⟨w.heap.size, 0, none⟩ = some (.slice A pre.length c) := (cell_of_row _ _ 0 _ _ _ r3).trans rfl
    have f3 : w9.frozen? ⟨w.heap.size, 0, none⟩ = false := frozen_of_row _ _ _ _ _ r3
    have HRun := Lib.hid q1
    have Q2 := Lib.hid q2
    have HR3 := Lib.hid r3
    have hb9 : Below w.heap.size w w9 := hb2.trans (q4.mono (by omega))
    have HT : Hid (Turn2 [w.heap.size] N W0.heap.size W2 (w9.setCell ⟨w.heap.size, 0, none⟩ (.slice A9 (pre.length + 1) c9))) :=
      Turn2.of_out (T := w.heap.size :: (Value.slice A pre.length c).ownBlock.toList) ((q3.mono (fun b hb _ => List.mem_cons_of_mem _ hb)).trans (set_out w9 _ 0 _) (fun b hb _ => by simp at hb; simp [hb])) (by omega) (fun b hb _ => by
        rcases List.mem_cons.1 hb with hb | hb
        · exact ⟨.inl (by simp [hb]), by omega⟩
        · have := HBl.out b (by simpa using hb)
          exact ⟨.inr this.1, this.2⟩)
    clear t3 v3 q1 q2 q3 r3 H62 H6
    have HZ2 := Lib.hid hz2
    clear hz2
    gi_wp2_with (gi_at_builtin; refine wpListIn_app (o := ⟨some 11, _, _, _, _, _⟩) rfl _ _ _ rfl _ _ rfl rfl (HRun.out _) ?_)
    refine ⟨HT.out, ⟨A9, c9, ?_, ?_⟩, hb9.setCell (Nat.le_refl _) _, h8⟩
    · rw [Hpl.out]; exact set_zero HR3.out
    · show World.ownsRow _ _ _ _ _ _ _
      rw [Hpl.out]
      exact own_out' Q2.out (set_out w9 _ 0 _) (fun b hb hb' => by have := (own_blk Q2.out hb).1; simp at hb'; omega)
  case done =>
    rintro N xs W hxs ⟨⟨A, c, h5, h6⟩, h7, h8⟩ hD
    obtain rfl : xs = L := hxs.out
    have c3 : W.cell? ⟨w.heap.size, 0, none⟩ = some (.slice A xs.length c) := (cell_of_row _ _ 0 _ _ _ h5).trans rfl
    have HDl := (Array.getElem?_eq_some_iff.1 hD).1
    have HHD := Lib.hid hD
    have H6 := Lib.hid h6.out
    clear hxs HQ hr0 h5 h6 hD
    go_wp2_with fail
    refine ⟨by simp, .inl ⟨_, _, rfl, run_takeDeferred HHD.out, ?_⟩⟩
    have hsf : Soft w1.heap.size W (W.putObj w1.heap.size (.deferred none)) := Soft.putObj _ (Nat.le_refl _) HHD.out rfl
    have hpost : P (.returned (.slice A xs.length c)) (W.putObj w1.heap.size (.deferred none)) := by
      rw [HP.out]
      refine ⟨A, c, rfl, ?_, h7.trans (hsf.below (by omega) h7.size)⟩
      have ho := hsf.own H6.out
      refine ⟨ho.1, ?_⟩
      rcases ho.2 with hn | ⟨g, cap, cur, hv, hbg, rest⟩
      · exact .inl hn
      · exact .inr ⟨g, cap, cur, hv, by omega, rest⟩
    exact ⟨.slice A xs.length c, by simp [results, Tryz.results90, go_sem], hpost⟩
  case stop => exact fun _ _ _ _ _ h _ => h.elim

set_option maxRecDepth 100000 in
set_option maxHeartbeats 1000000 in
theorem collect_any {w : World} {d : Nat} {e : GExp} {A : Option Addr} {n c g : Nat}
    (hg : w.heap[g]? = some (.cells #[.int .i64 e.op, .string e.t.x, .int .i64 e.t.v.k, .int .i64 e.t.v.n, .string e.t.v.s, .slice A n c] 29 (0, 0))) (w0 : World) (h0 : w0.heap.size ≤ g) (hw0 : Below w0.heap.size w0 w) (hkk : SliceIs (Enc.exp d) w0 w0.heap.size A n c e.kids) (hlen : (leavesE e).length ≤ 1500) :
    Calls Tryz.prog 64 #[.func (.func 25) #[] #[.pointer (some ⟨g, 0, none⟩)]] w (CollPost (leavesE e) w) := by
  have H := Lib.hid (appendSeq_any hg w0 h0 hw0 hkk hlen)
  obtain ⟨L, HL⟩ : ∃ L, Hid (L = leavesE e) := ⟨_, rfl⟩
  rw [← HL.out] at H ⊢
  clear hg h0 hw0 hkk hlen
  go_enter Tryz.func64, Tryz.ntmps64
  go_wp2_with fail
  refine H.out.mono ?_
  rintro r w1 ⟨A1, c1, rfl, h1, h2⟩
  go_wp2_with fail
  go_ret
  exact ⟨A1, c1, rfl, h1, h2⟩
end Go.Proofs.YtiffmiabhapfnaaGreatDoor

/- term.put: the variables of terms, each once, behind those that are there. -/
namespace Go.Proofs.YtiffmiabhapfnaaGreatDoor
open Go.RowKit

def put1 (acc : List ByteArray) (t : GTold) : List ByteArray := if t.x.toList.isEmpty || decide (t.x ∈ acc) then acc else acc ++ [t.x]
def putL (acc : List ByteArray) (l : List GTold) : List ByteArray := l.foldl put1 acc
theorem putL_take {l : List GTold} {k : Nat} {t : GTold} {acc : List ByteArray} (hx : l[k]? = some t) : putL acc (l.take (k + 1)) = put1 (putL acc (l.take k)) t := by
  rw [List.take_add_one, hx]; simp [putL, List.foldl_append]
theorem putL_app (acc : List ByteArray) (a b : List GTold) : putL acc (a ++ b) = putL (putL acc a) b := by simp [putL, List.foldl_append]
theorem putL_mem {l : List GTold} {acc : List ByteArray} {s : ByteArray} (h : s ∈ putL acc l) : s ∈ acc ∨ ∃ t ∈ l, t.x = s := by
  induction l generalizing acc with
  | nil => exact .inl h
  | cons t l ih =>
    rcases ih (acc := put1 acc t) h with h | ⟨u, hu, e⟩
    · unfold put1 at h
      split at h
      · exact .inl h
      · rcases List.mem_append.1 h with h | h
        · exact .inl h
        · simp at h; exact .inr ⟨t, List.mem_cons_self, h.symm⟩
    · exact .inr ⟨u, List.mem_cons_of_mem _ hu, e⟩
theorem putL_len (l : List GTold) (acc : List ByteArray) : (putL acc l).length ≤ acc.length + l.length := by
  induction l generalizing acc with
  | nil => simp [putL]
  | cons t l ih =>
    have h := ih (put1 acc t)
    have h2 : (put1 acc t).length ≤ acc.length + 1 := by
      unfold put1
      split
      · omega
      · simp only [List.length_append, List.length_cons, List.length_nil]; omega
    simp only [List.length_cons]
    show (putL (put1 acc t) l).length ≤ _
    omega
theorem told_ok {w : World} {B : Nat} {A : Option Addr} {n c : Nat} {l : List GTold} (h : SliceIs Enc.told w B A n c l) : ∀ t ∈ l, t.x.size ≤ reachN ∧ t.v.ok := by
  intro t ht
  rcases h.2.2.2.2 with h4 | ⟨b, o, _, _, hc⟩
  · subst h4; cases ht
  · obtain ⟨i, hi⟩ := List.mem_iff_getElem?.1 ht
    obtain ⟨cs, hok, _⟩ := hc i t hi
    exact hok.2
def strC (s : ByteArray) : List Value := [.string s]
theorem str_info : (Tryz.prog.info? 9).map (fun i => (i.zero, i.size, i.bytes)) = some (some (.string ⟨#[]⟩), 1, 16) := by kernel_rfl
theorem str_push {W : World} {base : Nat} {A : Option Addr} {c k : Nat} {xs : List ByteArray} (hown : W.ownsRow base 9 1 (.slice A k c) k (xs.flatMap strC)) (s : ByteArray) (hn : k + 1 ≤ 1000000) (hb : base ≤ W.heap.size) :
    ∃ A' c' w', (∀ ty, (Builtin.append_ #[58, 58] ty #[.slice A k c, .slice (some ⟨W.heap.size, 0, none⟩) 1 1]).run Tryz.prog (W.alloc (.cells #[.string s] 9)) = .ok (.slice A' (k + 1) c') w') ∧
      w'.ownsRow base 9 1 (.slice A' (k + 1) c') (k + 1) ((xs ++ [s]).flatMap strC) ∧ Below base W w' ∧ KeepsT 9 W w' := by
  have ho : (W.alloc (.cells #[.string s] 9)).ownsRow base 9 1 (.slice A k c) k (xs.flatMap strC) := own_below hown (belowA (Below.refl _ _) _)
  obtain ⟨v', w', h1, h2, h3, h4⟩ := run_push_at (P := Tryz.prog) (ty := 58) (W.alloc (.cells #[.string s] 9)) (base := base) Tryz.underlying58 str_info rfl (by decide) ho W.heap.size (strC s) rfl (heapNew rfl) (by intro u hu; simp [strC] at hu; rcases hu with rfl; rfl)
    (by simp [maxLen]; omega) (by omega) (by simp; omega)
  obtain ⟨A', c', rfl⟩ := own_form h2
  refine ⟨A', c', w', fun _ => h1, ?_, ?_, ?_⟩
  · rw [List.flatMap_append]; simpa using h2
  · exact ((Below.refl base W).alloc hb _).trans h4
  · have k1 : KeepsT 9 W (W.alloc (.cells #[.string s] 9)) := KeepsT.of_below (belowA (Below.refl _ _) _)
    refine k1.trans ?_
    intro b cs t fr hbb ht
    refine ((grown_out h3).block b (Array.getElem?_eq_some_iff.1 hbb).1 (fun hbo => ?_)).trans hbb
    obtain ⟨cur, hc⟩ := own_type ho (b := b) (by simpa using hbo)
    rw [hc] at hbb
    injection hbb with hbb; injection hbb with _ h5 _; exact ht h5.symm
def PutPost (L : List ByteArray) (base : Nat) (w : World) (e : Ending) (w' : World) : Prop :=
  ∃ A c, e = .returned (.slice A L.length c) ∧ w'.ownsRow base 9 1 (.slice A L.length c) L.length (L.flatMap strC) ∧ KeepsT 9 w w' ∧ Below base w w'
theorem texts_is {w : World} {base : Nat} {A : Option Addr} {n c : Nat} {l : List ByteArray} (h : w.ownsRow base 9 1 (.slice A n c) n (l.flatMap strC)) (hl : l.length = n) (hn : n ≤ 1000000) (hok : ∀ s ∈ l, s.size ≤ reachN) : SliceIs Enc.str w w.heap.size A n c l :=
  SliceIs.of_flat (E := Enc.str) strC (fun _ => rfl) h hl (by simp [reachN]; omega) (fun q hq => ⟨rfl, hok q hq⟩)

set_option maxRecDepth 100000 in
set_option maxHeartbeats 2000000 in
theorem put_any (base : Nat) (A0 : Option Addr) (c0 m0 : Nat) (L0 : List ByteArray) (A : Option Addr) (n c : Nat) (l : List GTold) (w : World) (hbase : base ≤ w.heap.size) (hm0 : L0.length = m0) (hown : w.ownsRow base 9 1 (.slice A0 m0 c0) m0 (L0.flatMap strC)) (hok : ∀ s ∈ L0, s.size ≤ reachN)
    (hl : ∀ W, KeepsT 9 w W → Below base w W → SliceIs Enc.told W W.heap.size A n c l) (hsz : m0 + n ≤ 100000) :
    Calls Tryz.prog 36 #[.slice A0 m0 c0, .slice A n c] w (PutPost (putL L0 l) base w) := by
  have hl0 := hl w (KeepsT.refl _ _) (Below.refl _ _)
  have hn := hl0.bound
  have hlen := Lib.hid hl0.1
  have Htold := Lib.hid (fun t h => told_ok hl0 t h)
  have HL := Lib.hid hl
  have Hm0 := Lib.hid hm0
  have Hok := Lib.hid hok
  have Hown := Lib.hid hown
  obtain ⟨P, HP⟩ : ∃ P : Ending → World → Prop, Hid (P = PutPost (putL L0 l) base w) := ⟨_, rfl⟩
  rw [← HP.out]
  clear hl hl0 hok hown hm0
  go_enter Tryz.func36, Tryz.ntmps36
  go_wp2_with fail
  go_loopw [0, 6, 9] (fun v _ i wr => ∃ (k m c' : Nat) (A' : Option Addr) (L : List ByteArray), k ≤ n ∧ i = .int .i64 k ∧ v = .slice A' m c' ∧ Hid (putL L0 (l.take k) = L) ∧ m ≤ m0 + k ∧ Hid (L.length = m) ∧ Hid (wr.ownsRow base 9 1 (.slice A' m c') m (L.flatMap strC)) ∧ Hid (KeepsT 9 w wr) ∧ Below base w wr ∧ w.heap.size ≤ wr.heap.size) (fun _ _ i _ => n - (intOf i).toNat)
  case atStart => exact ⟨0, m0, c0, A0, L0, by omega, rfl, rfl, by show putL L0 _ = _; simp [putL], by omega, Hm0.out, Hown, KeepsT.refl _ _, Below.refl _ _, Nat.le_refl _⟩
  case round =>
    obtain ⟨k, m, c', A', L, hk, rfl, rfl, hL, hmk, HLm, HO, HKp, hbr, hzr⟩ := hrel
    have i0 : (0 : Int) ≤ (k : Int) := by omega
    by_cases hlt : k < n
    · have i1 : (k : Int) < (n : Int) := by omega
      obtain ⟨b, o, x, rfl, hbl, hx, x1, x2, x3, x4, hxs, _⟩ := (HL.out wr HKp.out hbr).told_at hlt
      have hbx : Below wr.heap.size wr (wr.alloc (.cells #[.string x.x, .int .i64 x.v.k, .int .i64 x.v.n, .string x.v.s] 26)) := belowA (Below.refl _ _) _
      have HbX := Lib.hid hbx
      have HLs : Hid (∀ s ∈ L, s.size ≤ reachN) := fun s h => by
        rw [← hL.out] at h
        rcases putL_mem h with h | ⟨t, ht, e⟩
        · exact Hok.out s h
        · exact e ▸ (Htold.out t (List.mem_of_mem_take ht)).1
      have HE : Hid (putL L0 (l.take (k + 1)) = put1 L x) := by
        show putL L0 (l.take (k + 1)) = put1 L x
        rw [putL_take hx.out, hL.out]
      cases he : x.x.toList.isEmpty with
      | true =>
        have HT : Hid (putL L0 (l.take (k + 1)) = L) := by rw [HE.out]; simp [put1, he, Hid]
        have he' : (!x.x.toList.isEmpty) = false := by simp [he]
        clear hbx HE HLs
        go_wp2_with fail
        go_roundw
        case rel => exact ⟨k + 1, m, c', A', L, by omega, by go_num, rfl, HT, by omega, HLm, own_below HO.out HbX.out, HKp.out.trans (KeepsT.of_below HbX.out), hbr.trans (HbX.out.mono (by omega)), by simp; omega⟩
        case measure => simp [intOf]; omega
      | false =>
        have he' : (!x.x.toList.isEmpty) = true := by simp [he]
        have hC := contains_any A' m c' L x.x (wr.alloc (.cells #[.string x.x, .int .i64 x.v.k, .int .i64 x.v.n, .string x.v.s] 26)) ((texts_is HO.out HLm.out (by omega) HLs.out).keep hbx)
        cases hm : decide (x.x ∈ L) with
        | true =>
          have HT : Hid (putL L0 (l.take (k + 1)) = L) := by rw [HE.out]; simp only [put1, he, hm, Bool.false_or, if_true]; exact trivial
          rw [hm] at hC
          have hC := Lib.hid hC
          clear hm hbx HE HLs
          go_wp2_with fail
          refine hC.out.mono ?_
          rintro e w1 ⟨rfl, hb1⟩
          have hbn : Below wr.heap.size wr w1 := below_next HbX.out hb1
          have hzn := hbn.size
          have HbN := Lib.hid hbn
          clear hbn hC hb1
          go_wp2_with fail
          go_roundw
          case rel => exact ⟨k + 1, m, c', A', L, by omega, by go_num, rfl, HT, by omega, HLm, own_below HO.out HbN.out, HKp.out.trans (KeepsT.of_below HbN.out), hbr.trans (HbN.out.mono (by omega)), by omega⟩
          case measure => simp [intOf]; omega
        | false =>
          have HT : Hid (putL L0 (l.take (k + 1)) = L ++ [x.x]) := by rw [HE.out]; simp only [put1, he, hm, Bool.false_or, Bool.false_eq_true, if_false]; exact trivial
          have Hxs := Lib.hid hxs
          rw [hm] at hC
          have hC := Lib.hid hC
          clear hm hbx HE hxs
          go_wp2_with fail
          refine hC.out.mono ?_
          rintro e w1 ⟨rfl, hb1⟩
          obtain ⟨hc, hf⟩ := bcell hb1
          have hz := hb1.size
          have hbn : Below wr.heap.size wr w1 := below_next HbX.out hb1
          have HbN := Lib.hid hbn
          simp only [World.size_alloc, Nat.add_one_le_iff] at hz hc hf
          obtain ⟨A2, c2, w3, hrun, hown2, hb3, hk3⟩ := str_push (own_below HO.out HbN.out) x.x (by omega) (by omega)
          have HRun := Lib.hid hrun
          have HO3 := Lib.hid hown2
          have HK3 : Hid (KeepsT 9 w w3) := (HKp.out.trans (KeepsT.of_below HbN.out)).trans hk3
          have hbw3 : Below base w w3 := (hbr.trans (HbN.out.mono (by omega))).trans hb3
          have hz3 := hb3.size
          have HB3 := Lib.hid hbw3
          have HLm2 : Hid ((L ++ [x.x]).length = m + 1) := by show _ = _; simp [HLm.out]
          clear hrun hown2 hk3 hbw3 hb3 hbn hC hb1 HLs
          go_wp2_with (at_builtin; refine wpList_append_run rfl _ _ _ rfl _ _ rfl rfl (HRun.out _) ?_)
          go_roundw
          case rel => exact ⟨k + 1, m + 1, c2, A2, L ++ [x.x], by omega, by go_num, rfl, HT, by omega, HLm2, HO3, HK3, HB3.out, by omega⟩
          case measure => simp [intOf]; omega
    · have i1 : ¬ (k : Int) < (n : Int) := by omega
      have e : putL L0 l = L := by rw [← hL.out, List.take_of_length_le (by have := hlen.out; omega)]
      have hPP : Hid (P (.returned (.slice A' m c')) wr) := by
        show P _ _
        rw [HP.out, e]
        refine ⟨A', c', by rw [HLm.out], by rw [HLm.out]; exact HO.out, HKp.out, hbr⟩
      clear HP e
      go_wp2_with fail
      exact hPP.out
end Go.Proofs.YtiffmiabhapfnaaGreatDoor

/- slices.Grow and slices.Concat at terms. -/
namespace Go.Proofs.YtiffmiabhapfnaaGreatDoor
open Go.RowKit

def GrowPost (w : World) (e : Ending) (w' : World) : Prop := ∃ A c, e = .returned (.slice A 0 c) ∧ w'.ownsRow w.heap.size 26 4 (.slice A 0 c) 0 [] ∧ Below w.heap.size w w'

set_option maxRecDepth 100000 in
set_option maxHeartbeats 2000000 in
theorem grow_any (n : Nat) (w : World) (hn : n ≤ 10000) : Calls Tryz.prog 89 #[.slice none 0 0, .int .i64 n] w (GrowPost w) := by
  have h1 : ¬ ((n : Int) < 0) := by omega
  by_cases h0 : n = 0
  · subst h0
    go_enter Tryz.func89, Tryz.ntmps89
    go_wp2
    go_ret
    exact ⟨none, 0, rfl, World.ownsRow_nil _ _ _ _, Below.refl _ _⟩
  · have h4 : (0 : Int) < (n : Int) := by omega
    obtain ⟨i0, hi0, hz0, hs0, hb0⟩ := info_parts term_info
    have hold : (Builtin.firstCells i0.size 0 (.slice none 0 0)).run Tryz.prog w.drew = .ok (List.toArray []) w.drew := Go.run_firstCells_none w.drew i0.size 0 0 0
    have hgn : n ≤ grownCap w n 0 26 := grownCap_ge w _ _ _
    have hgm : grownCap w n 0 26 ≤ maxLen := grownCap_le_maxLen w n 0 26 (by simp [maxLen]; omega)
    obtain ⟨cap, cur, h5, h6, h7, hrz⟩ : ∃ cap cur, n ≤ cap ∧ cap ≤ maxLen ∧ cur.size = cap * 4 ∧ ∀ ty, (Builtin.append_ #[51, 3] ty #[.slice none 0 0, .int .i64 n]).run Tryz.prog w = .ok (.slice (some ⟨w.heap.size, 0, none⟩) n cap) (w.drew.alloc (.cells cur 26)) := by
      have h := fun ty => Lib.run_append_grow_zeros w 51 3 ty 26 i0 _ .i64 .i64 Tryz.underlying51 Tryz.underlying3 hi0 hz0 none 0 0 [] hold n (by omega) (by omega) (by omega) (by omega)
          (by rw [hb0]; omega) (by rw [Nat.zero_add]; exact growslice_fits (by omega) (by rw [hb0]; omega))
      simp only [Nat.zero_add] at h
      refine ⟨_, _, hgn, hgm, ?_, h⟩
      simp only [Array.size_append, size_zeroCells, List.size_toArray, List.length_nil, Value.cells]
      simp only [List.length_cons, List.length_nil]
      omega
    have HRz := Lib.hid hrz
    clear hrz hold hgn hgm
    have c1 : (0 : Int) ≤ (cap : Int) := by omega
    go_enter Tryz.func89, Tryz.ntmps89
    go_wp2_with (at_builtin; refine Lib.wpList_append_run _ rfl _ _ _ _ rfl _ _ rfl rfl _ _ (HRz.out _) ?_)
    go_ret
    exact ⟨some ⟨w.heap.size, 0, none⟩, cap, rfl, ⟨by simp, .inr ⟨w.heap.size, cap, cur, rfl, Nat.le_refl _, (Go.heap_alloc_new w _ : (w.alloc _).heap[w.heap.size]? = some _), Nat.zero_le _, h6, h7, by simp⟩⟩, (belowA (Below.refl _ _) _).drew⟩

def sumLen (ls : List (List GTold)) : Nat := (ls.map List.length).sum
theorem sumLen_take {ls : List (List GTold)} {k : Nat} {l : List GTold} (hx : ls[k]? = some l) : sumLen (ls.take (k + 1)) = sumLen (ls.take k) + l.length := by
  rw [List.take_add_one, hx]; simp [sumLen]
theorem sumLen_le (ls : List (List GTold)) (k : Nat) : sumLen (ls.take k) ≤ sumLen ls := by
  have : sumLen ls = sumLen (ls.take k) + sumLen (ls.drop k) := by
    have h := congrArg sumLen (List.take_append_drop k ls)
    simp only [sumLen, List.map_append, List.sum_append] at h ⊢
    exact h.symm
  omega
theorem flat_take {ls : List (List GTold)} {k : Nat} {l : List GTold} (hx : ls[k]? = some l) : (ls.take (k + 1)).flatten = (ls.take k).flatten ++ l := by
  rw [List.take_add_one, hx]; simp
theorem flat_sum (ls : List (List GTold)) : ls.flatten.length = sumLen ls := by simp [sumLen, List.length_flatten]

set_option maxRecDepth 100000 in
set_option maxHeartbeats 2000000 in
theorem concat_any (A : Option Addr) (n c : Nat) (ls : List (List GTold)) (w : World) (hl : SliceIs (Enc.slice Enc.told) w w.heap.size A n c ls) (hsum : sumLen ls ≤ 10000) :
    Calls Tryz.prog 63 #[.slice A n c] w (CollPost ls.flatten w) := by
  have hn := hl.bound
  have hlen := Lib.hid hl.1
  have HL := Lib.hid hl
  have Hok : Hid (∀ x ∈ ls.flatten, x.x.size ≤ reachN ∧ x.v.ok) := by
    intro x hx
    obtain ⟨l, hl1, hx⟩ := List.mem_flatten.1 hx
    obtain ⟨i, hi, rfl⟩ := List.mem_iff_getElem.1 hl1
    obtain ⟨b, o, l', A2, m, c2, _, _, hx', _, hs⟩ := hl.slice_at (i := i) (by rw [← hl.1]; exact hi)
    have e : ls[i] = l' := by have := hx'.out; rw [List.getElem?_eq_getElem hi] at this; simpa using this
    exact told_ok hs x (e ▸ hx)
  go_enter Tryz.func63, Tryz.ntmps63
  go_wp2_with fail
  go_loop [3, 5, 11] (fun t _ i => ∃ k : Nat, k ≤ n ∧ i = .int .i64 k ∧ t = .int .i64 (sumLen (ls.take k) : Nat)) (fun _ _ i => n - (intOf i).toNat)
  case atStart => exact ⟨0, by omega, rfl, by simp [sumLen]⟩
  case round =>
    obtain ⟨k, hk, rfl, rfl⟩ := hrel
    have hsk := sumLen_le ls k
    by_cases hlt : k < n
    · obtain ⟨b, o, l, A2, m, c2, rfl, hb, hx, hc, hs⟩ := hl.slice_at hlt
      have hml := hs.1
      have hsk1 := sumLen_le ls (k + 1)
      rw [sumLen_take hx.out] at hsk1
      have HT := Lib.hid (sumLen_take hx.out)
      have i1 : (k : Int) < (n : Int) := by omega
      clear hl
      go_wp2_with fail
      go_round
      case rel => exact ⟨k + 1, by omega, by go_num, by rw [HT.out, hml]; go_num⟩
      case measure => simp [intOf]; omega
    · have hkn : k = n := by omega
      subst hkn
      have Htot : Hid (sumLen (ls.take k) = sumLen ls) := by
        show _ = _
        rw [List.take_of_length_le (by have := hlen.out; omega)]
      go_wp2_with fail
      refine (grow_any _ w (by omega)).mono ?_
      rintro e w1 ⟨A1, c1, rfl, hown, hb1⟩
      clear hsk
      go_wp2_with fail
      go_loopw [6, 8, 27] (fun v _ i wr => ∃ (j m : Nat), j ≤ k ∧ i = .int .i64 j ∧ m = sumLen (ls.take j) ∧ wr.ownsRow w.heap.size 26 4 v m ((ls.take j).flatten.flatMap GTold.cells) ∧ Below w.heap.size w wr) (fun _ _ i _ => k - (intOf i).toNat)
      case atStart => exact ⟨0, 0, by omega, rfl, by simp [sumLen], by simpa using hown, hb1⟩
      case round =>
        obtain ⟨j, m, hj, rfl, hm, hown, hbr⟩ := hrel
        by_cases hlt2 : j < k
        · obtain ⟨b, o, l, A2, m2, c2, rfl, hb, hx, hc, hs⟩ := (HL.out.below hbr).slice_at hlt2
          have hsk1 := sumLen_le ls (j + 1)
          rw [sumLen_take hx.out] at hsk1
          have hm2 := hs.1
          have HT := Lib.hid (sumLen_take hx.out)
          have HF := Lib.hid (flat_take hx.out)
          have i1 : (j : Int) < (k : Int) := by omega
          obtain ⟨v2, w3, hrun, hown2, _, hb3⟩ := run_append_slice (P := Tryz.prog) (E := Enc.told) GTold.cells (fun _ => rfl) (fun h => h.1) (by intro x u hu; simp [GTold.cells] at hu; rcases hu with rfl | rfl | rfl | rfl <;> rfl) wr (ty := 51) Tryz.underlying51 term_info rfl (by decide) hown hs
            (by simp [maxLen]; omega) (by omega) (by have := hbr.size; omega)
          obtain ⟨A3, c3, rfl⟩ := own_form hown2
          have HRun := Lib.hid hrun
          have Hm := Lib.hid hm
          clear hrun hm hsk1
          go_wp2_with (at_builtin; refine wpList_append_run rfl _ _ _ rfl _ _ rfl rfl HRun ?_)
          go_roundw
          case rel => exact ⟨j + 1, m + m2, by omega, by go_num, by rw [HT.out, Hm.out, hm2], by rw [HF.out, List.flatMap_append]; exact hown2, hbr.trans hb3⟩
          case measure => simp [intOf]; omega
        · have hjk : j = k := by omega
          subst hjk
          have Hown := Lib.hid hown
          obtain ⟨A3, c3, rfl⟩ := own_form hown
          have Hm := Lib.hid hm
          clear hown hm
          go_wp2_with fail
          go_ret
          have et : ls.take j = ls := List.take_of_length_le (by have := hlen.out; omega)
          have hown := Hown.out
          have hm := Hm.out
          rw [et] at hown hm
          have hml : ls.flatten.length = m := by rw [flat_sum, hm]
          exact ⟨A3, c3, by rw [hml]; rfl, by rw [hml]; exact hown, hbr⟩
end Go.Proofs.YtiffmiabhapfnaaGreatDoor
