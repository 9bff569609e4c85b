/- My own texts PbC, RtE, TSame1, as far as this claim needs them. -/
import Derived.Test.YtplekbpmfaghbaaGreatDoorZd1
import Derived.Test.YtplekbpmfaghbaaGreatDoorZd2
import Derived.Test.YtplekbpmfaghbaaGreatDoorZd4
import Derived.Test.YtplekbpmfaghbaaGreatDoorZd5
import Derived.Test.YtplekbpmfaghbaaGreatDoorZd9
import Derived.Test.YtplekbpmfaghbaaGreatDoorZd10
import Derived.Test.YtplekbpmfaghbaaGreatDoorZd16
import Derived.Test.YtplekbpmfaghbaaGreatDoorZda1
import Derived.Test.YtplekbpmfaghbaaGreatDoorZda13
import Derived.Test.YtplekbpmfaghbaaGreatDoorZda16
import Derived.SizedLaws
import Derived.ProofKit
import Derived.Deep.Slices
import Derived.Test.YtplekbpmfaghbaaGreatDoorProg
import Derived.Deep.MidRow
import Derived.Great.Walk
import Derived.Great.BuildSlice
set_option linter.unusedVariables false
set_option linter.unusedSimpArgs false
namespace Go.Proofs.YtplekbpmfaghbaaGreatDoor
open Go.RowKit
theorem eqL_of_map {α β : Type} {f : α → α → Bool} {g : α → β} (hf : ∀ a b, g a = g b → f a b = true) : ∀ l m : List α, l.map g = m.map g → eqL f l m = true
  | [], [], _ => rfl
  | [], _ :: _, h => by simp at h
  | _ :: _, [], h => by simp at h
  | a :: l, b :: m, h => by
    simp only [List.map_cons, List.cons.injEq] at h
    rw [eqL, hf a b h.1, eqL_of_map hf l m h.2]; rfl
theorem sameLt_e (a b : GLit) (h : a.e = b.e) : sameLt a b = true := by
  cases a; cases b
  simp only [GLit.e, GLit.mk.injEq, and_true] at h
  obtain ⟨rfl, rfl, rfl, rfl, rfl⟩ := h
  simp [sameLt, sameA, sameE_refl]
theorem sameR_e (a b : GRule) (h : a.e = b.e) : sameR a b = true := by
  cases a; cases b
  simp only [GRule.e, GRule.mk.injEq, and_true] at h
  obtain ⟨rfl, rfl, rfl, h⟩ := h
  simp [sameR, sameA, eqL_of_map sameLt_e _ _ h]
theorem sameD_e (a b : GDecl) (h : a.e = b.e) : sameD a b = true := by
  cases a; cases b
  simp only [GDecl.e, GDecl.mk.injEq, and_true] at h
  obtain ⟨rfl, rfl⟩ := h
  simp [sameD]
theorem sameP_e {a b : GProg} (h : a.e = b.e) : sameP a b = true := by
  cases a; cases b
  simp only [GProg.e, GProg.mk.injEq] at h
  simp [sameP, eqL_of_map sameD_e _ _ h.1, eqL_of_map sameR_e _ _ h.2]
end Go.Proofs.YtplekbpmfaghbaaGreatDoor

namespace Go.Proofs.YtplekbpmfaghbaaGreatDoor
open Go.RowKit
theorem round_trip {l : List UInt8} (h : (parseP l).2.2 = 0) (hl : (textS (linesS (parseP l).1)).length ≤ 4000) :
    (parseP (textS (linesS (parseP l).1))).2.2 = 0 ∧ sameP (parseP l).1 (parseP (textS (linesS (parseP l).1))).1 = true := by
  obtain ⟨h1, h2⟩ := parse_shown (parse_good h).1 (parse_sym l) hl
  exact ⟨h1, sameP_e h2.symm⟩
end Go.Proofs.YtplekbpmfaghbaaGreatDoor

namespace Go.Proofs.YtplekbpmfaghbaaGreatDoor
open Go.RowKit
/-- a new variable that a struct is put into, an assignment between -/
theorem wpList_new3 {P : Program} {ops : Array Oper} {rest : List Oper} {o1 o2 o3 : Oper} {a : Act} {w : World} {Q : Exit → Act → World → Prop} (g1 : o1.guard = none) (g2 : o2.guard = none) (g3 : o3.guard = none) (ty : TypeId) (d : Tmp) (x : Operand) (h1 : o1.op = .alloc ty) (hd1 : o1.dst = some d) (h3 : o3.op = .store ty (.tmp d) x) (hd3 : o3.dst = none)
    (d2 : Tmp) (y : Operand) (h2 : o2.op = .assign y) (hd2 : o2.dst = some d2) (zs : Array Value) (cells : Array Value) (hi : (P.info? ty).map (fun i => (i.zero, i.size)) = some (some (.agg zs), zs.size)) (hs : zs.size = cells.size) (hone : cells.all (·.oneCell') = true) (v : Value)
    (hv : (a.put (some d) (.pointer (some ⟨w.heap.size, 0, none⟩))).eval y = v)
    (hp : ((a.put (some d) (.pointer (some ⟨w.heap.size, 0, none⟩))).put (some d2) v).eval (.tmp d) = .pointer (some ⟨w.heap.size, 0, none⟩)) (hx : ((a.put (some d) (.pointer (some ⟨w.heap.size, 0, none⟩))).put (some d2) v).eval x = .agg cells)
    (h : wpList P ops Q rest ((a.put (some d) (.pointer (some ⟨w.heap.size, 0, none⟩))).put (some d2) v) (w.alloc (.cells cells ty))) : wpList P ops Q (o1 :: o2 :: o3 :: rest) a w := by
  refine Go.Great.wpList_allocTo g1 (some d) hd1 _ _ (run_alloc_ty _ w o1 ty h1 zs _ hi) ?_
  refine wpList_plain g2 fun K hK => ?_
  refine op_assign y (.inl h2) v hv ?_
  rw [hd2]
  refine hK _ _ ?_
  refine wpList_store_rowTo g3 ty (.tmp d) x h3 hd3 w.heap.size cells hp hx ty zs (Go.heap_alloc_new w _) ?_ hs hone ?_
  · obtain ⟨i, hi1, hi2⟩ := Option.map_eq_some_iff.1 hi
    injection hi2 with h3 h4
    rw [hi1]; simp [h4, hs]
  · rw [setRow_new]; exact h
set_option maxRecDepth 100000 in
set_option maxHeartbeats 1000000 in
theorem equalK_any (A B : Option Addr) (n m c d : Nat) (xs ys : List Int) (w : World) (hx : SliceIs Enc.int w w.heap.size A n c xs) (hy : SliceIs Enc.int w w.heap.size B m d ys) :
    Calls Tryz.prog 134 #[.slice A n c, .slice B m d] w (RetBool (decide (xs = ys)) w) := by
  rw [← eqL_dec]
  obtain ⟨R, HR⟩ : ∃ R, Hid (R = eqL (fun a b => decide (a = b)) xs ys) := ⟨_, rfl⟩
  rw [← HR.out]
  have hn := hx.bound
  have hm := hy.bound
  have Hx := Lib.hid hx
  have Hy := Lib.hid hy
  have Hl1 := Lib.hid hx.1
  have Hl2 := Lib.hid hy.1
  clear hx hy
  by_cases hnm : n = m
  rotate_left
  · have hq : ((n : Int) != (m : Int)) = true := by simp; omega
    have HF : Hid (R = false) := by show _ = _; rw [HR.out]; exact eqL_len (by have := Hl1.out; have := Hl2.out; omega)
    clear HR hnm
    go_enter Tryz.func134, Tryz.ntmps134
    go_wp2_with fail
    go_ret
    exact ⟨by rw [HF.out]; rfl, Below.refl _ _⟩
  subst hnm
  have hq : ((n : Int) != (n : Int)) = false := by simp
  have HR0 : Hid (R = eqL (fun a b => decide (a = b)) (xs.drop 0) (ys.drop 0)) := HR.out
  clear HR
  go_enter Tryz.func134, Tryz.ntmps134
  go_wp2_with fail
  go_loopw [5, 13] (fun _ i wr => ∃ k : Nat, k ≤ n ∧ i = .int .i64 k ∧ Hid (R = eqL (fun a b => decide (a = b)) (xs.drop k) (ys.drop k)) ∧ (∃ q, wr = w.drewN q)) (fun _ i _ => n - (intOf i).toNat)
  case atStart => exact ⟨0, by omega, rfl, HR0, ⟨0, rfl⟩⟩
  case round =>
    clear HR0
    obtain ⟨k, hk, rfl, HRk, ⟨q, rfl⟩⟩ := hrel
    have i0 : (0 : Int) ≤ (k : Int) := by omega
    by_cases hlt : k < n
    · have i1 : (k : Int) < (n : Int) := by omega
      obtain ⟨b1, o1, v1, rfl, _, h1, x1, _⟩ := Hx.out.int_at hlt
      obtain ⟨b2, o2, v2, rfl, _, h2, y1, _⟩ := Hy.out.int_at hlt
      have HRn : Hid (R = (decide (v1 = v2) && eqL (fun a b => decide (a = b)) (xs.drop (k + 1)) (ys.drop (k + 1)))) := by show _ = _; rw [HRk.out, eqL_drop h1.out h2.out]
      clear h1 h2 HRk
      by_cases hv : v1 = v2
      · have HR1 : Hid (R = eqL (fun a b => decide (a = b)) (xs.drop (k + 1)) (ys.drop (k + 1))) := by show _ = _; rw [HRn.out]; simp [hv]
        have rn : (v1 != v2) = false := by simp [hv]
        clear HRn hv
        go_wp2_with fail
        go_quiet (fail)
        go_wp2_with fail
        go_roundw
        case rel => exact ⟨k + 1, by omega, by go_num, HR1, ⟨q + nq, rfl⟩⟩
        case measure => simp [intOf]; omega
      · have HR1 : Hid (R = false) := by show _ = _; rw [HRn.out]; simp [hv]
        have rn : (v1 != v2) = true := by simp [hv]
        clear HRn hv
        go_wp2_with fail
        go_quiet (fail)
        go_wp2_with fail
        go_ret
        exact ⟨by rw [HR1.out]; rfl, (below_drewN _ _ _).trans (below_drewN _ _ _)⟩
    · have i1 : ¬ (k : Int) < (n : Int) := by omega
      have HR1 : Hid (R = true) := by show _ = _; rw [HRk.out, List.drop_eq_nil_of_le (by have := Hl1.out; omega), List.drop_eq_nil_of_le (by have := Hl2.out; omega), eqL]
      clear HRk
      go_wp2_with fail
      go_ret
      exact ⟨by rw [HR1.out]; rfl, below_drewN _ _ _⟩
set_option maxRecDepth 100000 in
set_option maxHeartbeats 1000000 in
theorem equalT_any (A B : Option Addr) (n m c d : Nat) (xs ys : List GTold) (w : World) (hx : SliceIs Enc.told w w.heap.size A n c xs) (hy : SliceIs Enc.told w w.heap.size B m d ys) :
    Calls Tryz.prog 167 #[.slice A n c, .slice B m d] w (RetBool (decide (xs = ys)) w) := by
  rw [← eqL_dec]
  obtain ⟨R, HR⟩ : ∃ R, Hid (R = eqL (fun a b => decide (a = b)) xs ys) := ⟨_, rfl⟩
  rw [← HR.out]
  have hn := hx.bound
  have hm := hy.bound
  have Hx := Lib.hid hx
  have Hy := Lib.hid hy
  have Hl1 := Lib.hid hx.1
  have Hl2 := Lib.hid hy.1
  clear hx hy
  by_cases hnm : n = m
  rotate_left
  · have hq : ((n : Int) != (m : Int)) = true := by simp; omega
    have HF : Hid (R = false) := by show _ = _; rw [HR.out]; exact eqL_len (by have := Hl1.out; have := Hl2.out; omega)
    clear HR hnm
    go_enter Tryz.func167, Tryz.ntmps167
    go_wp2_with fail
    go_ret
    exact ⟨by rw [HF.out]; rfl, Below.refl _ _⟩
  subst hnm
  have hq : ((n : Int) != (n : Int)) = false := by simp
  have HR0 : Hid (R = eqL (fun a b => decide (a = b)) (xs.drop 0) (ys.drop 0)) := HR.out
  clear HR
  go_enter Tryz.func167, Tryz.ntmps167
  go_wp2_with fail
  go_loopw [5, 13] (fun _ i wr => ∃ k : Nat, k ≤ n ∧ i = .int .i64 k ∧ Hid (R = eqL (fun a b => decide (a = b)) (xs.drop k) (ys.drop k)) ∧ (∃ q, wr = w.drewN q)) (fun _ i _ => n - (intOf i).toNat)
  case atStart => exact ⟨0, by omega, rfl, HR0, ⟨0, rfl⟩⟩
  case round =>
    clear HR0
    obtain ⟨k, hk, rfl, HRk, ⟨q, rfl⟩⟩ := hrel
    have i0 : (0 : Int) ≤ (k : Int) := by omega
    by_cases hlt : k < n
    · have i1 : (k : Int) < (n : Int) := by omega
      obtain ⟨b1, o1, v1, rfl, _, h1, x0, x1, x2, x3, _, _⟩ := Hx.out.told_at hlt
      obtain ⟨b2, o2, v2, rfl, _, h2, y0, y1, y2, y3, _, _⟩ := Hy.out.told_at hlt
      have HRn : Hid (R = (decide (v1 = v2) && eqL (fun a b => decide (a = b)) (xs.drop (k + 1)) (ys.drop (k + 1)))) := by show _ = _; rw [HRk.out, eqL_drop h1.out h2.out]
      clear h1 h2 HRk
      by_cases hv : v1 = v2
      · have HR1 : Hid (R = eqL (fun a b => decide (a = b)) (xs.drop (k + 1)) (ys.drop (k + 1))) := by show _ = _; rw [HRn.out]; simp [hv]
        have rn : ∀ W, (binOp .neq 33 (.agg #[.string v1.x, .int .i64 v1.v.k, .int .i64 v1.v.n, .string v1.v.s]) (.agg #[.string v2.x, .int .i64 v2.v.k, .int .i64 v2.v.n, .string v2.v.s])).run Tryz.prog W = .ok (.bool false) W := fun W => by rw [run_told_ne]; simp [hv]
        clear HRn hv
        go_wp2_with fail
        go_quiet (fail)
        go_wp2_with fail
        go_roundw
        case rel => exact ⟨k + 1, by omega, by go_num, HR1, ⟨q + nq, rfl⟩⟩
        case measure => simp [intOf]; omega
      · have HR1 : Hid (R = false) := by show _ = _; rw [HRn.out]; simp [hv]
        have rn : ∀ W, (binOp .neq 33 (.agg #[.string v1.x, .int .i64 v1.v.k, .int .i64 v1.v.n, .string v1.v.s]) (.agg #[.string v2.x, .int .i64 v2.v.k, .int .i64 v2.v.n, .string v2.v.s])).run Tryz.prog W = .ok (.bool true) W := fun W => by rw [run_told_ne]; simp [hv]
        clear HRn hv
        go_wp2_with fail
        go_quiet (fail)
        go_wp2_with fail
        go_ret
        exact ⟨by rw [HR1.out]; rfl, (below_drewN _ _ _).trans (below_drewN _ _ _)⟩
    · have i1 : ¬ (k : Int) < (n : Int) := by omega
      have HR1 : Hid (R = true) := by show _ = _; rw [HRk.out, List.drop_eq_nil_of_le (by have := Hl1.out; omega), List.drop_eq_nil_of_le (by have := Hl2.out; omega), eqL]
      clear HRk
      go_wp2_with fail
      go_ret
      exact ⟨by rw [HR1.out]; rfl, below_drewN _ _ _⟩
set_option maxRecDepth 100000 in
set_option maxHeartbeats 2000000 in
theorem eqFuncD_any (A B : Option Addr) (n m c d : Nat) (xs ys : List GDecl) (w : World) (hx : SliceIs Enc.decl w w.heap.size A n c xs) (hy : SliceIs Enc.decl w w.heap.size B m d ys)
    (HC : ∀ (x y : GDecl) (A1 : Option Addr) (n1 c1 : Nat) (A2 : Option Addr) (n2 c2 : Nat) (W : World), Below w.heap.size w W → DeclAt W W.heap.size x ⟨A1, n1, c1⟩ → DeclAt W W.heap.size y ⟨A2, n2, c2⟩ → Calls Tryz.prog 92 #[.agg #[.string x.rel, .slice A1 n1 c1, .int .i64 x.pos], .agg #[.string y.rel, .slice A2 n2 c2, .int .i64 y.pos]] W (RetBool (sameD x y) W)) :
    Calls Tryz.prog 91 #[.slice A n c, .slice B m d, .func (.func 92) #[] #[]] w (RetBool (eqL sameD xs ys) w) := by
  have HC := Lib.hid HC
  obtain ⟨R, HR⟩ : ∃ R, Hid (R = eqL sameD xs ys) := ⟨_, rfl⟩
  rw [← HR.out]
  have hn := hx.bound
  have hm := hy.bound
  have Hx := Lib.hid hx
  have Hy := Lib.hid hy
  have Hl1 := Lib.hid hx.1
  have Hl2 := Lib.hid hy.1
  clear hx hy
  by_cases hnm : n = m
  rotate_left
  · have hq : ((n : Int) != (m : Int)) = true := by simp; omega
    have HF : Hid (R = false) := by show _ = _; rw [HR.out]; exact eqL_len (by have := Hl1.out; have := Hl2.out; omega)
    clear HR hnm
    go_enter Tryz.func91, Tryz.ntmps91
    go_wp2_with fail
    go_ret
    exact ⟨by rw [HF.out]; rfl, Below.refl _ _⟩
  subst hnm
  have hq : ((n : Int) != (n : Int)) = false := by simp
  have HR0 : Hid (R = eqL sameD (xs.drop 0) (ys.drop 0)) := HR.out
  clear HR
  go_enter Tryz.func91, Tryz.ntmps91
  go_wp2_with fail
  go_loopw [7, 8, 9, 17] (fun _ _ _ i wr => ∃ k : Nat, k ≤ n ∧ i = .int .i64 k ∧ Hid (R = eqL sameD (xs.drop k) (ys.drop k)) ∧ Below w.heap.size w wr) (fun _ _ _ i _ => n - (intOf i).toNat)
  case atStart => exact ⟨0, by omega, rfl, HR0, Below.refl _ _⟩
  case round =>
    clear HR0
    obtain ⟨k, hk, rfl, HRk, hbr⟩ := hrel
    have i0 : (0 : Int) ≤ (k : Int) := by omega
    by_cases hlt : k < n
    · have i1 : (k : Int) < (n : Int) := by omega
      obtain ⟨b1, o1, x, a1, hA1, hb1, h1, at1, x0, x1, x2⟩ := (Hx.out.keep hbr).decl_at hlt
      subst hA1
      obtain ⟨A1, n1, c1⟩ := a1
      dsimp only [Hd.v] at x1
      obtain ⟨b2, o2, y, a2, hA2, hb2, h2, at2, y0, y1, y2⟩ := (Hy.out.keep hbr).decl_at hlt
      subst hA2
      obtain ⟨A2, n2, c2⟩ := a2
      dsimp only [Hd.v] at y1
      have HRn : Hid (R = (sameD x y && eqL sameD (xs.drop (k + 1)) (ys.drop (k + 1)))) := by show _ = _; rw [HRk.out, eqL_drop h1.out h2.out]
      have hba : Below wr.heap.size wr ((wr.alloc (.cells #[.string x.rel, .slice A1 n1 c1, .int .i64 x.pos] 155)).alloc (.cells #[.string y.rel, .slice A2 n2 c2, .int .i64 y.pos] 155)) := belowA (belowA (Below.refl _ _) _) _
      have HCC := Lib.hid (HC.out x y A1 n1 c1 A2 n2 c2 _ (below_next hbr hba) (at1.keep hba) (at2.keep hba))
      have HBa := Lib.hid (below_next hbr hba)
      clear h1 h2 HRk hba at1 at2 hbr
      go_wp2_with fail
      refine HCC.out.mono ?_
      rintro r w3 ⟨rfl, hb3⟩
      have HB3 := Lib.hid (below_next HBa.out hb3)
      clear hb3 HCC HBa
      cases hq2 : sameD x y with
      | false =>
        have HR1 : Hid (R = false) := by show _ = _; rw [HRn.out, hq2]; rfl
        clear HRn hq2
        go_wp2_with fail
        go_ret
        exact ⟨by rw [HR1.out]; rfl, HB3.out⟩
      | true =>
        have HR1 : Hid (R = eqL sameD (xs.drop (k + 1)) (ys.drop (k + 1))) := by show _ = _; rw [HRn.out, hq2]; rfl
        clear HRn hq2
        go_wp2_with fail
        go_roundw
        case rel => exact ⟨k + 1, by omega, by go_num, HR1, HB3.out⟩
        case measure => simp [intOf]; omega
    · have i1 : ¬ (k : Int) < (n : Int) := by omega
      have HR1 : Hid (R = true) := by show _ = _; rw [HRk.out, List.drop_eq_nil_of_le (by have := Hl1.out; omega), List.drop_eq_nil_of_le (by have := Hl2.out; omega), eqL]
      clear HRk
      go_wp2_with fail
      go_ret
      exact ⟨by rw [HR1.out]; rfl, hbr⟩
set_option maxRecDepth 100000 in
set_option maxHeartbeats 2000000 in
theorem eqFuncR_any (d1 d2 : Nat) (A B : Option Addr) (n m c d : Nat) (xs ys : List GRule) (w : World) (hx : SliceIs (Enc.rule d1) w w.heap.size A n c xs) (hy : SliceIs (Enc.rule d2) w w.heap.size B m d ys)
    (HC : ∀ (x y : GRule) (A1 : Option Addr) (n1 c1 : Nat) (E1 : Option Addr) (m1 e1 : Nat) (A2 : Option Addr) (n2 c2 : Nat) (E2 : Option Addr) (m2 e2 : Nat) (W : World), Below w.heap.size w W → RuleAt d1 W W.heap.size x ⟨A1, n1, c1⟩ ⟨E1, m1, e1⟩ → RuleAt d2 W W.heap.size y ⟨A2, n2, c2⟩ ⟨E2, m2, e2⟩ → Calls Tryz.prog 94 #[.agg #[.string x.head.rel, .slice A1 n1 c1, .int .i64 x.agg, .int .i64 x.col, .slice E1 m1 e1, .int .i64 x.pos], .agg #[.string y.head.rel, .slice A2 n2 c2, .int .i64 y.agg, .int .i64 y.col, .slice E2 m2 e2, .int .i64 y.pos]] W (RetBool (sameR x y) W)) :
    Calls Tryz.prog 93 #[.slice A n c, .slice B m d, .func (.func 94) #[] #[]] w (RetBool (eqL sameR xs ys) w) := by
  have HC := Lib.hid HC
  obtain ⟨R, HR⟩ : ∃ R, Hid (R = eqL sameR xs ys) := ⟨_, rfl⟩
  rw [← HR.out]
  have hn := hx.bound
  have hm := hy.bound
  have Hx := Lib.hid hx
  have Hy := Lib.hid hy
  have Hl1 := Lib.hid hx.1
  have Hl2 := Lib.hid hy.1
  clear hx hy
  by_cases hnm : n = m
  rotate_left
  · have hq : ((n : Int) != (m : Int)) = true := by simp; omega
    have HF : Hid (R = false) := by show _ = _; rw [HR.out]; exact eqL_len (by have := Hl1.out; have := Hl2.out; omega)
    clear HR hnm
    go_enter Tryz.func93, Tryz.ntmps93
    go_wp2_with fail
    go_ret
    exact ⟨by rw [HF.out]; rfl, Below.refl _ _⟩
  subst hnm
  have hq : ((n : Int) != (n : Int)) = false := by simp
  have HR0 : Hid (R = eqL sameR (xs.drop 0) (ys.drop 0)) := HR.out
  clear HR
  go_enter Tryz.func93, Tryz.ntmps93
  go_wp2_with fail
  go_loopw [7, 8, 9, 17] (fun _ _ _ i wr => ∃ k : Nat, k ≤ n ∧ i = .int .i64 k ∧ Hid (R = eqL sameR (xs.drop k) (ys.drop k)) ∧ Below w.heap.size w wr) (fun _ _ _ i _ => n - (intOf i).toNat)
  case atStart => exact ⟨0, by omega, rfl, HR0, Below.refl _ _⟩
  case round =>
    clear HR0
    obtain ⟨k, hk, rfl, HRk, hbr⟩ := hrel
    have i0 : (0 : Int) ≤ (k : Int) := by omega
    by_cases hlt : k < n
    · have i1 : (k : Int) < (n : Int) := by omega
      obtain ⟨b1, o1, x, a1, p1, hA1, hb1, h1, at1, x0, x1, x2, x3, x4, x5⟩ := (Hx.out.keep hbr).rule_at hlt
      subst hA1
      obtain ⟨A1, n1, c1⟩ := a1
      obtain ⟨E1, m1, e1⟩ := p1
      dsimp only [Hd.v] at x1 x4
      obtain ⟨b2, o2, y, a2, p2, hA2, hb2, h2, at2, y0, y1, y2, y3, y4, y5⟩ := (Hy.out.keep hbr).rule_at hlt
      subst hA2
      obtain ⟨A2, n2, c2⟩ := a2
      obtain ⟨E2, m2, e2⟩ := p2
      dsimp only [Hd.v] at y1 y4
      have HRn : Hid (R = (sameR x y && eqL sameR (xs.drop (k + 1)) (ys.drop (k + 1)))) := by show _ = _; rw [HRk.out, eqL_drop h1.out h2.out]
      have hba : Below wr.heap.size wr ((wr.alloc (.cells #[.string x.head.rel, .slice A1 n1 c1, .int .i64 x.agg, .int .i64 x.col, .slice E1 m1 e1, .int .i64 x.pos] 27)).alloc (.cells #[.string y.head.rel, .slice A2 n2 c2, .int .i64 y.agg, .int .i64 y.col, .slice E2 m2 e2, .int .i64 y.pos] 27)) := belowA (belowA (Below.refl _ _) _) _
      have HCC := Lib.hid (HC.out x y A1 n1 c1 E1 m1 e1 A2 n2 c2 E2 m2 e2 _ (below_next hbr hba) (at1.keep hba) (at2.keep hba))
      have HBa := Lib.hid (below_next hbr hba)
      clear h1 h2 HRk hba at1 at2 hbr
      go_wp2_with fail
      refine HCC.out.mono ?_
      rintro r w3 ⟨rfl, hb3⟩
      have HB3 := Lib.hid (below_next HBa.out hb3)
      clear hb3 HCC HBa
      cases hq2 : sameR x y with
      | false =>
        have HR1 : Hid (R = false) := by show _ = _; rw [HRn.out, hq2]; rfl
        clear HRn hq2
        go_wp2_with fail
        go_ret
        exact ⟨by rw [HR1.out]; rfl, HB3.out⟩
      | true =>
        have HR1 : Hid (R = eqL sameR (xs.drop (k + 1)) (ys.drop (k + 1))) := by show _ = _; rw [HRn.out, hq2]; rfl
        clear HRn hq2
        go_wp2_with fail
        go_roundw
        case rel => exact ⟨k + 1, by omega, by go_num, HR1, HB3.out⟩
        case measure => simp [intOf]; omega
    · have i1 : ¬ (k : Int) < (n : Int) := by omega
      have HR1 : Hid (R = true) := by show _ = _; rw [HRk.out, List.drop_eq_nil_of_le (by have := Hl1.out; omega), List.drop_eq_nil_of_le (by have := Hl2.out; omega), eqL]
      clear HRk
      go_wp2_with fail
      go_ret
      exact ⟨by rw [HR1.out]; rfl, hbr⟩
set_option maxRecDepth 100000 in
set_option maxHeartbeats 2000000 in
theorem eqFuncE_any (d1 d2 : Nat) (A B : Option Addr) (n m c d : Nat) (xs ys : List GExp) (w : World) (hx : SliceIs (Enc.exp d1) w w.heap.size A n c xs) (hy : SliceIs (Enc.exp d2) w w.heap.size B m d ys)
    (HC : ∀ (x y : GExp) (A1 : Option Addr) (n1 c1 : Nat) (A2 : Option Addr) (n2 c2 : Nat) (g1 g2 : Nat) (W : World), g1 < d1 → Below w.heap.size w W → SliceIs (Enc.exp g1) W W.heap.size A1 n1 c1 x.kids → SliceIs (Enc.exp g2) W W.heap.size A2 n2 c2 y.kids → Calls Tryz.prog 168 #[.agg #[.int .i64 x.op, .string x.t.x, .int .i64 x.t.v.k, .int .i64 x.t.v.n, .string x.t.v.s, .slice A1 n1 c1], .agg #[.int .i64 y.op, .string y.t.x, .int .i64 y.t.v.k, .int .i64 y.t.v.n, .string y.t.v.s, .slice A2 n2 c2]] W (RetBool (sameE x y) W)) :
    Calls Tryz.prog 188 #[.slice A n c, .slice B m d, .func (.func 168) #[] #[]] w (RetBool (eqL sameE xs ys) w) := by
  have HC := Lib.hid HC
  obtain ⟨R, HR⟩ : ∃ R, Hid (R = eqL sameE xs ys) := ⟨_, rfl⟩
  rw [← HR.out]
  have hn := hx.bound
  have hm := hy.bound
  have Hx := Lib.hid hx
  have Hy := Lib.hid hy
  have Hl1 := Lib.hid hx.1
  have Hl2 := Lib.hid hy.1
  clear hx hy
  by_cases hnm : n = m
  rotate_left
  · have hq : ((n : Int) != (m : Int)) = true := by simp; omega
    have HF : Hid (R = false) := by show _ = _; rw [HR.out]; exact eqL_len (by have := Hl1.out; have := Hl2.out; omega)
    clear HR hnm
    go_enter Tryz.func188, Tryz.ntmps188
    go_wp2_with fail
    go_ret
    exact ⟨by rw [HF.out]; rfl, Below.refl _ _⟩
  subst hnm
  have hq : ((n : Int) != (n : Int)) = false := by simp
  have HR0 : Hid (R = eqL sameE (xs.drop 0) (ys.drop 0)) := HR.out
  clear HR
  go_enter Tryz.func188, Tryz.ntmps188
  go_wp2_with fail
  go_loopw [7, 8, 9, 17] (fun _ _ _ i wr => ∃ k : Nat, k ≤ n ∧ i = .int .i64 k ∧ Hid (R = eqL sameE (xs.drop k) (ys.drop k)) ∧ Below w.heap.size w wr) (fun _ _ _ i _ => n - (intOf i).toNat)
  case atStart => exact ⟨0, by omega, rfl, HR0, Below.refl _ _⟩
  case round =>
    clear HR0
    obtain ⟨k, hk, rfl, HRk, hbr⟩ := hrel
    have i0 : (0 : Int) ≤ (k : Int) := by omega
    by_cases hlt : k < n
    · have i1 : (k : Int) < (n : Int) := by omega
      obtain ⟨b1, o1, x, A1, n1, c1, g1, hA1, hb1, h1, hd1, x0, x1, x2, x3, x4, x5, _, _, _, at1⟩ := (Hx.out.keep hbr).exp_at hlt
      subst hA1
      obtain ⟨b2, o2, y, A2, n2, c2, g2, hA2, hb2, h2, hd2, y0, y1, y2, y3, y4, y5, _, _, _, at2⟩ := (Hy.out.keep hbr).exp_at hlt
      subst hA2
      have HRn : Hid (R = (sameE x y && eqL sameE (xs.drop (k + 1)) (ys.drop (k + 1)))) := by show _ = _; rw [HRk.out, eqL_drop h1.out h2.out]
      have hba : Below wr.heap.size wr ((wr.alloc (.cells #[.int .i64 x.op, .string x.t.x, .int .i64 x.t.v.k, .int .i64 x.t.v.n, .string x.t.v.s, .slice A1 n1 c1] 36)).alloc (.cells #[.int .i64 y.op, .string y.t.x, .int .i64 y.t.v.k, .int .i64 y.t.v.n, .string y.t.v.s, .slice A2 n2 c2] 36)) := belowA (belowA (Below.refl _ _) _) _
      have HCC := Lib.hid (HC.out x y A1 n1 c1 A2 n2 c2 g1 g2 _ (by omega) (below_next hbr hba) (at1.keep hba) (at2.keep hba))
      have HBa := Lib.hid (below_next hbr hba)
      clear h1 h2 HRk hba at1 at2 hbr
      go_wp2_with fail
      refine HCC.out.mono ?_
      rintro r w3 ⟨rfl, hb3⟩
      have HB3 := Lib.hid (below_next HBa.out hb3)
      clear hb3 HCC HBa
      cases hq2 : sameE x y with
      | false =>
        have HR1 : Hid (R = false) := by show _ = _; rw [HRn.out, hq2]; rfl
        clear HRn hq2
        go_wp2_with fail
        go_ret
        exact ⟨by rw [HR1.out]; rfl, HB3.out⟩
      | true =>
        have HR1 : Hid (R = eqL sameE (xs.drop (k + 1)) (ys.drop (k + 1))) := by show _ = _; rw [HRn.out, hq2]; rfl
        clear HRn hq2
        go_wp2_with fail
        go_roundw
        case rel => exact ⟨k + 1, by omega, by go_num, HR1, HB3.out⟩
        case measure => simp [intOf]; omega
    · have i1 : ¬ (k : Int) < (n : Int) := by omega
      have HR1 : Hid (R = true) := by show _ = _; rw [HRk.out, List.drop_eq_nil_of_le (by have := Hl1.out; omega), List.drop_eq_nil_of_le (by have := Hl2.out; omega), eqL]
      clear HRk
      go_wp2_with fail
      go_ret
      exact ⟨by rw [HR1.out]; rfl, hbr⟩
set_option maxRecDepth 100000 in
set_option maxHeartbeats 2000000 in
theorem eqFuncL_any (d1 d2 : Nat) (A B : Option Addr) (n m c d : Nat) (xs ys : List GLit) (w : World) (hx : SliceIs (Enc.lit d1) w w.heap.size A n c xs) (hy : SliceIs (Enc.lit d2) w w.heap.size B m d ys)
    (HC : ∀ (x y : GLit) (a1 p1 q1 a2 p2 q2 : Hd) (W : World), Below w.heap.size w W → LitAt d1 W W.heap.size x a1 p1 q1 → LitAt d2 W W.heap.size y a2 p2 q2 → Calls Tryz.prog 137 #[.agg (litC x a1 p1 q1).toArray, .agg (litC y a2 p2 q2).toArray] W (RetBool (sameLt x y) W)) :
    Calls Tryz.prog 136 #[.slice A n c, .slice B m d, .func (.func 137) #[] #[]] w (RetBool (eqL sameLt xs ys) w) := by
  have HC := Lib.hid HC
  obtain ⟨R, HR⟩ : ∃ R, Hid (R = eqL sameLt xs ys) := ⟨_, rfl⟩
  rw [← HR.out]
  have hn := hx.bound
  have hm := hy.bound
  have Hx := Lib.hid hx
  have Hy := Lib.hid hy
  have Hl1 := Lib.hid hx.1
  have Hl2 := Lib.hid hy.1
  clear hx hy
  by_cases hnm : n = m
  rotate_left
  · have hq : ((n : Int) != (m : Int)) = true := by simp; omega
    have HF : Hid (R = false) := by show _ = _; rw [HR.out]; exact eqL_len (by have := Hl1.out; have := Hl2.out; omega)
    clear HR hnm
    go_enter Tryz.func136, Tryz.ntmps136
    go_wp2_with fail
    go_ret
    exact ⟨by rw [HF.out]; rfl, Below.refl _ _⟩
  subst hnm
  have hq : ((n : Int) != (n : Int)) = false := by simp
  have HR0 : Hid (R = eqL sameLt (xs.drop 0) (ys.drop 0)) := HR.out
  clear HR
  go_enter Tryz.func136, Tryz.ntmps136
  go_wp2_with fail
  go_loopw [7, 8, 9, 17] (fun _ _ _ i wr => ∃ k : Nat, k ≤ n ∧ i = .int .i64 k ∧ Hid (R = eqL sameLt (xs.drop k) (ys.drop k)) ∧ Below w.heap.size w wr) (fun _ _ _ i _ => n - (intOf i).toNat)
  case atStart => exact ⟨0, by omega, rfl, HR0, Below.refl _ _⟩
  case round =>
    clear HR0
    obtain ⟨k, hk, rfl, HRk, hbr⟩ := hrel
    have i0 : (0 : Int) ≤ (k : Int) := by omega
    by_cases hlt : k < n
    · have i1 : (k : Int) < (n : Int) := by omega
      obtain ⟨b1, o1, x, a1, p1, q1, hA1, hb1, h1, at1, r1⟩ := (Hx.out.keep hbr).lit_range hlt
      subst hA1
      obtain ⟨b2, o2, y, a2, p2, q2, hA2, hb2, h2, at2, r2⟩ := (Hy.out.keep hbr).lit_range hlt
      subst hA2
      have HRn : Hid (R = (sameLt x y && eqL sameLt (xs.drop (k + 1)) (ys.drop (k + 1)))) := by show _ = _; rw [HRk.out, eqL_drop h1.out h2.out]
      have hba : Below wr.heap.size wr ((wr.alloc (.cells (litC x a1 p1 q1).toArray 38)).alloc (.cells (litC y a2 p2 q2).toArray 38)) := belowA (belowA (Below.refl _ _) _) _
      have HCC := Lib.hid (HC.out x y a1 p1 q1 a2 p2 q2 _ (below_next hbr hba) (at1.keep hba) (at2.keep hba))
      have HBa := Lib.hid (below_next hbr hba)
      have HB1 := Lib.hid (range_row (heapOld (o := .cells (litC y a2 p2 q2).toArray 38) (heapNew (w := wr) (o := .cells (litC x a1 p1 q1).toArray 38) rfl)))
      have HB2 := Lib.hid (range_row (heapNew (w := wr.alloc (.cells (litC x a1 p1 q1).toArray 38)) (o := .cells (litC y a2 p2 q2).toArray 38) rfl))
      simp only [World.size_alloc] at HB2
      have HR2 : Hid ((wr.alloc (.cells (litC x a1 p1 q1).toArray 38)).rangeAt b2 (o2 + k * 17) (litC y a2 p2 q2)) := fun j v hj => cellA (r2.out j v hj)
      clear h1 h2 HRk hba at1 at2 hbr
      go_wp2_with (first
        | refine wpList_load_mid rfl 38 (.tmp 20) rfl b1 (o1 + k * 17) rfl (litC x a1 p1 q1) _ r1.out Tryz.underlying38 rfl (lit_size x a1 p1 q1) ?_
        | refine wpList_load_mid rfl 38 (.tmp 24) rfl b2 (o2 + k * 17) rfl (litC y a2 p2 q2) _ HR2.out Tryz.underlying38 rfl (lit_size y a2 p2 q2) ?_
        | refine wpList_new3 rfl rfl rfl 38 8 (.tmp 21) rfl rfl rfl rfl 7 (.tmp 19) rfl rfl _ (litC x a1 p1 q1).toArray lit_info rfl (lit_one x a1 p1 q1) _ rfl rfl rfl ?_
        | refine wpList_new rfl rfl 38 9 (.tmp 25) rfl rfl rfl rfl _ (litC y a2 p2 q2).toArray lit_info rfl (lit_one y a2 p2 q2) rfl rfl ?_
        | refine wpList_load_mid rfl 38 (.tmp 8) rfl wr.heap.size 0 rfl (litC x a1 p1 q1) _ HB1.out Tryz.underlying38 rfl (lit_size x a1 p1 q1) ?_
        | refine wpList_load_mid rfl 38 (.tmp 9) rfl (wr.heap.size + 1) 0 rfl (litC y a2 p2 q2) _ HB2.out Tryz.underlying38 rfl (lit_size y a2 p2 q2) ?_)
      refine HCC.out.mono ?_
      rintro r w3 ⟨rfl, hb3⟩
      have HB3 := Lib.hid (below_next HBa.out hb3)
      clear hb3 HCC HBa
      cases hq2 : sameLt x y with
      | false =>
        have HR1 : Hid (R = false) := by show _ = _; rw [HRn.out, hq2]; rfl
        clear HRn hq2
        go_wp2_with fail
        go_ret
        exact ⟨by rw [HR1.out]; rfl, HB3.out⟩
      | true =>
        have HR1 : Hid (R = eqL sameLt (xs.drop (k + 1)) (ys.drop (k + 1))) := by show _ = _; rw [HRn.out, hq2]; rfl
        clear HRn hq2
        go_wp2_with fail
        go_roundw
        case rel => exact ⟨k + 1, by omega, by go_num, HR1, HB3.out⟩
        case measure => simp [intOf]; omega
    · have i1 : ¬ (k : Int) < (n : Int) := by omega
      have HR1 : Hid (R = true) := by show _ = _; rw [HRk.out, List.drop_eq_nil_of_le (by have := Hl1.out; omega), List.drop_eq_nil_of_le (by have := Hl2.out; omega), eqL]
      clear HRk
      go_wp2_with fail
      go_ret
      exact ⟨by rw [HR1.out]; rfl, hbr⟩
end Go.Proofs.YtplekbpmfaghbaaGreatDoor
