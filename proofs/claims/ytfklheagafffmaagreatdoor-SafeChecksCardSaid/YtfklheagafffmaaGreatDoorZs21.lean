/- My own texts TEvL, TRule, PaOk, PaPl, PaW, PaWr, as far as this claim needs them. -/
import Derived.Test.YtfklheagafffmaaGreatDoorZs20
set_option linter.unusedVariables false
set_option linter.unusedSimpArgs false
set_option maxRecDepth 1000000
set_option maxHeartbeats 16000000
namespace Go.Proofs.YtfklheagafffmaaGreatDoor
open Go.RowKit
theorem ev1L_any (x : GLit) (a p q : Hd) (g : Nat) (w : World) (hg : w.cell? ⟨g, 0, none⟩ = some (.func (.func 44) #[] #[])) (HC : Hid (∀ W, Below w.heap.size w W → Calls Tryz.prog 44 #[.agg #[.int .i64 x.k, .string x.atom.rel, a.v, .int .i64 x.op, .int .i64 x.l.op, .string x.l.t.x, .int .i64 x.l.t.v.k, .int .i64 x.l.t.v.n, .string x.l.t.v.s, p.v, .int .i64 x.r.op, .string x.r.t.x, .int .i64 x.r.t.v.k, .int .i64 x.r.t.v.n, .string x.r.t.v.s, q.v, .int .i64 x.pos]] W (RetBool (rightLit x) W))) :
    Calls Tryz.prog 69 #[.agg #[.int .i64 x.k, .string x.atom.rel, a.v, .int .i64 x.op, .int .i64 x.l.op, .string x.l.t.x, .int .i64 x.l.t.v.k, .int .i64 x.l.t.v.n, .string x.l.t.v.s, p.v, .int .i64 x.r.op, .string x.r.t.x, .int .i64 x.r.t.v.k, .int .i64 x.r.t.v.n, .string x.r.t.v.s, q.v, .int .i64 x.pos], .pointer (some ⟨g, 0, none⟩)] w (RetBool (!rightLit x) w) := by
  have hrb : (w.alloc (.cells #[.int .i64 x.k, .string x.atom.rel, a.v, .int .i64 x.op, .int .i64 x.l.op, .string x.l.t.x, .int .i64 x.l.t.v.k, .int .i64 x.l.t.v.n, .string x.l.t.v.s, p.v, .int .i64 x.r.op, .string x.r.t.x, .int .i64 x.r.t.v.k, .int .i64 x.r.t.v.n, .string x.r.t.v.s, q.v, .int .i64 x.pos] 70)).heap[w.heap.size]? = some (.cells #[.int .i64 x.k, .string x.atom.rel, a.v, .int .i64 x.op, .int .i64 x.l.op, .string x.l.t.x, .int .i64 x.l.t.v.k, .int .i64 x.l.t.v.n, .string x.l.t.v.s, p.v, .int .i64 x.r.op, .string x.r.t.x, .int .i64 x.r.t.v.k, .int .i64 x.r.t.v.n, .string x.r.t.v.s, q.v, .int .i64 x.pos] 70 (0, 0)) := heapNew rfl
  obtain ⟨b0, b1, b2, b3, b4, b5, b6, b7, b8, b9, b10, b11, b12, b13, b14, b15, b16⟩ := facts17 hrb
  have cg : (w.alloc (.cells #[.int .i64 x.k, .string x.atom.rel, a.v, .int .i64 x.op, .int .i64 x.l.op, .string x.l.t.x, .int .i64 x.l.t.v.k, .int .i64 x.l.t.v.n, .string x.l.t.v.s, p.v, .int .i64 x.r.op, .string x.r.t.x, .int .i64 x.r.t.v.k, .int .i64 x.r.t.v.n, .string x.r.t.v.s, q.v, .int .i64 x.pos] 70)).cell? ⟨g, 0, none⟩ = some (.func (.func 44) #[] #[]) := cellA hg
  clear hrb hg
  generalize rightLit x = B at *
  go_enter Tryz.func69, Tryz.ntmps69
  go_wp2_with fail
  refine (HC.out _ (by first | exact Below.refl _ _ | exact belowA (Below.refl _ _) _)).mono ?_
  rintro e w1 ⟨rfl, hb⟩
  have Hb := Lib.hid hb
  clear hb
  go_wp2_with fail
  go_ret
  exact ⟨rfl, below_next (belowA (Below.refl _ _) _) Hb.out⟩
theorem evIL_any (d : Nat) (A : Option Addr) (n c : Nat) (l : List GLit) (g : Nat) (w : World) (hl : SliceIs (Enc.lit d) w w.heap.size A n c l) (hg : w.cell? ⟨g, 0, none⟩ = some (.func (.func 44) #[] #[]))
    (HC : Hid (∀ (x : GLit) (a p q : Hd) W, LitAt d W W.heap.size x a p q → Below w.heap.size w W → Calls Tryz.prog 44 #[.agg #[.int .i64 x.k, .string x.atom.rel, a.v, .int .i64 x.op, .int .i64 x.l.op, .string x.l.t.x, .int .i64 x.l.t.v.k, .int .i64 x.l.t.v.n, .string x.l.t.v.s, p.v, .int .i64 x.r.op, .string x.r.t.x, .int .i64 x.r.t.v.k, .int .i64 x.r.t.v.n, .string x.r.t.v.s, q.v, .int .i64 x.pos]] W (RetBool (rightLit x) W))) :
    Calls Tryz.prog 96 #[.slice A n c, .func (.func 69) #[] #[.pointer (some ⟨g, 0, none⟩)]] w (fun e w' => ∃ k : Int, e = .returned (.int .i64 k) ∧ decide (0 ≤ k) = !(l.all rightLit) ∧ Below w.heap.size w w') := by
  have hn := hl.bound
  have HL := Lib.hid hl
  have hlen := Lib.hid hl.1
  have Hg := Lib.hid hg
  clear hl hg
  go_enter Tryz.func96, Tryz.ntmps96
  go_wp2_with fail
  go_loopw [5, 8] (fun _ i wr => ∃ k : Nat, k ≤ n ∧ i = .int .i64 k ∧ Hid ((l.take k).all rightLit = true) ∧ Below w.heap.size w wr) (fun _ i _ => n - (intOf i).toNat)
  case atStart => exact ⟨0, by omega, rfl, by simp [Hid], Below.refl _ _⟩
  case round =>
    obtain ⟨k, hk, rfl, hpre, hbr⟩ := hrel
    by_cases hlt : k < n
    · have HLr := (HL.out.below hbr)
      obtain ⟨b, o, x, a, p, q, rfl, hbb, hx, hat, z0, z1, z2, z3, z4, z5, z6, z7, z8, z9, z10, z11, z12, z13, z14, z15, z16⟩ := HLr.lit_at hlt
      have hokx : LitAt d wr wr.heap.size x a p q := hat.mono' hbr.size (Kept.of fun _ _ => rfl)
      have C := Lib.hid (ev1L_any x a p q g wr (below_cell hbr Hg.out) (fun W hW => HC.out x a p q W (hokx.keep hW) (below_next hbr hW)))
      have i0 : (0 : Int) ≤ (k : Int) := by omega
      have i1 : (k : Int) < (n : Int) := by omega
      have HT : Hid ((l.take (k + 1)).all rightLit = rightLit x) := by
        show _ = _
        obtain ⟨g1, g2⟩ := List.getElem?_eq_some_iff.1 hx.out
        rw [List.take_succ_eq_append_getElem g1, g2, List.all_append, hpre.out]; simp
      have HF : Hid (rightLit x = false → l.all rightLit = false) := fun h => by
        rw [List.all_eq_false]
        exact ⟨x, List.mem_of_getElem? hx.out, by simp [h]⟩
      clear HLr hokx
      generalize rightLit x = B at *
      cases B with
      | true =>
        clear HF
        go_wp2_with fail
        refine C.out.mono ?_
        rintro e w1 ⟨rfl, hb⟩
        have Hb := Lib.hid hb
        clear hb
        go_wp2_with fail
        go_roundw
        case rel => exact ⟨k + 1, by omega, by go_num, HT, below_next hbr Hb.out⟩
        case measure => simp [intOf]; omega
      | false =>
        have HF' : Hid (l.all rightLit = false) := HF.out rfl
        clear HF
        go_wp2_with fail
        refine C.out.mono ?_
        rintro e w1 ⟨rfl, hb⟩
        have Hb := Lib.hid hb
        clear hb
        go_wp2_with fail
        go_ret
        exact ⟨_, rfl, by rw [HF'.out]; simp, below_next hbr Hb.out⟩
    · have i1 : ¬ (k : Int) < (n : Int) := by omega
      have HA : Hid (l.all rightLit = true) := by
        show _ = _
        have h := hpre.out
        rw [List.take_of_length_le (by have := hlen.out; omega)] at h
        exact h
      go_wp2_with fail
      go_ret
      exact ⟨_, rfl, by rw [HA.out]; rfl, hbr⟩
theorem everyL_any (d : Nat) (A : Option Addr) (n c : Nat) (l : List GLit) (w : World) (hl : SliceIs (Enc.lit d) w w.heap.size A n c l)
    (HC : Hid (∀ (x : GLit) (a p q : Hd) W, LitAt d W W.heap.size x a p q → Below w.heap.size w W → Calls Tryz.prog 44 #[.agg #[.int .i64 x.k, .string x.atom.rel, a.v, .int .i64 x.op, .int .i64 x.l.op, .string x.l.t.x, .int .i64 x.l.t.v.k, .int .i64 x.l.t.v.n, .string x.l.t.v.s, p.v, .int .i64 x.r.op, .string x.r.t.x, .int .i64 x.r.t.v.k, .int .i64 x.r.t.v.n, .string x.r.t.v.s, q.v, .int .i64 x.pos]] W (RetBool (rightLit x) W))) :
    Calls Tryz.prog 43 #[.slice A n c, .func (.func 44) #[] #[]] w (RetBool (l.all rightLit) w) := by
  have hba : Below w.heap.size w (w.alloc (.cells #[.func (.func 44) #[] #[]] 108)) := belowA (Below.refl _ _) _
  have C := Lib.hid (evIL_any d A n c l w.heap.size (w.alloc (.cells #[.func (.func 44) #[] #[]] 108)) (hl.keep hba) ((cell_of_row _ _ 0 _ _ _ (heapNew rfl)).trans rfl) (fun x a p q W h hW => HC.out x a p q W h (below_next hba hW)))
  generalize l.all rightLit = B at *
  clear hl HC
  have CC : Hid (Calls Tryz.prog 68 #[.slice A n c, .func (.func 69) #[] #[.pointer (some ⟨w.heap.size, 0, none⟩)]] (w.alloc (.cells #[.func (.func 44) #[] #[]] 108)) (RetBool (!B) (w.alloc (.cells #[.func (.func 44) #[] #[]] 108)))) := by
    show Calls _ _ _ _ _
    generalize w.alloc (.cells #[.func (.func 44) #[] #[]] 108) = wb at *
    go_enter Tryz.func68, Tryz.ntmps68
    go_wp2_with fail
    refine C.out.mono ?_
    rintro e w1 ⟨k, rfl, hk, hb⟩
    have Hb := Lib.hid hb
    have Hk := Lib.hid hk
    clear hb hk
    go_wp2_with fail
    go_ret
    exact ⟨by rw [← Hk.out]; rfl, Hb.out⟩
  clear C
  go_enter Tryz.func43, Tryz.ntmps43
  go_wp2_with fail
  refine CC.out.mono ?_
  rintro e w1 ⟨rfl, hb⟩
  have Hb := Lib.hid hb
  clear hb CC
  go_wp2_with fail
  go_ret
  exact ⟨by cases B <;> rfl, below_next hba Hb.out⟩
end Go.Proofs.YtfklheagafffmaaGreatDoor

namespace Go.Proofs.YtfklheagafffmaaGreatDoor
open Go.RowKit
def varAt (l : List GTold) (k : Nat) : Bool := match l[k]? with | some t => !decide (t.x.size = 0) | none => false
def aggB (x : GRule) : Bool := if x.agg = 0 then decide (x.col = 0) else decide (0 ≤ x.agg ∧ x.agg ≤ 4 ∧ 0 ≤ x.col) && varAt x.head.args x.col.toNat
theorem agg_any (x : GRule) (a m : Hd) (w : World) (hl : SliceIs Enc.told w w.heap.size a.A a.n a.c x.head.args) : Calls Tryz.prog 42 #[.agg #[.string x.head.rel, a.v, .int .i64 x.agg, .int .i64 x.col, m.v, .int .i64 x.pos]] w (RetBool (aggB x) w) := by
  obtain ⟨B, HB⟩ : ∃ B, Hid (B = aggB x) := ⟨_, rfl⟩
  rw [← HB.out]
  have hn := hl.bound
  have Hlen := Lib.hid hl.1
  have HL := Lib.hid hl
  clear hl
  by_cases h0 : x.agg = 0
  · have q0 : (x.agg == 0) = true := by simp [h0]
    have HE : Hid (B = decide (x.col = 0)) := by show _ = _; rw [HB.out]; unfold aggB; rw [if_pos h0]
    clear h0 HB
    by_cases h1 : x.col = 0
    · have q1 : (x.col == 0) = true := by simp [h1]
      rw [decide_eq_true h1] at HE
      clear h1
      go_enter Tryz.func42, Tryz.ntmps42
      go_wp2_with fail
      go_ret
      exact ⟨by rw [HE.out]; rfl, belowA (Below.refl _ _) _⟩
    · have q1 : (x.col == 0) = false := by simp [h1]
      rw [decide_eq_false h1] at HE
      clear h1
      go_enter Tryz.func42, Tryz.ntmps42
      go_wp2_with fail
      go_ret
      exact ⟨by rw [HE.out]; rfl, belowA (Below.refl _ _) _⟩
  have q0 : (x.agg == 0) = false := by simp [h0]
  have HE : Hid (B = (decide (0 ≤ x.agg ∧ x.agg ≤ 4 ∧ 0 ≤ x.col) && varAt x.head.args x.col.toNat)) := by show _ = _; rw [HB.out]; unfold aggB; rw [if_neg h0]
  clear h0 HB
  by_cases hb : 0 ≤ x.agg ∧ x.agg ≤ 4 ∧ 0 ≤ x.col ∧ x.col < (a.n : Int)
  rotate_left
  · have HE2 : Hid (B = false) := by
      show _ = _
      rw [HE.out]
      by_cases h1 : 0 ≤ x.agg ∧ x.agg ≤ 4 ∧ 0 ≤ x.col
      · have : varAt x.head.args x.col.toNat = false := by
          unfold varAt
          rw [List.getElem?_eq_none (by have := Hlen.out; omega)]
        rw [this]; simp
      · rw [decide_eq_false h1]; rfl
    have hd : x.agg < 0 ∨ (¬ x.agg < 0 ∧ 4 < x.agg) ∨ (¬ x.agg < 0 ∧ ¬ 4 < x.agg ∧ x.col < 0) ∨ (¬ x.agg < 0 ∧ ¬ 4 < x.agg ∧ ¬ x.col < 0 ∧ (a.n : Int) ≤ x.col) := by omega
    clear HE hb
    rcases hd with h | ⟨h1, h⟩ | ⟨h1, h2, h⟩ | ⟨h1, h2, h3, h⟩ <;>
    · go_enter Tryz.func42, Tryz.ntmps42
      go_wp2_with fail
      go_ret
      exact ⟨by rw [HE2.out]; rfl, belowA (Below.refl _ _) _⟩
  obtain ⟨c1, c2, c3, c4⟩ := hb
  obtain ⟨k, hk⟩ : ∃ k : Nat, x.col = (k : Int) := ⟨x.col.toNat, by omega⟩
  have c5 : ¬ x.agg < 0 := by omega
  have c6 : ¬ 4 < x.agg := by omega
  have c7 : ¬ x.col < 0 := by omega
  have c8 : ¬ (a.n : Int) ≤ x.col := by omega
  have hkn : k < a.n := by omega
  obtain ⟨b, o, t, hA, hbb, ht, y0, -, -, -, -, -⟩ := HL.out.told_at hkn
  have HE2 : Hid (B = !decide (t.x.size = 0)) := by
    show _ = _
    rw [HE.out, decide_eq_true ⟨c1, c2, c3⟩, hk, Int.toNat_natCast]
    unfold varAt
    rw [ht.out]; rfl
  obtain ⟨A, n, c⟩ := a
  simp only at hA hkn c4 c8 hn
  subst hA
  rw [hk] at c3 c4 c7 c8
  have z0 := cellA (o := .cells #[.string x.head.rel, .slice (some ⟨b, o, none⟩) n c, .int .i64 x.agg, .int .i64 (k : Int), m.v, .int .i64 x.pos] 27) y0
  simp only [hk]
  clear HE HL Hlen ht hbb y0 hk c1 c2
  by_cases he : t.x.size = 0
  · have e0 : t.x.toList = [] := str_empty.2 he
    have e1 : t.x.toList.isEmpty = true := by rw [e0]; rfl
    have HE3 : Hid (B = false) := by show _ = _; rw [HE2.out, decide_eq_true he]; rfl
    clear he HE2
    dsimp only [Hd.v, ruleC]
    go_enter Tryz.func42, Tryz.ntmps42
    go_wp2_with fail
    go_ret
    exact ⟨by rw [HE3.out]; rfl, belowA (Below.refl _ _) _⟩
  · have e0 : ¬ t.x.toList = [] := fun h => he (str_empty.1 h)
    have e1 : t.x.toList.isEmpty = false := by cases hl : t.x.toList with
      | nil => exact absurd hl e0
      | cons _ _ => rfl
    have HE3 : Hid (B = true) := by show _ = _; rw [HE2.out, decide_eq_false he]; rfl
    clear he HE2
    dsimp only [Hd.v, ruleC]
    go_enter Tryz.func42, Tryz.ntmps42
    go_wp2_with fail
    go_ret
    exact ⟨by rw [HE3.out]; rfl, belowA (Below.refl _ _) _⟩
def rightRule (x : GRule) : Bool := atomB x.head && (aggB x && (decide (x.body.length ≤ 8) && x.body.all rightLit))
theorem rightRule_any (d : Nat) (x : GRule) (a m : Hd) (w : World) (h : RuleAt d w w.heap.size x a m) (hW : LexW w) : Calls Tryz.prog 16 #[.agg #[.string x.head.rel, a.v, .int .i64 x.agg, .int .i64 x.col, m.v, .int .i64 x.pos]] w (RetBool (rightRule x) w) := by
  obtain ⟨B, HB⟩ : ∃ B, Hid (B = rightRule x) := ⟨_, rfl⟩
  rw [← HB.out]
  have hrb : (w.alloc (.cells #[.string x.head.rel, a.v, .int .i64 x.agg, .int .i64 x.col, m.v, .int .i64 x.pos] 27)).heap[w.heap.size]? = some (.cells #[.string x.head.rel, a.v, .int .i64 x.agg, .int .i64 x.col, m.v, .int .i64 x.pos] 27 (0, 0)) := heapNew rfl
  have hba : Below w.heap.size w (w.alloc (.cells #[.string x.head.rel, a.v, .int .i64 x.agg, .int .i64 x.col, m.v, .int .i64 x.pos] 27)) := belowA (Below.refl _ _) _
  have hn := h.body.bound
  have Hlen := Lib.hid h.body.1
  have HH := Lib.hid (h.keep hba)
  have HW := Lib.hid (hW.on hba)
  clear h hW
  obtain ⟨P1, HP1⟩ : ∃ E, Hid (E = atomB x.head) := ⟨_, rfl⟩
  obtain ⟨P2, HP2⟩ : ∃ E, Hid (E = aggB x) := ⟨_, rfl⟩
  obtain ⟨P3, HP3⟩ : ∃ E, Hid (E = x.body.all rightLit) := ⟨_, rfl⟩
  have HE : Hid (B = (P1 && (P2 && (decide (x.body.length ≤ 8) && P3)))) := by show _ = _; rw [HB.out, HP1.out, HP2.out, HP3.out]; rfl
  have Hrow : Hid (∀ W, Below (w.alloc (.cells #[.string x.head.rel, a.v, .int .i64 x.agg, .int .i64 x.col, m.v, .int .i64 x.pos] 27)).heap.size (w.alloc (.cells #[.string x.head.rel, a.v, .int .i64 x.agg, .int .i64 x.col, m.v, .int .i64 x.pos] 27)) W → W.heap[w.heap.size]? = some (.cells #[.string x.head.rel, a.v, .int .i64 x.agg, .int .i64 x.col, m.v, .int .i64 x.pos] 27 (0, 0))) := fun W h => (h.block _ (Array.getElem?_eq_some_iff.1 hrb).1).trans hrb
  obtain ⟨f0_0, f0_1, f0_2, f0_3, f0_4, f0_5⟩ := facts6 hrb
  have C1 : Hid (∀ W, Below (w.alloc (.cells #[.string x.head.rel, a.v, .int .i64 x.agg, .int .i64 x.col, m.v, .int .i64 x.pos] 27)).heap.size (w.alloc (.cells #[.string x.head.rel, a.v, .int .i64 x.agg, .int .i64 x.col, m.v, .int .i64 x.pos] 27)) W → Calls Tryz.prog 41 #[.agg #[.string x.head.rel, a.v]] W (RetBool P1 W)) := fun W h => by rw [HP1.out]; exact aright_any x.head a W HH.out.rel (HH.out.args.keep h) (HW.out.on h)
  have C2 : Hid (∀ W, Below (w.alloc (.cells #[.string x.head.rel, a.v, .int .i64 x.agg, .int .i64 x.col, m.v, .int .i64 x.pos] 27)).heap.size (w.alloc (.cells #[.string x.head.rel, a.v, .int .i64 x.agg, .int .i64 x.col, m.v, .int .i64 x.pos] 27)) W → Calls Tryz.prog 42 #[.agg #[.string x.head.rel, a.v, .int .i64 x.agg, .int .i64 x.col, m.v, .int .i64 x.pos]] W (RetBool P2 W)) := fun W h => by rw [HP2.out]; exact agg_any x a m W (HH.out.args.keep h)
  have C3 : Hid (∀ W, Below (w.alloc (.cells #[.string x.head.rel, a.v, .int .i64 x.agg, .int .i64 x.col, m.v, .int .i64 x.pos] 27)).heap.size (w.alloc (.cells #[.string x.head.rel, a.v, .int .i64 x.agg, .int .i64 x.col, m.v, .int .i64 x.pos] 27)) W → Calls Tryz.prog 43 #[m.v, .func (.func 44) #[] #[]] W (RetBool P3 W)) := fun W h => by
    rw [HP3.out]
    exact everyL_any d m.A m.n m.c x.body W (HH.out.body.keep h) (fun y a p q W' hy h' => rightLit_any d y a p q W' hy ((HW.out.on h).on h'))
  clear hrb HB HP1 HP2 HP3 HH HW
  by_cases h8 : m.n ≤ 8
  · have z8 : (m.n : Int) ≤ 8 := by omega
    have HE2 : Hid (B = (P1 && (P2 && P3))) := by show _ = _; rw [HE.out, decide_eq_true (by rw [Hlen.out]; exact h8)]; rfl
    clear HE Hlen h8
    generalize hwb : (w.alloc (.cells #[.string x.head.rel, a.v, .int .i64 x.agg, .int .i64 x.col, m.v, .int .i64 x.pos] 27)) = wb at *
    have Hbw0 := Lib.hid (Below.refl wb.heap.size wb)
    go_enter Tryz.func16, Tryz.ntmps16
    go_wp2_with fail
    try simp only [hwb]
    go_wp2_with fail
    refine (C1.out _ Hbw0.out).mono ?_
    rintro e1 w1 ⟨rfl, hq1⟩
    have Hbw1 := Lib.hid (below_next Hbw0.out hq1)
    obtain ⟨f1_0, f1_1, f1_2, f1_3, f1_4, f1_5⟩ := facts6 (Hrow.out _ Hbw1.out)
    clear hq1 f0_0 f0_1 f0_2 f0_3 f0_4 f0_5
    cases P1 with
    | false =>
      go_wp2_with fail
      go_ret
      exact ⟨by rw [HE2.out]; rfl, below_next hba Hbw1.out⟩
    | true =>
      go_wp2_with fail
      refine (C2.out _ Hbw1.out).mono ?_
      rintro e2 w2 ⟨rfl, hq2⟩
      have Hbw2 := Lib.hid (below_next Hbw1.out hq2)
      obtain ⟨f2_0, f2_1, f2_2, f2_3, f2_4, f2_5⟩ := facts6 (Hrow.out _ Hbw2.out)
      clear hq2 f1_0 f1_1 f1_2 f1_3 f1_4 f1_5
      cases P2 with
      | false =>
        go_wp2_with fail
        go_ret
        exact ⟨by rw [HE2.out]; rfl, below_next hba Hbw2.out⟩
      | true =>
        go_wp2_with fail
        refine (C3.out _ Hbw2.out).mono ?_
        rintro e3 w3 ⟨rfl, hq3⟩
        have Hbw3 := Lib.hid (below_next Hbw2.out hq3)
        obtain ⟨f3_0, f3_1, f3_2, f3_3, f3_4, f3_5⟩ := facts6 (Hrow.out _ Hbw3.out)
        clear hq3 f2_0 f2_1 f2_2 f2_3 f2_4 f2_5
        cases P3 <;>
        · go_wp2_with fail
          go_ret
          exact ⟨by rw [HE2.out]; rfl, below_next hba Hbw3.out⟩
  · have z8 : ¬ (m.n : Int) ≤ 8 := by omega
    have HE2 : Hid (B = false) := by show _ = _; rw [HE.out, decide_eq_false (by rw [Hlen.out]; exact h8)]; simp
    clear HE Hlen h8 C3
    generalize hwb : (w.alloc (.cells #[.string x.head.rel, a.v, .int .i64 x.agg, .int .i64 x.col, m.v, .int .i64 x.pos] 27)) = wb at *
    have Hbw0 := Lib.hid (Below.refl wb.heap.size wb)
    go_enter Tryz.func16, Tryz.ntmps16
    go_wp2_with fail
    try simp only [hwb]
    go_wp2_with fail
    refine (C1.out _ Hbw0.out).mono ?_
    rintro e1 w1 ⟨rfl, hq1⟩
    have Hbw1 := Lib.hid (below_next Hbw0.out hq1)
    obtain ⟨f1_0, f1_1, f1_2, f1_3, f1_4, f1_5⟩ := facts6 (Hrow.out _ Hbw1.out)
    clear hq1 f0_0 f0_1 f0_2 f0_3 f0_4 f0_5
    cases P1 with
    | false =>
      go_wp2_with fail
      go_ret
      exact ⟨by rw [HE2.out]; rfl, below_next hba Hbw1.out⟩
    | true =>
      go_wp2_with fail
      refine (C2.out _ Hbw1.out).mono ?_
      rintro e2 w2 ⟨rfl, hq2⟩
      have Hbw2 := Lib.hid (below_next Hbw1.out hq2)
      obtain ⟨f2_0, f2_1, f2_2, f2_3, f2_4, f2_5⟩ := facts6 (Hrow.out _ Hbw2.out)
      clear hq2 f1_0 f1_1 f1_2 f1_3 f1_4 f1_5
      cases P2 <;>
      · go_wp2_with fail
        go_ret
        exact ⟨by rw [HE2.out]; rfl, below_next hba Hbw2.out⟩
end Go.Proofs.YtfklheagafffmaaGreatDoor

namespace Go.Proofs.YtfklheagafffmaaGreatDoor
open Go.RowKit
structure Toks (T : List GTok) (E : Nat) : Prop where
  within : Within T E
  texts : ∀ q ∈ T, TextOf wordK q.k q.t
  short : ∀ q ∈ T, q.t.length ≤ 4000
section
variable {T : List GTok} {E : Nat}
end
end Go.Proofs.YtfklheagafffmaaGreatDoor

namespace Go.Proofs.YtfklheagafffmaaGreatDoor
open Go.RowKit
theorem toks_of {l : List UInt8} (hl : l.length ≤ 4000) : Toks (lexS l).1 l.length := by
  have hp := lex_places (wk := wordK) _ 0 l (Nat.le_refl _)
  refine ⟨fun q hq => ?_, lex_texts (wk := wordK) _ 0 l (Nat.le_refl _), fun q hq => ?_⟩
  · have := hp q hq; omega
  · have := hp q hq; omega
section
variable {T : List GTok} {E : Nat}
end
theorem fine0 (T : List GTok) (E : Nat) : Fine T E ps0 := ⟨Nat.zero_le _, fun h => absurd rfl h, Nat.zero_le _, by decide, by decide⟩
end Go.Proofs.YtfklheagafffmaaGreatDoor

namespace Go.Proofs.YtfklheagafffmaaGreatDoor
open Go.RowKit
theorem Rd.begin {W : World} {A : Option Addr} {c : Nat} {T : List GTok} {E : Nat} (hp : ParW W) (ht : SliceIs Enc.tok W W.heap.size A T.length c T) (hX : Toks T E) (hE : E ≤ 4000) (hT : T.length ≤ 4000) :
    Rd (W.heap.size + 1) W.heap.size A c T E ps0 (W.alloc (.cells #[.slice A T.length c, .int .i64 0, .int .i64 E, .int .i64 0, .int .i64 0, .int .i64 0] 150)) := by
  have hB := belowA (Below.refl W.heap.size W) (.cells #[.slice A T.length c, .int .i64 0, .int .i64 E, .int .i64 0, .int .i64 0, .int .i64 0] 150)
  refine ⟨heapNew rfl, ?_, hp.on hB, Nat.lt_succ_self _, by simp, fun b hb => ?_, fine0 T E, hX.within, hE, hT, by decide, hX.texts⟩
  · refine ht.mono' (Nat.le_succ _) (fun b hb cs t fr hcs hc => ?_)
    rw [sans_out (by simp; omega), hB.block b hb, hcs]
  · have := hp.lt b hb
    omega
def parErr (e : Int) : Value := if e = 0 then .nilIface else .iface 115 (.int .i64 e)
end Go.Proofs.YtfklheagafffmaaGreatDoor

namespace Go.Proofs.YtfklheagafffmaaGreatDoor
open Go.RowKit
def zeroRule : GRule := ⟨⟨⟨#[]⟩, []⟩, 0, 0, [], 0⟩
def readP (l : List UInt8) : GRule × Nat × Int := wholeP zeroRule (fun T E s => ruleP T E s) l
def WholeRuleRes (s : ByteArray) (w : World) (e : Ending) (w' : World) : Prop := Below w.heap.size w w' ∧
  ∃ (d : Nat) (a b : Hd), e = .returned (.tuple #[.agg (ruleC (readP s.toList).1 a b).toArray, .int .i64 (readP s.toList).2.1, parErr (readP s.toList).2.2]) ∧ RuleAt d (sans w' (List.range w.heap.size)) w'.heap.size (readP s.toList).1 a b
theorem RuleAt.outs {d : Nat} {S T U : List Nat} {w w' : World} {x : GRule} {a b : Hd} (h : RuleAt d (sans w T) w.heap.size x a b) (ho : Out S w w') (hT : ∀ b ∈ S, b < w.heap.size → b ∈ T) (hU : ∀ b ∈ U, b < w.heap.size → b ∈ T) : RuleAt d (sans w' U) w'.heap.size x a b := h.mono' ho.size (ho.kept hT hU)
theorem RuleAt.ons {d : Nat} {T : List Nat} {w w' : World} {x : GRule} {a b : Hd} (h : RuleAt d (sans w T) w.heap.size x a b) (hb : Below w.heap.size w w') : RuleAt d (sans w' T) w'.heap.size x a b := h.outs (Out.of_below hb T) (fun _ hb _ => hb) (fun _ hb _ => hb)
theorem RuleAt.zero (w : World) (B : Nat) : RuleAt 0 w B zeroRule ⟨none, 0, 0⟩ ⟨none, 0, 0⟩ := ⟨by decide, SliceIs.nil, f_lit0, f_lit0, SliceIs.nil, f_lit0⟩
structure WhR (w : World) (g ob : Nat) (A : Option Addr) (c : Nat) (T : List GTok) (E : Nat) (A1 : Option Addr) (k1 c1 : Nat) (A2 : Option Addr) (k2 c2 : Nat) (y : GRule) (d : Nat) (s : PS) (V : World) : Prop where
  rd : Rd (g + 1) g A c T E s V
  nn : V.heap[w.heap.size + 1]? = some (.cells #[.string ⟨#[]⟩, .slice none 0 0, .int .i64 0, .int .i64 0, .slice none 0 0, .int .i64 0] 27 (0, 0))
  rr : V.heap[w.heap.size]? = some (.cells #[.string ⟨#[]⟩, .slice none 0 0, .int .i64 0, .int .i64 0, .slice none 0 0, .int .i64 0] 27 (0, 0))
  ob : V.heap[ob]? = some (.cells #[.string y.head.rel, .slice A1 k1 c1, .int .i64 y.agg, .int .i64 y.col, .slice A2 k2 c2, .int .i64 y.pos] 27 (0, 0))
  below : Below w.heap.size w V
  da : RuleAt d (sans V (List.range (g + 1))) V.heap.size y ⟨A1, k1, c1⟩ ⟨A2, k2, c2⟩
theorem WhR.go {w : World} {g ob : Nat} {A : Option Addr} {c : Nat} {T : List GTok} {E : Nat} {A1 : Option Addr} {k1 c1 : Nat} {A2 : Option Addr} {k2 c2 : Nat} {y : GRule} {d : Nat} {s s' : PS} {V V' : World} (hg : w.heap.size + 2 ≤ g) (hob : g < ob) (h : WhR w g ob A c T E A1 k1 c1 A2 k2 c2 y d s V) (hr : Rd (g + 1) g A c T E s' V') (ho : Out [g] V V') : WhR w g ob A c T E A1 k1 c1 A2 k2 c2 y d s' V' :=
  ⟨hr, (ho.block _ (Array.getElem?_eq_some_iff.1 h.nn).1 (by simp; omega)).trans h.nn, (ho.block _ (Array.getElem?_eq_some_iff.1 h.rr).1 (by simp; omega)).trans h.rr, (ho.block _ (Array.getElem?_eq_some_iff.1 h.ob).1 (by simp; omega)).trans h.ob,
    h.below.trans (ho.below (fun b hb => by simp at hb; omega) h.below.size), h.da.outs ho (fun b hb _ => by simp at hb; simp; omega) (fun _ h _ => h)⟩
theorem WhR.on {w : World} {g ob : Nat} {A : Option Addr} {c : Nat} {T : List GTok} {E : Nat} {A1 : Option Addr} {k1 c1 : Nat} {A2 : Option Addr} {k2 c2 : Nat} {y : GRule} {d : Nat} {s : PS} {V V' : World} (hg : w.heap.size + 2 ≤ g) (hob : g < ob) (h : WhR w g ob A c T E A1 k1 c1 A2 k2 c2 y d s V) (hb : Below V.heap.size V V') : WhR w g ob A c T E A1 k1 c1 A2 k2 c2 y d s V' :=
  h.go hg hob (h.rd.on hb) (Out.of_below hb _)
theorem WhR.fin {w : World} {g ob : Nat} {A : Option Addr} {c : Nat} {T : List GTok} {E : Nat} {A1 : Option Addr} {k1 c1 : Nat} {A2 : Option Addr} {k2 c2 : Nat} {y : GRule} {d : Nat} {s : PS} {V V' : World} (hg : w.heap.size + 2 ≤ g) (h : WhR w g ob A c T E A1 k1 c1 A2 k2 c2 y d s V) (ho : Out [w.heap.size] V V') : Below w.heap.size w V' ∧ RuleAt d (sans V' (List.range w.heap.size)) V'.heap.size y ⟨A1, k1, c1⟩ ⟨A2, k2, c2⟩ :=
  ⟨h.below.trans (ho.below (fun b hb => by simp at hb; omega) h.below.size), h.da.outs ho (fun b hb _ => by simp at hb; simp; omega) (fun b hb _ => by simp at hb; simp; omega)⟩
theorem wholeRule_any (s : ByteArray) (hs : s.size ≤ 140737488351232) (w : World) (hW : ParW w) : Calls Tryz.prog 53 #[.string s, .func (.func 54) #[] #[]] w (WholeRuleRes s w) := by
  have HW := Lib.hid hW
  obtain ⟨P, HP⟩ : ∃ P : Ending → World → Prop, Hid (P = WholeRuleRes s w) := ⟨_, rfl⟩
  rw [← HP.out]
  have HLs := Lib.hid (fun (V : World) (hV : ParW V) => list_any s hs V hV.lex)
  have Hlen := Lib.hid (ba_len s)
  have HE : Hid (∀ (V : World) (at_ : Nat) (er : Int), Below w.heap.size w V → readP s.toList = (zeroRule, at_, er) → P (.returned (.tuple #[.agg #[.string ⟨#[]⟩, .slice none 0 0, .int .i64 0, .int .i64 0, .slice none 0 0, .int .i64 0], .int .i64 at_, parErr er])) V) := fun V at_ er hb hp => by
    rw [HP.out]
    refine ⟨hb, 0, ⟨none, 0, 0⟩, ⟨none, 0, 0⟩, by rw [hp]; rfl, ?_⟩
    rw [hp]; exact RuleAt.zero _ _
  clear hW
  go_enter Tryz.func53, Tryz.ntmps53
  go_wp2_with fail
  have hb0 : Below w.heap.size w ((w.alloc (.cells #[.string ⟨#[]⟩, .slice none 0 0, .int .i64 0, .int .i64 0, .slice none 0 0, .int .i64 0] 27)).alloc (.cells #[.string ⟨#[]⟩, .slice none 0 0, .int .i64 0, .int .i64 0, .slice none 0 0, .int .i64 0] 27)) := belowA (belowA (Below.refl _ _) _) _
  have hr0 : ((w.alloc (.cells #[.string ⟨#[]⟩, .slice none 0 0, .int .i64 0, .int .i64 0, .slice none 0 0, .int .i64 0] 27)).alloc (.cells #[.string ⟨#[]⟩, .slice none 0 0, .int .i64 0, .int .i64 0, .slice none 0 0, .int .i64 0] 27)).heap[w.heap.size]? = some (.cells #[.string ⟨#[]⟩, .slice none 0 0, .int .i64 0, .int .i64 0, .slice none 0 0, .int .i64 0] 27 (0, 0)) := ((belowA (Below.refl _ (w.alloc (.cells #[.string ⟨#[]⟩, .slice none 0 0, .int .i64 0, .int .i64 0, .slice none 0 0, .int .i64 0] 27))) _).block _ (by rw [World.size_alloc]; omega)).trans (heapNew rfl)
  have hn0 : ((w.alloc (.cells #[.string ⟨#[]⟩, .slice none 0 0, .int .i64 0, .int .i64 0, .slice none 0 0, .int .i64 0] 27)).alloc (.cells #[.string ⟨#[]⟩, .slice none 0 0, .int .i64 0, .int .i64 0, .slice none 0 0, .int .i64 0] 27)).heap[w.heap.size + 1]? = some (.cells #[.string ⟨#[]⟩, .slice none 0 0, .int .i64 0, .int .i64 0, .slice none 0 0, .int .i64 0] 27 (0, 0)) := heapNew (by rw [World.size_alloc])
  refine (HLs.out _ (HW.out.on hb0)).mono ?_
  rintro e w1 ⟨hb, hcase⟩
  have hz0 : ((w.alloc (.cells #[.string ⟨#[]⟩, .slice none 0 0, .int .i64 0, .int .i64 0, .slice none 0 0, .int .i64 0] 27)).alloc (.cells #[.string ⟨#[]⟩, .slice none 0 0, .int .i64 0, .int .i64 0, .slice none 0 0, .int .i64 0] 27)).heap.size = w.heap.size + 2 := by simp
  have hz1 := hb.size
  rw [hz0] at hz1
  replace hr0 := (hb.block w.heap.size (by omega)).trans hr0
  replace hn0 := (hb.block (w.heap.size + 1) (by omega)).trans hn0
  have hb1 : Below w.heap.size w w1 := Below.trans hb0 (hb.mono (by omega))
  clear hb hb0 hz0 HLs
  obtain ⟨r0, r1, r2, r3, r4, r5⟩ := facts6 hr0
  obtain ⟨n0, n1, n2, n3, n4, n5⟩ := facts6 hn0
  have rf := froz4 hr0
  have Hb1 := Lib.hid hb1
  have Hr0 := Lib.hid hr0
  have Hn0 := Lib.hid hn0
  clear hr0 hn0 hb1
  rcases hcase with ⟨h4, rfl⟩ | ⟨h4, ⟨p, hp, rfl⟩ | ⟨hn, A, c, rfl, ht⟩⟩
  · have hl : 4000 < s.toList.length := by rw [Hlen.out]; exact h4
    have HX : Hid (∀ V, Below w.heap.size w V → P (.returned (.tuple #[.agg #[.string ⟨#[]⟩, .slice none 0 0, .int .i64 0, .int .i64 0, .slice none 0 0, .int .i64 0], .int .i64 4000, .iface 115 (.int .i64 3)])) V) := fun V hb => HE.out V 4000 3 hb (by unfold readP wholeP; rw [if_pos hl])
    clear HE HP hl h4
    go_wp2_with fail
    exact bodyPost_ret (v := .tuple #[.agg #[.string ⟨#[]⟩, .slice none 0 0, .int .i64 0, .int .i64 0, .slice none 0 0, .int .i64 0], .int .i64 4000, .iface 115 (.int .i64 3)]) (by simp [results, Tryz.results53, go_sem, r0, r1, r2, r3, r4, r5]) rfl (HX.out _ (belowS (belowS (belowS (belowS (belowS (belowS Hb1.out _ _ (Nat.le_refl _) _) _ _ (Nat.le_refl _) _) _ _ (Nat.le_refl _) _) _ _ (Nat.le_refl _) _) _ _ (Nat.le_refl _) _) _ _ (Nat.le_refl _) _))
  · have hl : ¬ 4000 < s.toList.length := by rw [Hlen.out]; omega
    have HX : Hid (∀ V, Below w.heap.size w V → P (.returned (.tuple #[.agg #[.string ⟨#[]⟩, .slice none 0 0, .int .i64 0, .int .i64 0, .slice none 0 0, .int .i64 0], .int .i64 p, .iface 115 (.int .i64 2)])) V) := fun V hb => HE.out V p 2 hb (by unfold readP wholeP; rw [if_neg hl, hp])
    clear HE HP hl h4 hp
    go_wp2_with fail
    exact bodyPost_ret (v := .tuple #[.agg #[.string ⟨#[]⟩, .slice none 0 0, .int .i64 0, .int .i64 0, .slice none 0 0, .int .i64 0], .int .i64 p, .iface 115 (.int .i64 2)]) (by simp [results, Tryz.results53, go_sem, r0, r1, r2, r3, r4, r5]) rfl (HX.out _ (belowS (belowS (belowS (belowS (belowS (belowS Hb1.out _ _ (Nat.le_refl _) _) _ _ (Nat.le_refl _) _) _ _ (Nat.le_refl _) _) _ _ (Nat.le_refl _) _) _ _ (Nat.le_refl _) _) _ _ (Nat.le_refl _) _))
  · have hl : ¬ 4000 < s.toList.length := by rw [Hlen.out]; omega
    have hTl := (lex_len (wk := wordK) _ 0 s.toList (Nat.le_refl _)).2
    replace hTl : (lexS s.toList).1.length ≤ s.size := by rw [← Hlen.out]; exact hTl
    have hTk := toks_of (l := s.toList) (by omega)
    rw [Hlen.out] at hTk
    have HRd := Lib.hid (Rd.begin (HW.out.on Hb1.out) ht hTk h4 (Nat.le_trans hTl h4))
    have HPs : Hid (readP s.toList = if (lastP (lexS s.toList).1 s.size (ruleP (lexS s.toList).1 s.size ps0).1).err = 0 then ((ruleP (lexS s.toList).1 s.size ps0).2, 0, 0) else (zeroRule, (lastP (lexS s.toList).1 s.size (ruleP (lexS s.toList).1 s.size ps0).1).pl, (lastP (lexS s.toList).1 s.size (ruleP (lexS s.toList).1 s.size ps0).1).err)) := by
      show _ = _
      unfold readP wholeP
      rw [if_neg hl, hn]
      dsimp only
      rw [Hlen.out]
    generalize (lexS s.toList).1 = T at *
    have HPg := Lib.hid (rrule_any HRd.out rfl)
    generalize ruleP T s.size ps0 = y at *
    have HE2 : Hid (∀ (V : World) (d : Nat) (a b : Hd), (lastP T s.size y.1).err = 0 → Below w.heap.size w V → RuleAt d (sans V (List.range w.heap.size)) V.heap.size y.2 a b → P (.returned (.tuple #[.agg (ruleC y.2 a b).toArray, .int .i64 0, .nilIface])) V) := fun V d a b h0 hb h1 => by
      rw [HP.out]
      refine ⟨hb, d, a, b, ?_, ?_⟩
      · rw [HPs.out, if_pos h0]; rfl
      · rw [HPs.out, if_pos h0]; exact h1
    have HE3 : Hid (∀ (V : World), (lastP T s.size y.1).err ≠ 0 → Below w.heap.size w V → P (.returned (.tuple #[.agg #[.string ⟨#[]⟩, .slice none 0 0, .int .i64 0, .int .i64 0, .slice none 0 0, .int .i64 0], .int .i64 (lastP T s.size y.1).pl, .iface 115 (.int .i64 (lastP T s.size y.1).err)])) V) := fun V h0 hb => by
      have h := HE.out V (lastP T s.size y.1).pl (lastP T s.size y.1).err hb (by rw [HPs.out, if_neg h0])
      unfold parErr at h
      rw [if_neg h0] at h
      exact h
    clear HE HP HPs hl hTl hTk ht hn HW
    go_wp2_with fail
    refine HPg.out.mono ?_
    rintro e w2 ⟨d, ⟨A1, k1, c1⟩, ⟨A2, k2, c2⟩, rfl, hr2, ho2, ha⟩
    dsimp only [Hd.v] at *
    have hz2 := ho2.size
    rw [World.size_alloc] at hz2
    have HR2 := Lib.hid hr2
    have HO2 := Lib.hid ho2
    have Ha := Lib.hid ha
    have HN2 := Lib.hid ((ho2.block (w.heap.size + 1) (by rw [World.size_alloc]; omega) (by simp; omega)).trans (heapOld Hn0.out))
    have HRR2 := Lib.hid ((ho2.block w.heap.size (by rw [World.size_alloc]; omega) (by simp; omega)).trans (heapOld Hr0.out))
    clear hr2 ho2 ha HPg HRd r0 r1 r2 r3 r4 r5 n0 n1 n2 n3 n4 n5 rf
    go_wp2_with fail
    --TAIL
    have hg2 : w.heap.size + 2 ≤ w1.heap.size := hz1
    have hob2 : w1.heap.size < w2.heap.size := by omega
    have ha2 := Ha.out
    rw [World.size_alloc] at ha2
    have hJ : WhR w w1.heap.size w2.heap.size A c T s.size A1 k1 c1 A2 k2 c2 y.2 d y.1 (w2.alloc (.cells #[.string y.2.head.rel, .slice A1 k1 c1, .int .i64 y.2.agg, .int .i64 y.2.col, .slice A2 k2 c2, .int .i64 y.2.pos] 27)) :=
      ⟨HR2.out.on (belowA (Below.refl _ _) _), heapOld HN2.out, heapOld HRR2.out, heapNew rfl, ((Hb1.out.alloc Hb1.out.size _).trans (HO2.out.below (fun b hb => by simp at hb; have := Hb1.out.size; omega) (by rw [World.size_alloc]; have := Hb1.out.size; omega))).alloc (by have := Hb1.out.size; omega) _, ha2.ons (belowA (Below.refl _ _) _)⟩
    have HJ := Lib.hid hJ
    clear hJ ha2 HR2 HO2 Ha HN2 HRR2 Hr0 Hn0 Hb1
    generalize w2.alloc (.cells #[.string y.2.head.rel, .slice A1 k1 c1, .int .i64 y.2.agg, .int .i64 y.2.col, .slice A2 k2 c2, .int .i64 y.2.pos] 27) = w3 at *
    obtain ⟨c0, c1', c2', c3, c4, c5⟩ := HJ.out.rd.cells
    obtain ⟨s2, Hs2⟩ : ∃ s2, Hid (s2 = lastP T s.size y.1) := ⟨_, rfl⟩
    rw [← Hs2.out] at HE2 HE3
    by_cases hlt : y.1.next < T.length
    · have i1 : (y.1.next : Int) < (T.length : Int) := by omega
      have HPl := Lib.hid (fun (V : World) (hR : Rd (w1.heap.size + 1) w1.heap.size A c T s.size y.1 V) => rplace_any hR)
      have HFl := Lib.hid (fun (V : World) (hR : Rd (w1.heap.size + 1) w1.heap.size A c T s.size y.1 V) => rfail_any hR (peekP T s.size y.1 0).a (peek_le hR.within _ _) 2 (by omega))
      have hl2 : failP T y.1 (peekP T s.size y.1 0).a 2 = s2 := by rw [Hs2.out]; unfold lastP; rw [if_pos hlt]
      rw [hl2] at HFl
      clear hl2 Hs2
      go_quiet (fail)
      go_wp2_with fail
      refine (HPl.out _ (HJ.out.rd.on (below_drewN _ _ _))).mono ?_
      rintro e w5 ⟨rfl, hb5⟩
      have HJ5 := Lib.hid ((HJ.out.on hg2 hob2 (below_drewN _ _ _)).on hg2 hob2 hb5)
      clear hb5 HPl HJ c0 c1' c2' c3 c4 c5
      go_wp2_with fail
      refine (HFl.out _ HJ5.out.rd).mono ?_
      rintro e w6 ⟨rfl, hr6, ho6⟩
      have HJz := Lib.hid (HJ5.out.go hg2 hob2 hr6 ho6)
      clear hr6 ho6 HFl HJ5 i1 hlt
      obtain ⟨c0, -, -, -, c4, c5⟩ := HJz.out.rd.cells
      obtain ⟨n0, n1, n2, n3, n4, n5⟩ := facts6 HJz.out.nn
      obtain ⟨r0, r1, r2, r3, r4, r5⟩ := facts6 HJz.out.rr
      obtain ⟨o0, o1, o2, o3, o4, o5⟩ := facts6 HJz.out.ob
      have rf := froz4 HJz.out.rr
      by_cases he : s2.err = 0
      · have e0 : (s2.err == 0) = true := by simp [he]
        go_wp2_with fail
        obtain ⟨f1, f2⟩ := WhR.fin hg2 HJz.out (set6_out _ w.heap.size (.string y.2.head.rel) (.slice A1 k1 c1) (.int .i64 y.2.agg) (.int .i64 y.2.col) (.slice A2 k2 c2) (.int .i64 y.2.pos))
        exact bodyPost_ret (v := .tuple #[.agg #[.string y.2.head.rel, .slice A1 k1 c1, .int .i64 y.2.agg, .int .i64 y.2.col, .slice A2 k2 c2, .int .i64 y.2.pos], .int .i64 0, .nilIface]) (by simp [results, Tryz.results53, go_sem, r0, r1, r2, r3, r4, r5]) rfl (HE2.out _ d ⟨A1, k1, c1⟩ ⟨A2, k2, c2⟩ he f1 f2)
      · have e0 : (s2.err == 0) = false := by simp [he]
        go_wp2_with fail
        go_region_with (fail)
        all_goals
          go_wp2_with fail
          refine bodyPost_ret (v := .tuple #[.agg #[.string ⟨#[]⟩, .slice none 0 0, .int .i64 0, .int .i64 0, .slice none 0 0, .int .i64 0], .int .i64 s2.pl, .iface 115 (.int .i64 s2.err)]) (by simp [results, Tryz.results53, go_sem, Act.put, r0, r1, r2, r3, r4, r5]) rfl (HE3.out _ he (belowS (belowS (belowS (belowS (belowS (belowS HJz.out.below _ _ (Nat.le_refl _) _) _ _ (Nat.le_refl _) _) _ _ (Nat.le_refl _) _) _ _ (Nat.le_refl _) _) _ _ (Nat.le_refl _) _) _ _ (Nat.le_refl _) _).drew)
    · have i1 : ¬ (y.1.next : Int) < (T.length : Int) := by omega
      have hl2 : s2 = y.1 := by rw [Hs2.out]; unfold lastP; rw [if_neg hlt]
      clear Hs2
      go_quiet (fail)
      have HJz := Lib.hid (HJ.out.on hg2 hob2 (below_drewN w3 nq _))
      generalize w3.drewN nq = w4 at *
      rw [← hl2] at HJz
      clear HJ c0 c1' c2' c3 c4 c5 hl2
      obtain ⟨c0, -, -, -, c4, c5⟩ := HJz.out.rd.cells
      obtain ⟨n0, n1, n2, n3, n4, n5⟩ := facts6 HJz.out.nn
      obtain ⟨r0, r1, r2, r3, r4, r5⟩ := facts6 HJz.out.rr
      obtain ⟨o0, o1, o2, o3, o4, o5⟩ := facts6 HJz.out.ob
      have rf := froz4 HJz.out.rr
      by_cases he : s2.err = 0
      · have e0 : (s2.err == 0) = true := by simp [he]
        go_wp2_with fail
        obtain ⟨f1, f2⟩ := WhR.fin hg2 HJz.out (set6_out _ w.heap.size (.string y.2.head.rel) (.slice A1 k1 c1) (.int .i64 y.2.agg) (.int .i64 y.2.col) (.slice A2 k2 c2) (.int .i64 y.2.pos))
        exact bodyPost_ret (v := .tuple #[.agg #[.string y.2.head.rel, .slice A1 k1 c1, .int .i64 y.2.agg, .int .i64 y.2.col, .slice A2 k2 c2, .int .i64 y.2.pos], .int .i64 0, .nilIface]) (by simp [results, Tryz.results53, go_sem, r0, r1, r2, r3, r4, r5]) rfl (HE2.out _ d ⟨A1, k1, c1⟩ ⟨A2, k2, c2⟩ he f1 f2)
      · have e0 : (s2.err == 0) = false := by simp [he]
        go_wp2_with fail
        go_region_with (fail)
        all_goals
          go_wp2_with fail
          refine bodyPost_ret (v := .tuple #[.agg #[.string ⟨#[]⟩, .slice none 0 0, .int .i64 0, .int .i64 0, .slice none 0 0, .int .i64 0], .int .i64 s2.pl, .iface 115 (.int .i64 s2.err)]) (by simp [results, Tryz.results53, go_sem, Act.put, r0, r1, r2, r3, r4, r5]) rfl (HE3.out _ he (belowS (belowS (belowS (belowS (belowS (belowS HJz.out.below _ _ (Nat.le_refl _) _) _ _ (Nat.le_refl _) _) _ _ (Nat.le_refl _) _) _ _ (Nat.le_refl _) _) _ _ (Nat.le_refl _) _) _ _ (Nat.le_refl _) _).drew)
theorem readRule_any (s : ByteArray) (hs : s.size ≤ 140737488351232) (w : World) (hW : ParW w) : Calls Tryz.prog 25 #[.string s] w (WholeRuleRes s w) := by
  obtain ⟨P, HP⟩ : ∃ P : Ending → World → Prop, Hid (P = WholeRuleRes s w) := ⟨_, rfl⟩
  rw [← HP.out]
  have HC := Lib.hid (fun (V : World) (hV : ParW V) => wholeRule_any s hs V hV)
  have HW := Lib.hid hW
  clear hW
  go_enter Tryz.func25, Tryz.ntmps25
  go_wp2_with fail
  refine (HC.out _ (HW.out.on (belowA (Below.refl _ _) _))).mono ?_
  obtain ⟨y, Hy⟩ : ∃ y, Hid (y = (readP s.toList).1) := ⟨_, rfl⟩
  rintro e w1 ⟨hb, d, ⟨A1, k1, c1⟩, ⟨A2, k2, c2⟩, rfl, ha⟩
  rw [← Hy.out] at ha ⊢
  dsimp only [Hd.v] at *
  have hr := (hb.block w.heap.size (by rw [World.size_alloc]; omega)).trans (heapNew rfl)
  have hb1 : Below w.heap.size w w1 := (belowA (Below.refl _ _) _).trans (hb.mono (by rw [World.size_alloc]; omega))
  obtain ⟨r0, r1, r2, r3, r4, r5⟩ := facts6 hr
  have rf := froz4 hr
  have HE : Hid (P (.returned (.tuple #[.agg #[.string y.head.rel, .slice A1 k1 c1, .int .i64 y.agg, .int .i64 y.col, .slice A2 k2 c2, .int .i64 y.pos], .int .i64 (readP s.toList).2.1, parErr (readP s.toList).2.2])) ((((((w1.setCell ⟨w.heap.size, 0, none⟩ (.string y.head.rel)).setCell ⟨w.heap.size, 1, none⟩ (.slice A1 k1 c1)).setCell ⟨w.heap.size, 2, none⟩ (.int .i64 y.agg)).setCell ⟨w.heap.size, 3, none⟩ (.int .i64 y.col)).setCell ⟨w.heap.size, 4, none⟩ (.slice A2 k2 c2)).setCell ⟨w.heap.size, 5, none⟩ (.int .i64 y.pos))) := by
    show P _ _
    rw [HP.out, Hy.out]
    rw [Hy.out] at ha
    have ho := set6_out w1 w.heap.size (.string (readP s.toList).1.head.rel) (.slice A1 k1 c1) (.int .i64 (readP s.toList).1.agg) (.int .i64 (readP s.toList).1.col) (.slice A2 k2 c2) (.int .i64 (readP s.toList).1.pos)
    rw [World.size_alloc] at ha
    exact ⟨belowS (belowS (belowS (belowS (belowS (belowS hb1 _ _ (Nat.le_refl _) _) _ _ (Nat.le_refl _) _) _ _ (Nat.le_refl _) _) _ _ (Nat.le_refl _) _) _ _ (Nat.le_refl _) _) _ _ (Nat.le_refl _) _, d, ⟨A1, k1, c1⟩, ⟨A2, k2, c2⟩, rfl, ha.outs ho (fun b hb _ => by simp at hb; simp; omega) (fun b hb _ => by simp at hb; simp; omega)⟩
  clear HP HC HW ha hb hb1 hr
  generalize parErr (readP s.toList).2.2 = ev at *
  go_wp2_with fail
  exact bodyPost_ret (v := .tuple #[.agg #[.string y.head.rel, .slice A1 k1 c1, .int .i64 y.agg, .int .i64 y.col, .slice A2 k2 c2, .int .i64 y.pos], .int .i64 (readP s.toList).2.1, ev]) (by simp [results, Tryz.results25, go_sem, r0, r1, r2, r3, r4, r5]) rfl HE.out
end Go.Proofs.YtfklheagafffmaaGreatDoor
