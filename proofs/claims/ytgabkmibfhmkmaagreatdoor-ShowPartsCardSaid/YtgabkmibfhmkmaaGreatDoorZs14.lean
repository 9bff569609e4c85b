/- My own texts TEvL, TRule, ShowR, TRefE, as far as this claim needs them. -/
import Derived.Test.YtgabkmibfhmkmaaGreatDoorZs5
import Derived.Test.YtgabkmibfhmkmaaGreatDoorZs13
set_option linter.unusedVariables false
set_option linter.unusedSimpArgs false
namespace Go.Proofs.YtgabkmibfhmkmaaGreatDoor
open Go.RowKit
set_option maxRecDepth 100000 in
set_option maxHeartbeats 1000000 in
theorem ev1L_any (x : GLit) (a p q : Hd) (g : Nat) (w : World) (hg : w.cell? ⟨g, 0, none⟩ = some (.func (.func 111) #[] #[])) (HC : Hid (∀ W, Below w.heap.size w W → Calls Tryz.prog 111 #[.agg #[.int .i64 x.k, .string x.atom.rel, a.v, .int .i64 x.op, .int .i64 x.l.op, .string x.l.t.x, .int .i64 x.l.t.v.k, .int .i64 x.l.t.v.n, .string x.l.t.v.s, p.v, .int .i64 x.r.op, .string x.r.t.x, .int .i64 x.r.t.v.k, .int .i64 x.r.t.v.n, .string x.r.t.v.s, q.v, .int .i64 x.pos]] W (RetBool (rightLit x) W))) :
    Calls Tryz.prog 221 #[.agg #[.int .i64 x.k, .string x.atom.rel, a.v, .int .i64 x.op, .int .i64 x.l.op, .string x.l.t.x, .int .i64 x.l.t.v.k, .int .i64 x.l.t.v.n, .string x.l.t.v.s, p.v, .int .i64 x.r.op, .string x.r.t.x, .int .i64 x.r.t.v.k, .int .i64 x.r.t.v.n, .string x.r.t.v.s, q.v, .int .i64 x.pos], .pointer (some ⟨g, 0, none⟩)] w (RetBool (!rightLit x) w) := by
  have hrb : (w.alloc (.cells #[.int .i64 x.k, .string x.atom.rel, a.v, .int .i64 x.op, .int .i64 x.l.op, .string x.l.t.x, .int .i64 x.l.t.v.k, .int .i64 x.l.t.v.n, .string x.l.t.v.s, p.v, .int .i64 x.r.op, .string x.r.t.x, .int .i64 x.r.t.v.k, .int .i64 x.r.t.v.n, .string x.r.t.v.s, q.v, .int .i64 x.pos] 35)).heap[w.heap.size]? = some (.cells #[.int .i64 x.k, .string x.atom.rel, a.v, .int .i64 x.op, .int .i64 x.l.op, .string x.l.t.x, .int .i64 x.l.t.v.k, .int .i64 x.l.t.v.n, .string x.l.t.v.s, p.v, .int .i64 x.r.op, .string x.r.t.x, .int .i64 x.r.t.v.k, .int .i64 x.r.t.v.n, .string x.r.t.v.s, q.v, .int .i64 x.pos] 35 (0, 0)) := heapNew rfl
  obtain ⟨b0, b1, b2, b3, b4, b5, b6, b7, b8, b9, b10, b11, b12, b13, b14, b15, b16⟩ := facts17 hrb
  have cg : (w.alloc (.cells #[.int .i64 x.k, .string x.atom.rel, a.v, .int .i64 x.op, .int .i64 x.l.op, .string x.l.t.x, .int .i64 x.l.t.v.k, .int .i64 x.l.t.v.n, .string x.l.t.v.s, p.v, .int .i64 x.r.op, .string x.r.t.x, .int .i64 x.r.t.v.k, .int .i64 x.r.t.v.n, .string x.r.t.v.s, q.v, .int .i64 x.pos] 35)).cell? ⟨g, 0, none⟩ = some (.func (.func 111) #[] #[]) := cellA hg
  clear hrb hg
  generalize rightLit x = B at *
  go_enter Tryz.func221, Tryz.ntmps221
  go_wp2_with fail
  refine (HC.out _ (by first | exact Below.refl _ _ | exact belowA (Below.refl _ _) _)).mono ?_
  rintro e w1 ⟨rfl, hb⟩
  have Hb := Lib.hid hb
  clear hb
  go_wp2_with fail
  go_ret
  exact ⟨rfl, below_next (belowA (Below.refl _ _) _) Hb.out⟩
set_option maxRecDepth 100000 in
set_option maxHeartbeats 1000000 in
theorem evIL_any (d : Nat) (A : Option Addr) (n c : Nat) (l : List GLit) (g : Nat) (w : World) (hl : SliceIs (Enc.lit d) w w.heap.size A n c l) (hg : w.cell? ⟨g, 0, none⟩ = some (.func (.func 111) #[] #[]))
    (HC : Hid (∀ (x : GLit) (a p q : Hd) W, LitAt d W W.heap.size x a p q → Below w.heap.size w W → Calls Tryz.prog 111 #[.agg #[.int .i64 x.k, .string x.atom.rel, a.v, .int .i64 x.op, .int .i64 x.l.op, .string x.l.t.x, .int .i64 x.l.t.v.k, .int .i64 x.l.t.v.n, .string x.l.t.v.s, p.v, .int .i64 x.r.op, .string x.r.t.x, .int .i64 x.r.t.v.k, .int .i64 x.r.t.v.n, .string x.r.t.v.s, q.v, .int .i64 x.pos]] W (RetBool (rightLit x) W))) :
    Calls Tryz.prog 274 #[.slice A n c, .func (.func 221) #[] #[.pointer (some ⟨g, 0, none⟩)]] w (fun e w' => ∃ k : Int, e = .returned (.int .i64 k) ∧ decide (0 ≤ k) = !(l.all rightLit) ∧ Below w.heap.size w w') := by
  have hn := hl.bound
  have HL := Lib.hid hl
  have hlen := Lib.hid hl.1
  have Hg := Lib.hid hg
  clear hl hg
  go_enter Tryz.func274, Tryz.ntmps274
  go_wp2_with fail
  go_loopw [5, 8] (fun _ i wr => ∃ k : Nat, k ≤ n ∧ i = .int .i64 k ∧ Hid ((l.take k).all rightLit = true) ∧ Below w.heap.size w wr) (fun _ i _ => n - (intOf i).toNat)
  case atStart => exact ⟨0, by omega, rfl, by simp [Hid], Below.refl _ _⟩
  case round =>
    obtain ⟨k, hk, rfl, hpre, hbr⟩ := hrel
    by_cases hlt : k < n
    · have HLr := (HL.out.below hbr)
      obtain ⟨b, o, x, a, p, q, rfl, hbb, hx, hat, z0, z1, z2, z3, z4, z5, z6, z7, z8, z9, z10, z11, z12, z13, z14, z15, z16⟩ := HLr.lit_at hlt
      have hokx : LitAt d wr wr.heap.size x a p q := hat.mono' hbr.size (Kept.of fun _ _ => rfl)
      have C := Lib.hid (ev1L_any x a p q g wr (below_cell hbr Hg.out) (fun W hW => HC.out x a p q W (hokx.keep hW) (below_next hbr hW)))
      have i0 : (0 : Int) ≤ (k : Int) := by omega
      have i1 : (k : Int) < (n : Int) := by omega
      have HT : Hid ((l.take (k + 1)).all rightLit = rightLit x) := by
        show _ = _
        obtain ⟨g1, g2⟩ := List.getElem?_eq_some_iff.1 hx.out
        rw [List.take_succ_eq_append_getElem g1, g2, List.all_append, hpre.out]; simp
      have HF : Hid (rightLit x = false → l.all rightLit = false) := fun h => by
        rw [List.all_eq_false]
        exact ⟨x, List.mem_of_getElem? hx.out, by simp [h]⟩
      clear HLr hokx
      generalize rightLit x = B at *
      cases B with
      | true =>
        clear HF
        go_wp2_with fail
        refine C.out.mono ?_
        rintro e w1 ⟨rfl, hb⟩
        have Hb := Lib.hid hb
        clear hb
        go_wp2_with fail
        go_roundw
        case rel => exact ⟨k + 1, by omega, by go_num, HT, below_next hbr Hb.out⟩
        case measure => simp [intOf]; omega
      | false =>
        have HF' : Hid (l.all rightLit = false) := HF.out rfl
        clear HF
        go_wp2_with fail
        refine C.out.mono ?_
        rintro e w1 ⟨rfl, hb⟩
        have Hb := Lib.hid hb
        clear hb
        go_wp2_with fail
        go_ret
        exact ⟨_, rfl, by rw [HF'.out]; simp, below_next hbr Hb.out⟩
    · have i1 : ¬ (k : Int) < (n : Int) := by omega
      have HA : Hid (l.all rightLit = true) := by
        show _ = _
        have h := hpre.out
        rw [List.take_of_length_le (by have := hlen.out; omega)] at h
        exact h
      go_wp2_with fail
      go_ret
      exact ⟨_, rfl, by rw [HA.out]; rfl, hbr⟩
set_option maxRecDepth 100000 in
set_option maxHeartbeats 1000000 in
theorem everyL_any (d : Nat) (A : Option Addr) (n c : Nat) (l : List GLit) (w : World) (hl : SliceIs (Enc.lit d) w w.heap.size A n c l)
    (HC : Hid (∀ (x : GLit) (a p q : Hd) W, LitAt d W W.heap.size x a p q → Below w.heap.size w W → Calls Tryz.prog 111 #[.agg #[.int .i64 x.k, .string x.atom.rel, a.v, .int .i64 x.op, .int .i64 x.l.op, .string x.l.t.x, .int .i64 x.l.t.v.k, .int .i64 x.l.t.v.n, .string x.l.t.v.s, p.v, .int .i64 x.r.op, .string x.r.t.x, .int .i64 x.r.t.v.k, .int .i64 x.r.t.v.n, .string x.r.t.v.s, q.v, .int .i64 x.pos]] W (RetBool (rightLit x) W))) :
    Calls Tryz.prog 145 #[.slice A n c, .func (.func 111) #[] #[]] w (RetBool (l.all rightLit) w) := by
  have hba : Below w.heap.size w (w.alloc (.cells #[.func (.func 111) #[] #[]] 178)) := belowA (Below.refl _ _) _
  have C := Lib.hid (evIL_any d A n c l w.heap.size (w.alloc (.cells #[.func (.func 111) #[] #[]] 178)) (hl.keep hba) ((cell_of_row _ _ 0 _ _ _ (heapNew rfl)).trans rfl) (fun x a p q W h hW => HC.out x a p q W h (below_next hba hW)))
  generalize l.all rightLit = B at *
  clear hl HC
  have CC : Hid (Calls Tryz.prog 220 #[.slice A n c, .func (.func 221) #[] #[.pointer (some ⟨w.heap.size, 0, none⟩)]] (w.alloc (.cells #[.func (.func 111) #[] #[]] 178)) (RetBool (!B) (w.alloc (.cells #[.func (.func 111) #[] #[]] 178)))) := by
    show Calls _ _ _ _ _
    generalize w.alloc (.cells #[.func (.func 111) #[] #[]] 178) = wb at *
    go_enter Tryz.func220, Tryz.ntmps220
    go_wp2_with fail
    refine C.out.mono ?_
    rintro e w1 ⟨k, rfl, hk, hb⟩
    have Hb := Lib.hid hb
    have Hk := Lib.hid hk
    clear hb hk
    go_wp2_with fail
    go_ret
    exact ⟨by rw [← Hk.out]; rfl, Hb.out⟩
  clear C
  go_enter Tryz.func145, Tryz.ntmps145
  go_wp2_with fail
  refine CC.out.mono ?_
  rintro e w1 ⟨rfl, hb⟩
  have Hb := Lib.hid hb
  clear hb CC
  go_wp2_with fail
  go_ret
  exact ⟨by cases B <;> rfl, below_next hba Hb.out⟩
end Go.Proofs.YtgabkmibfhmkmaaGreatDoor

namespace Go.Proofs.YtgabkmibfhmkmaaGreatDoor
open Go.RowKit
def varAt (l : List GTold) (k : Nat) : Bool := match l[k]? with | some t => !decide (t.x.size = 0) | none => false
def aggB (x : GRule) : Bool := if x.agg = 0 then decide (x.col = 0) else decide (0 ≤ x.agg ∧ x.agg ≤ 4 ∧ 0 ≤ x.col) && varAt x.head.args x.col.toNat
set_option maxRecDepth 100000 in
set_option maxHeartbeats 2000000 in
theorem agg_any (x : GRule) (a m : Hd) (w : World) (hl : SliceIs Enc.told w w.heap.size a.A a.n a.c x.head.args) : Calls Tryz.prog 144 #[.agg #[.string x.head.rel, a.v, .int .i64 x.agg, .int .i64 x.col, m.v, .int .i64 x.pos]] w (RetBool (aggB x) w) := by
  obtain ⟨B, HB⟩ : ∃ B, Hid (B = aggB x) := ⟨_, rfl⟩
  rw [← HB.out]
  have hn := hl.bound
  have Hlen := Lib.hid hl.1
  have HL := Lib.hid hl
  clear hl
  by_cases h0 : x.agg = 0
  · have q0 : (x.agg == 0) = true := by simp [h0]
    have HE : Hid (B = decide (x.col = 0)) := by show _ = _; rw [HB.out]; unfold aggB; rw [if_pos h0]
    clear h0 HB
    by_cases h1 : x.col = 0
    · have q1 : (x.col == 0) = true := by simp [h1]
      rw [decide_eq_true h1] at HE
      clear h1
      go_enter Tryz.func144, Tryz.ntmps144
      go_wp2_with fail
      go_ret
      exact ⟨by rw [HE.out]; rfl, belowA (Below.refl _ _) _⟩
    · have q1 : (x.col == 0) = false := by simp [h1]
      rw [decide_eq_false h1] at HE
      clear h1
      go_enter Tryz.func144, Tryz.ntmps144
      go_wp2_with fail
      go_ret
      exact ⟨by rw [HE.out]; rfl, belowA (Below.refl _ _) _⟩
  have q0 : (x.agg == 0) = false := by simp [h0]
  have HE : Hid (B = (decide (0 ≤ x.agg ∧ x.agg ≤ 4 ∧ 0 ≤ x.col) && varAt x.head.args x.col.toNat)) := by show _ = _; rw [HB.out]; unfold aggB; rw [if_neg h0]
  clear h0 HB
  by_cases hb : 0 ≤ x.agg ∧ x.agg ≤ 4 ∧ 0 ≤ x.col ∧ x.col < (a.n : Int)
  rotate_left
  · have HE2 : Hid (B = false) := by
      show _ = _
      rw [HE.out]
      by_cases h1 : 0 ≤ x.agg ∧ x.agg ≤ 4 ∧ 0 ≤ x.col
      · have : varAt x.head.args x.col.toNat = false := by
          unfold varAt
          rw [List.getElem?_eq_none (by have := Hlen.out; omega)]
        rw [this]; simp
      · rw [decide_eq_false h1]; rfl
    have hd : x.agg < 0 ∨ (¬ x.agg < 0 ∧ 4 < x.agg) ∨ (¬ x.agg < 0 ∧ ¬ 4 < x.agg ∧ x.col < 0) ∨ (¬ x.agg < 0 ∧ ¬ 4 < x.agg ∧ ¬ x.col < 0 ∧ (a.n : Int) ≤ x.col) := by omega
    clear HE hb
    rcases hd with h | ⟨h1, h⟩ | ⟨h1, h2, h⟩ | ⟨h1, h2, h3, h⟩ <;>
    · go_enter Tryz.func144, Tryz.ntmps144
      go_wp2_with fail
      go_ret
      exact ⟨by rw [HE2.out]; rfl, belowA (Below.refl _ _) _⟩
  obtain ⟨c1, c2, c3, c4⟩ := hb
  obtain ⟨k, hk⟩ : ∃ k : Nat, x.col = (k : Int) := ⟨x.col.toNat, by omega⟩
  have c5 : ¬ x.agg < 0 := by omega
  have c6 : ¬ 4 < x.agg := by omega
  have c7 : ¬ x.col < 0 := by omega
  have c8 : ¬ (a.n : Int) ≤ x.col := by omega
  have hkn : k < a.n := by omega
  obtain ⟨b, o, t, hA, hbb, ht, y0, -, -, -, -, -⟩ := HL.out.told_at hkn
  have HE2 : Hid (B = !decide (t.x.size = 0)) := by
    show _ = _
    rw [HE.out, decide_eq_true ⟨c1, c2, c3⟩, hk, Int.toNat_natCast]
    unfold varAt
    rw [ht.out]; rfl
  obtain ⟨A, n, c⟩ := a
  simp only at hA hkn c4 c8 hn
  subst hA
  rw [hk] at c3 c4 c7 c8
  have z0 := cellA (o := .cells #[.string x.head.rel, .slice (some ⟨b, o, none⟩) n c, .int .i64 x.agg, .int .i64 (k : Int), m.v, .int .i64 x.pos] 41) y0
  simp only [hk]
  clear HE HL Hlen ht hbb y0 hk c1 c2
  by_cases he : t.x.size = 0
  · have e0 : t.x.toList = [] := str_empty.2 he
    have e1 : t.x.toList.isEmpty = true := by rw [e0]; rfl
    have HE3 : Hid (B = false) := by show _ = _; rw [HE2.out, decide_eq_true he]; rfl
    clear he HE2
    dsimp only [Hd.v, ruleC]
    go_enter Tryz.func144, Tryz.ntmps144
    go_wp2_with fail
    go_ret
    exact ⟨by rw [HE3.out]; rfl, belowA (Below.refl _ _) _⟩
  · have e0 : ¬ t.x.toList = [] := fun h => he (str_empty.1 h)
    have e1 : t.x.toList.isEmpty = false := by cases hl : t.x.toList with
      | nil => exact absurd hl e0
      | cons _ _ => rfl
    have HE3 : Hid (B = true) := by show _ = _; rw [HE2.out, decide_eq_false he]; rfl
    clear he HE2
    dsimp only [Hd.v, ruleC]
    go_enter Tryz.func144, Tryz.ntmps144
    go_wp2_with fail
    go_ret
    exact ⟨by rw [HE3.out]; rfl, belowA (Below.refl _ _) _⟩
def rightRule (x : GRule) : Bool := atomB x.head && (aggB x && (decide (x.body.length ≤ 8) && x.body.all rightLit))
set_option maxRecDepth 100000 in
set_option maxHeartbeats 2000000 in
theorem rightRule_any (d : Nat) (x : GRule) (a m : Hd) (w : World) (h : RuleAt d w w.heap.size x a m) (hW : LexW w) : Calls Tryz.prog 60 #[.agg #[.string x.head.rel, a.v, .int .i64 x.agg, .int .i64 x.col, m.v, .int .i64 x.pos]] w (RetBool (rightRule x) w) := by
  obtain ⟨B, HB⟩ : ∃ B, Hid (B = rightRule x) := ⟨_, rfl⟩
  rw [← HB.out]
  have hrb : (w.alloc (.cells #[.string x.head.rel, a.v, .int .i64 x.agg, .int .i64 x.col, m.v, .int .i64 x.pos] 41)).heap[w.heap.size]? = some (.cells #[.string x.head.rel, a.v, .int .i64 x.agg, .int .i64 x.col, m.v, .int .i64 x.pos] 41 (0, 0)) := heapNew rfl
  have hba : Below w.heap.size w (w.alloc (.cells #[.string x.head.rel, a.v, .int .i64 x.agg, .int .i64 x.col, m.v, .int .i64 x.pos] 41)) := belowA (Below.refl _ _) _
  have hn := h.body.bound
  have Hlen := Lib.hid h.body.1
  have HH := Lib.hid (h.keep hba)
  have HW := Lib.hid (hW.on hba)
  clear h hW
  obtain ⟨P1, HP1⟩ : ∃ E, Hid (E = atomB x.head) := ⟨_, rfl⟩
  obtain ⟨P2, HP2⟩ : ∃ E, Hid (E = aggB x) := ⟨_, rfl⟩
  obtain ⟨P3, HP3⟩ : ∃ E, Hid (E = x.body.all rightLit) := ⟨_, rfl⟩
  have HE : Hid (B = (P1 && (P2 && (decide (x.body.length ≤ 8) && P3)))) := by show _ = _; rw [HB.out, HP1.out, HP2.out, HP3.out]; rfl
  have Hrow : Hid (∀ W, Below (w.alloc (.cells #[.string x.head.rel, a.v, .int .i64 x.agg, .int .i64 x.col, m.v, .int .i64 x.pos] 41)).heap.size (w.alloc (.cells #[.string x.head.rel, a.v, .int .i64 x.agg, .int .i64 x.col, m.v, .int .i64 x.pos] 41)) W → W.heap[w.heap.size]? = some (.cells #[.string x.head.rel, a.v, .int .i64 x.agg, .int .i64 x.col, m.v, .int .i64 x.pos] 41 (0, 0))) := fun W h => (h.block _ (Array.getElem?_eq_some_iff.1 hrb).1).trans hrb
  obtain ⟨f0_0, f0_1, f0_2, f0_3, f0_4, f0_5⟩ := facts6 hrb
  have C1 : Hid (∀ W, Below (w.alloc (.cells #[.string x.head.rel, a.v, .int .i64 x.agg, .int .i64 x.col, m.v, .int .i64 x.pos] 41)).heap.size (w.alloc (.cells #[.string x.head.rel, a.v, .int .i64 x.agg, .int .i64 x.col, m.v, .int .i64 x.pos] 41)) W → Calls Tryz.prog 143 #[.agg #[.string x.head.rel, a.v]] W (RetBool P1 W)) := fun W h => by rw [HP1.out]; exact aright_any x.head a W HH.out.rel (HH.out.args.keep h) (HW.out.on h)
  have C2 : Hid (∀ W, Below (w.alloc (.cells #[.string x.head.rel, a.v, .int .i64 x.agg, .int .i64 x.col, m.v, .int .i64 x.pos] 41)).heap.size (w.alloc (.cells #[.string x.head.rel, a.v, .int .i64 x.agg, .int .i64 x.col, m.v, .int .i64 x.pos] 41)) W → Calls Tryz.prog 144 #[.agg #[.string x.head.rel, a.v, .int .i64 x.agg, .int .i64 x.col, m.v, .int .i64 x.pos]] W (RetBool P2 W)) := fun W h => by rw [HP2.out]; exact agg_any x a m W (HH.out.args.keep h)
  have C3 : Hid (∀ W, Below (w.alloc (.cells #[.string x.head.rel, a.v, .int .i64 x.agg, .int .i64 x.col, m.v, .int .i64 x.pos] 41)).heap.size (w.alloc (.cells #[.string x.head.rel, a.v, .int .i64 x.agg, .int .i64 x.col, m.v, .int .i64 x.pos] 41)) W → Calls Tryz.prog 145 #[m.v, .func (.func 111) #[] #[]] W (RetBool P3 W)) := fun W h => by
    rw [HP3.out]
    exact everyL_any d m.A m.n m.c x.body W (HH.out.body.keep h) (fun y a p q W' hy h' => rightLit_any d y a p q W' hy ((HW.out.on h).on h'))
  clear hrb HB HP1 HP2 HP3 HH HW
  by_cases h8 : m.n ≤ 8
  · have z8 : (m.n : Int) ≤ 8 := by omega
    have HE2 : Hid (B = (P1 && (P2 && P3))) := by show _ = _; rw [HE.out, decide_eq_true (by rw [Hlen.out]; exact h8)]; rfl
    clear HE Hlen h8
    generalize hwb : (w.alloc (.cells #[.string x.head.rel, a.v, .int .i64 x.agg, .int .i64 x.col, m.v, .int .i64 x.pos] 41)) = wb at *
    have Hbw0 := Lib.hid (Below.refl wb.heap.size wb)
    go_enter Tryz.func60, Tryz.ntmps60
    go_wp2_with fail
    try simp only [hwb]
    go_wp2_with fail
    refine (C1.out _ Hbw0.out).mono ?_
    rintro e1 w1 ⟨rfl, hq1⟩
    have Hbw1 := Lib.hid (below_next Hbw0.out hq1)
    obtain ⟨f1_0, f1_1, f1_2, f1_3, f1_4, f1_5⟩ := facts6 (Hrow.out _ Hbw1.out)
    clear hq1 f0_0 f0_1 f0_2 f0_3 f0_4 f0_5
    cases P1 with
    | false =>
      go_wp2_with fail
      go_ret
      exact ⟨by rw [HE2.out]; rfl, below_next hba Hbw1.out⟩
    | true =>
      go_wp2_with fail
      refine (C2.out _ Hbw1.out).mono ?_
      rintro e2 w2 ⟨rfl, hq2⟩
      have Hbw2 := Lib.hid (below_next Hbw1.out hq2)
      obtain ⟨f2_0, f2_1, f2_2, f2_3, f2_4, f2_5⟩ := facts6 (Hrow.out _ Hbw2.out)
      clear hq2 f1_0 f1_1 f1_2 f1_3 f1_4 f1_5
      cases P2 with
      | false =>
        go_wp2_with fail
        go_ret
        exact ⟨by rw [HE2.out]; rfl, below_next hba Hbw2.out⟩
      | true =>
        go_wp2_with fail
        refine (C3.out _ Hbw2.out).mono ?_
        rintro e3 w3 ⟨rfl, hq3⟩
        have Hbw3 := Lib.hid (below_next Hbw2.out hq3)
        obtain ⟨f3_0, f3_1, f3_2, f3_3, f3_4, f3_5⟩ := facts6 (Hrow.out _ Hbw3.out)
        clear hq3 f2_0 f2_1 f2_2 f2_3 f2_4 f2_5
        cases P3 <;>
        · go_wp2_with fail
          go_ret
          exact ⟨by rw [HE2.out]; rfl, below_next hba Hbw3.out⟩
  · have z8 : ¬ (m.n : Int) ≤ 8 := by omega
    have HE2 : Hid (B = false) := by show _ = _; rw [HE.out, decide_eq_false (by rw [Hlen.out]; exact h8)]; simp
    clear HE Hlen h8 C3
    generalize hwb : (w.alloc (.cells #[.string x.head.rel, a.v, .int .i64 x.agg, .int .i64 x.col, m.v, .int .i64 x.pos] 41)) = wb at *
    have Hbw0 := Lib.hid (Below.refl wb.heap.size wb)
    go_enter Tryz.func60, Tryz.ntmps60
    go_wp2_with fail
    try simp only [hwb]
    go_wp2_with fail
    refine (C1.out _ Hbw0.out).mono ?_
    rintro e1 w1 ⟨rfl, hq1⟩
    have Hbw1 := Lib.hid (below_next Hbw0.out hq1)
    obtain ⟨f1_0, f1_1, f1_2, f1_3, f1_4, f1_5⟩ := facts6 (Hrow.out _ Hbw1.out)
    clear hq1 f0_0 f0_1 f0_2 f0_3 f0_4 f0_5
    cases P1 with
    | false =>
      go_wp2_with fail
      go_ret
      exact ⟨by rw [HE2.out]; rfl, below_next hba Hbw1.out⟩
    | true =>
      go_wp2_with fail
      refine (C2.out _ Hbw1.out).mono ?_
      rintro e2 w2 ⟨rfl, hq2⟩
      have Hbw2 := Lib.hid (below_next Hbw1.out hq2)
      obtain ⟨f2_0, f2_1, f2_2, f2_3, f2_4, f2_5⟩ := facts6 (Hrow.out _ Hbw2.out)
      clear hq2 f1_0 f1_1 f1_2 f1_3 f1_4 f1_5
      cases P2 <;>
      · go_wp2_with fail
        go_ret
        exact ⟨by rw [HE2.out]; rfl, below_next hba Hbw2.out⟩
end Go.Proofs.YtgabkmibfhmkmaaGreatDoor

namespace Go.Proofs.YtgabkmibfhmkmaaGreatDoor
open Go.RowKit
theorem rightRule_parts {x : GRule} (h : rightRule x = true) : (∃ g : Nat, x.agg = (g : Int) ∧ g ≤ 4) ∧ x.head.args.length ≤ 6 ∧ x.body.length ≤ 8 ∧ ∀ y ∈ x.body, rightLit y = true := by
  unfold rightRule at h
  simp only [Bool.and_eq_true, decide_eq_true_eq, List.all_eq_true] at h
  obtain ⟨h1, h2, h3, h4⟩ := h
  refine ⟨?_, ?_, h3, h4⟩
  · unfold aggB at h2
    split at h2
    · rename_i h0
      exact ⟨0, by simpa using h0, by omega⟩
    · simp only [Bool.and_eq_true, decide_eq_true_eq] at h2
      exact ⟨x.agg.toNat, by omega, by omega⟩
  · unfold atomB at h1
    simp only [Bool.and_eq_true, decide_eq_true_eq] at h1
    exact h1.2.1
theorem litS_le {xs : List GLit} {y : GLit} (h : y ∈ xs) : (litS y).length ≤ (Lib.join (xs.map litS) sep2).length := join_ge _ _ (List.mem_map.2 ⟨y, h, rfl⟩)
set_option maxRecDepth 100000 in
set_option maxHeartbeats 8000000 in
theorem rule2_any (d : Nat) (x : GRule) (A : Option Addr) (an ac : Nat) (B : Option Addr) (bn bc : Nat) (w : World) (h : RuleAt d w w.heap.size x ⟨A, an, ac⟩ ⟨B, bn, bc⟩) (hr : rightRule x = true) (hW : ShowW w) (hlen : (ruleS x).length ≤ 1000000000000) :
    Calls Tryz.prog 109 #[.agg #[.string x.head.rel, .slice A an ac, .int .i64 x.agg, .int .i64 x.col, .slice B bn bc, .int .i64 x.pos]] w (RetV (.string (bytes (ruleS x))) w) := by
  have mixed : Tryz.prog.follows .mixedOrders = true := by kernel_rfl
  obtain ⟨S, HS⟩ : ∃ S, Hid (S = ruleS x) := ⟨_, rfl⟩
  rw [← HS.out] at hlen ⊢
  obtain ⟨⟨g, hg, hg4⟩, h6, h8, hall⟩ := rightRule_parts hr
  have HE : Hid (S = atomS x.head (g : Int) x.col ++ (if x.body = [] then [] else [32, 58, 45, 32] ++ Lib.join (x.body.map litS) sep2) ++ [46]) := by show _ = _; rw [HS.out, ← hg]; rfl
  rw [hg]
  have hrb : (w.alloc (.cells #[.string x.head.rel, .slice A an ac, .int .i64 (g : Int), .int .i64 x.col, .slice B bn bc, .int .i64 x.pos] 41)).heap[w.heap.size]? = some (.cells #[.string x.head.rel, .slice A an ac, .int .i64 (g : Int), .int .i64 x.col, .slice B bn bc, .int .i64 x.pos] 41 (0, 0)) := heapNew rfl
  have hba : Below w.heap.size w (w.alloc (.cells #[.string x.head.rel, .slice A an ac, .int .i64 (g : Int), .int .i64 x.col, .slice B bn bc, .int .i64 x.pos] 41)) := belowA (Below.refl _ _) _
  have HH := Lib.hid (h.keep hba)
  have HW := Lib.hid (hW.on hba)
  have Hba := Lib.hid hba
  have Hla : Hid (x.head.args.length = an) := h.args.1
  have Hlb : Hid (x.body.length = bn) := h.body.1
  have hbn := h.body.bound
  dsimp only at hbn
  have hb8 : bn ≤ 8 := by have h1 := Hlb.out; omega
  have Hrb := Lib.hid hrb
  have Hall := Lib.hid hall
  obtain ⟨f0, f1, f2, f3, f4, f5⟩ := facts6 hrb
  clear h hW hr hrb hba hall hg HS
  have hl0 := hlen
  rw [HE.out] at hl0
  simp only [List.length_append, List.length_cons, List.length_nil] at hl0
  have hla : (atomS x.head (g : Int) x.col).length ≤ 1000000000000 := by omega
  have hlt0 : (thingsS (g : Int) x.col x.head.args).length + x.head.rel.size ≤ 1000000000000 := by
    have := hla
    unfold atomS at this
    simp only [List.length_append, ba_len] at this
    omega
  generalize hwb : (w.alloc (.cells #[.string x.head.rel, .slice A an ac, .int .i64 (g : Int), .int .i64 x.col, .slice B bn bc, .int .i64 x.pos] 41)) = wb at *
  have HC1 := Lib.hid (fun (W : World) (hb : Below wb.heap.size wb W) => things_any g x.col A an ac x.head.args W (HH.out.keep hb).args (HW.out.on hb) hg4 (by have h1 := Hla.out; omega) (by omega))
  have HHd : Hid (bytes (atomS x.head (g : Int) x.col) = x.head.rel ++ bytes (thingsS (g : Int) x.col x.head.args)) := by
    show _ = _
    unfold atomS
    rw [← bytes_app, bytes_of]
  have e1 : (bytes (thingsS (g : Int) x.col x.head.args)).size = (thingsS (g : Int) x.col x.head.args).length := rfl
  have hhs : (bytes (atomS x.head (g : Int) x.col)).size ≤ 1000000000000 := hla
  generalize bytes (thingsS (g : Int) x.col x.head.args) = st at *
  have y1 : ¬ (9223372036854775807 < x.head.rel.size + st.size) := by omega
  clear e1 hlt0 hla
  go_enter Tryz.func109, Tryz.ntmps109
  go_wp2_with fail
  try simp only [hwb]
  clear hwb
  go_wp2_with fail
  have Hk := Lib.hid (fun (V : World) (hb : Below wb.heap.size wb V) => (And.intro (below_cell hb f0) (And.intro (below_cell hb f1) (And.intro (below_cell hb f2) (below_cell hb f3)))))
  have hb1 := Below.refl wb.heap.size wb
  go_region_held3 (fun w' => w'.cell? ⟨w.heap.size, 0, none⟩ = some (.string x.head.rel) ∧ w'.cell? ⟨w.heap.size, 1, none⟩ = some (.slice A an ac) ∧ w'.cell? ⟨w.heap.size, 2, none⟩ = some (.int .i64 (g : Int)) ∧ w'.cell? ⟨w.heap.size, 3, none⟩ = some (.int .i64 x.col))
    (first
      | (refine Hk.out _ ?_; (repeat (first | with_reducible exact Below.refl _ _ | with_reducible assumption | with_reducible refine Below.drew ?_ | with_reducible refine belowA ?_ _)); done)
      | go_keep)
    ((first
      | (go_at_call 186
         refine (HC1.out _ (by repeat (first | with_reducible exact Below.refl _ _ | with_reducible assumption | with_reducible refine Below.drew ?_ | with_reducible refine belowA ?_ _))).mono ?_
         rintro r wN ⟨rfl, hq1⟩
         have hb1 : Below wb.heap.size wb wN := by
           refine below_next ?_ hq1
           repeat (first | with_reducible exact Below.refl _ _ | with_reducible assumption | with_reducible refine Below.drew ?_ | with_reducible refine belowA ?_ _)
         clear hq1)))
  rw [← HHd.out]
  have HS1 : Hid (bn = 0 → bytes S = bytes (atomS x.head (g : Int) x.col) ++ ⟨#[46]⟩) := fun h0 => by
    have hb : x.body = [] := List.eq_nil_of_length_eq_zero (by have h1 := Hlb.out; omega)
    show _ = bytes (atomS x.head (g : Int) x.col) ++ bytes [46]
    rw [HE.out, if_pos hb, bytes_app, List.append_nil]
  have HS2 : Hid (¬ bn = 0 → bytes S = bytes (atomS x.head (g : Int) x.col) ++ ⟨#[32, 58, 45, 32]⟩ ++ bytes (Lib.join (x.body.map litS) sep2) ++ ⟨#[46]⟩) := fun h0 => by
    have hb : ¬ x.body = [] := fun e => h0 (by have h1 := Hlb.out; rw [e] at h1; simpa using h1.symm)
    show _ = bytes (atomS x.head (g : Int) x.col) ++ bytes [32, 58, 45, 32] ++ bytes (Lib.join (x.body.map litS) sep2) ++ bytes [46]
    rw [HE.out, if_neg hb, bytes_app, bytes_app, bytes_app]
    simp only [List.append_assoc]
  have HJ : Hid (¬ bn = 0 → (Lib.join (x.body.map litS) sep2).length ≤ 1000000000000) := fun h0 => by
    have hb : ¬ x.body = [] := fun e => h0 (by have h1 := Hlb.out; rw [e] at h1; simpa using h1.symm)
    rw [if_neg hb, List.length_append] at hl0
    show _ ≤ _
    omega
  clear HE hl0
  generalize bytes (atomS x.head (g : Int) x.col) = hd at *
  have HB1 := Lib.hid hb1
  clear hb1 f0 f1 f2 f3 f4 f5 Hk HC1 HHd y1
  have hrN := (HB1.out.block _ (Array.getElem?_eq_some_iff.1 Hrb.out).1).trans Hrb.out
  obtain ⟨f0, f1, f2, f3, f4, f5⟩ := facts6 hrN
  by_cases hb0 : bn = 0
  · have q1 : ((bn : Int) == 0) = true := by simp [hb0]
    have HSE := Lib.hid (HS1.out hb0)
    have z1 : ¬ (9223372036854775807 < hd.size + 1) := by omega
    have z2 : ¬ (9223372036854775806 < hd.size) := by omega
    clear hb0
    go_wp2_with fail
    go_ret
    exact ⟨by rw [HSE.out]; rfl, below_next Hba.out HB1.out⟩
  have q1 : ((bn : Int) == 0) = false := by simp [hb0]
  have HSE := Lib.hid (HS2.out hb0)
  have HJl := Lib.hid (HJ.out hb0)
  clear HS1 HS2 HJ hb0
  go_wp2_with fail
  clear f0 f1 f2 f3 f4 f5 q1
  go_loopw [4, 6, 28] (fun v _ i wr => ∃ k A' c', k ≤ bn ∧ v = .slice A' k c' ∧ i = .int .i64 k ∧ Hid (wr.ownsRow wN.heap.size 9 1 (.slice A' k c') k ((x.body.take k).map fun y => .string (bytes (litS y)))) ∧ Hid (Below wN.heap.size wN wr)) (fun _ _ i _ => bn - (intOf i).toNat)
  case atStart => exact ⟨0, none, 0, by omega, rfl, rfl, World.ownsRow_nil _ _ _ _, Below.refl _ _⟩
  case round =>
    obtain ⟨k, A', c', hk, rfl, rfl, HO, HBr⟩ := hrel
    have i0 : (0 : Int) ≤ (k : Int) := by omega
    by_cases hlt : k < bn
    · have i1 : (k : Int) < (bn : Int) := by omega
      obtain ⟨bb, o, y, a', p', q', hA, hbb, hy, hly, Hr⟩ := (HH.out.keep (below_next HB1.out HBr.out)).body.lit_range hlt
      try simp only at hA
      subst hA
      obtain ⟨A1, n1, c1⟩ := a'
      obtain ⟨A2, n2, c2⟩ := p'
      obtain ⟨A3, n3, c3⟩ := q'
      have hym := List.mem_of_getElem? hy.out
      have hbx : Below wr.heap.size wr (wr.alloc (.cells (litC y ⟨A1, n1, c1⟩ ⟨A2, n2, c2⟩ ⟨A3, n3, c3⟩).toArray 35)) := belowA (Below.refl _ _) _
      have Hbx := Lib.hid (below_next HBr.out hbx)
      have HC := Lib.hid (literal_any d y A1 n1 c1 A2 n2 c2 A3 n3 c3 _ (hly.keep hbx) (Hall.out y hym) (HW.out.on (below_next (below_next HB1.out HBr.out) hbx)) (Nat.le_trans (litS_le hym) HJl.out))
      have HOa := Lib.hid (HO.out.alloc (.cells (litC y ⟨A1, n1, c1⟩ ⟨A2, n2, c2⟩ ⟨A3, n3, c3⟩).toArray 35))
      have HSt : Hid ((x.body.take (k + 1)).map (fun y => Value.string (bytes (litS y))) = (x.body.take k).map (fun y => .string (bytes (litS y))) ++ [.string (bytes (litS y))]) := by
        show _ = _
        rw [List.take_add_one, hy.out]; simp
      have hrn : (wr.alloc (.cells (litC y ⟨A1, n1, c1⟩ ⟨A2, n2, c2⟩ ⟨A3, n3, c3⟩).toArray 35)).heap[wr.heap.size]? = some (.cells (litC y ⟨A1, n1, c1⟩ ⟨A2, n2, c2⟩ ⟨A3, n3, c3⟩).toArray 35 (0, 0)) := heapNew rfl
      have HRn := Lib.hid (range_row hrn)
      clear hrn hy hly hym hbx HO
      generalize bytes (litS y) = sl at HC HSt
      go_wp2_with (first
        | refine wpList_load_mid rfl 35 (.tmp 30) rfl bb (o + k * 17) rfl (litC y ⟨A1, n1, c1⟩ ⟨A2, n2, c2⟩ ⟨A3, n3, c3⟩) _ Hr.out Tryz.underlying35 rfl (lit_size _ _ _ _) ?_
        | refine wpList_new rfl rfl 35 6 (.tmp 31) rfl rfl rfl rfl _ (litC y ⟨A1, n1, c1⟩ ⟨A2, n2, c2⟩ ⟨A3, n3, c3⟩).toArray lit_info rfl (lit_one _ _ _ _) rfl rfl ?_
        | refine wpList_load_mid rfl 35 (.tmp 6) rfl wr.heap.size 0 rfl (litC y ⟨A1, n1, c1⟩ ⟨A2, n2, c2⟩ ⟨A3, n3, c3⟩) _ HRn.out Tryz.underlying35 rfl (lit_size _ _ _ _) ?_)
      refine HC.out.mono ?_
      rintro r w2 ⟨rfl, hq2⟩
      have hbw := below_next Hbx.out hq2
      have how2 := own_below HOa.out hq2
      clear hq2
      obtain ⟨v', w', hrun, hown', hb'⟩ := str_push sl (by omega) hbw how2
      obtain ⟨A4, c4, rfl⟩ := own_form hown'
      rw [← HSt.out] at hown'
      have HRun := Lib.hid hrun
      have HOn := Lib.hid hown'
      have HBn := Lib.hid hb'
      clear hrun hown' how2 hb' hbw HSt HOa HC HRn Hr
      go_wp2_with (at_builtin; refine wpList_append_run rfl _ _ _ rfl _ _ rfl rfl (HRun.out _) ?_)
      go_roundw
      case rel => exact ⟨k + 1, A4, c4, by omega, rfl, by go_num, HOn, HBn⟩
      case measure => simp [intOf]; omega
    · have i1 : ¬ (k : Int) < (bn : Int) := by omega
      obtain rfl : k = bn := by omega
      have hown := HO.out
      rw [List.take_of_length_le (by have h1 := Hlb.out; omega), show x.body.map (fun y => Value.string (bytes (litS y))) = (x.body.map litS).map (fun s => Value.string (bytes s)) by rw [List.map_map]; rfl] at hown
      have HCj := Lib.hid (sjoin_any A' k c' (x.body.map litS) wr (by rw [List.length_map]; exact Hlb.out) (by have := HJl.out; omega) (by have h1 := Hlb.out; omega) hown)
      have hjs : (bytes (Lib.join (x.body.map litS) sep2)).size ≤ 1000000000000 := HJl.out
      have HBn := Lib.hid (below_next HB1.out HBr.out)
      unfold JoinPost at HCj
      generalize bytes (Lib.join (x.body.map litS) sep2) = sj at *
      have z1 : ¬ (9223372036854775807 < hd.size + 4) := by omega
      have z2 : ¬ (9223372036854775803 < hd.size) := by omega
      have z3 : ¬ (9223372036854775807 < hd.size + 4 + sj.size) := by omega
      have z4 : ¬ (9223372036854775807 < hd.size + 4 + sj.size + 1) := by omega
      have z5 : ¬ (9223372036854775806 < hd.size + 4 + sj.size) := by omega
      clear HO hown HJl Hall HW HH
      go_wp2_with fail
      refine HCj.out.mono ?_
      rintro r w2 ⟨rfl, hq2⟩
      have HBm := Lib.hid (below_next HBn.out hq2)
      clear hq2 HCj
      go_wp2_with fail
      go_ret
      exact ⟨by rw [HSE.out]; rfl, below_next Hba.out HBm.out⟩
end Go.Proofs.YtgabkmibfhmkmaaGreatDoor

namespace Go.Proofs.YtgabkmibfhmkmaaGreatDoor
open Go.RowKit
abbrev exp5 (e : GExp) (A : Option Addr) (n c : Nat) : Value := .agg #[.int .i64 e.op, .string e.t.x, .int .i64 e.t.v.k, .int .i64 e.t.v.n, .string e.t.v.s, .slice A n c]
set_option maxRecDepth 100000 in
set_option maxHeartbeats 4000000 in
theorem refRightE_any : ∀ (k : Nat) (e : GExp) (A : Option Addr) (n c d : Nat) (w : World), k ≤ 20 → SliceIs (Enc.exp d) w w.heap.size A n c e.kids → e.t.v.ok →
    Calls Tryz.prog 119 #[exp5 e A n c, .int .i64 (k : Int)] w (RetBool (rightE k e) w) := by
  intro k
  induction k using Nat.strongRecOn with
  | ind k ih =>
    intro e A n c d w hk20 hk hv
    have IH := Lib.hid ih
    have hn := hk.bound
    have HK := Lib.hid hk
    have Hlen := Lib.hid hk.1
    have hrb : (w.alloc (.cells #[.int .i64 e.op, .string e.t.x, .int .i64 e.t.v.k, .int .i64 e.t.v.n, .string e.t.v.s, .slice A n c] 49)).heap[w.heap.size]? = some (.cells #[.int .i64 e.op, .string e.t.x, .int .i64 e.t.v.k, .int .i64 e.t.v.n, .string e.t.v.s, .slice A n c] 49 (0, 0)) := heapNew rfl
    have hba : Below w.heap.size w (w.alloc (.cells #[.int .i64 e.op, .string e.t.x, .int .i64 e.t.v.k, .int .i64 e.t.v.n, .string e.t.v.s, .slice A n c] 49)) := belowA (Below.refl _ _) _
    obtain ⟨P, HP⟩ : ∃ P, Hid (P = RetBool (rightE k e) w) := ⟨_, rfl⟩
    rw [← HP.out]
    have HBad : Hid (rightE k e = false → ∀ w', Below w.heap.size w w' → P (.returned (.bool false)) w') := fun h w' hb => by rw [HP.out, h]; exact ⟨rfl, hb⟩
    obtain ⟨b0, b1, b2, b3, b4, b5⟩ := facts6 hrb
    have Hlt := Lib.hid (Array.getElem?_eq_some_iff.1 hrb).1
    have HR := Lib.hid (refTright_any e.t hv (w.alloc (.cells #[.int .i64 e.op, .string e.t.x, .int .i64 e.t.v.k, .int .i64 e.t.v.n, .string e.t.v.s, .slice A n c] 49)))
    clear hk hv ih
    by_cases h0 : e.op = 0
    · have q0 : (e.op == 0) = true := by simp [h0]
      have HL : Hid (rightE k e = (e.kids.isEmpty && rightT e.t)) := rightE_leaf h0
      by_cases hn0 : n = 0
      · have q2 : ((n : Int) == 0) = true := by simp [hn0]
        have hke : e.kids.isEmpty = true := by have := Hlen.out; simp; exact List.eq_nil_of_length_eq_zero (by omega)
        have HG : Hid (∀ w', Below w.heap.size w w' → P (.returned (.bool (rightT e.t))) w') := fun w' hb => by rw [HP.out, HL.out, hke]; exact ⟨rfl, hb⟩
        clear HP hke h0 hn0 HL HBad HK
        generalize hwb : (w.alloc (.cells #[.int .i64 e.op, .string e.t.x, .int .i64 e.t.v.k, .int .i64 e.t.v.n, .string e.t.v.s, .slice A n c] 49)) = wb at *
        go_enter Tryz.func119, Tryz.ntmps119
        go_wp2_with fail
        try simp only [hwb]
        go_wp2_with fail
        refine HR.out.mono ?_
        rintro e1 w1 ⟨rfl, hb⟩
        have Hb := Lib.hid hb
        clear hb
        generalize rightT e.t = bb at *
        cases bb <;>
        · go_wp2_with fail
          first | exact HG.out _ (below_next hba Hb.out) | (go_ret; exact HG.out _ (below_next hba Hb.out))
      · have q2 : ((n : Int) == 0) = false := by rw [beq_eq_false_iff_ne]; omega
        have hke : e.kids.isEmpty = false := by
          have := Hlen.out
          cases h : e.kids with
          | nil => rw [h] at this; simp at this; omega
          | cons a l => rfl
        have HG : Hid (∀ w', Below w.heap.size w w' → P (.returned (.bool false)) w') := HBad.out (by rw [HL.out, hke]; simp)
        clear HP hke h0 hn0 HL HBad HK HR
        go_enter Tryz.func119, Tryz.ntmps119
        go_wp2_with fail
        first | exact HG.out _ hba | (go_ret; exact HG.out _ hba)
    · have q0 : (e.op == 0) = false := by simp [h0]
      by_cases hk0 : k = 0
      · have HG : Hid (∀ w', Below w.heap.size w w' → P (.returned (.bool false)) w') := HBad.out (by subst hk0; exact rightE_flat h0)
        have k1 : ¬ (0 : Int) < (k : Int) := by omega
        clear HP h0 HBad HK HR hk0
        go_enter Tryz.func119, Tryz.ntmps119
        go_wp2_with fail
        first | exact HG.out _ hba | (go_ret; exact HG.out _ hba)
      have k1 : (0 : Int) < (k : Int) := by omega
      by_cases h1 : e.op < 1
      · have h1' : ¬ 1 ≤ e.op := by omega
        have HG : Hid (∀ w', Below w.heap.size w w' → P (.returned (.bool false)) w') := HBad.out (rightE_bad h0 (opE_lo (by omega)))
        clear HP h0 HBad HK HR hk0 h1
        go_enter Tryz.func119, Tryz.ntmps119
        go_wp2_with fail
        first | exact HG.out _ hba | (go_ret; exact HG.out _ hba)
      have h1' : 1 ≤ e.op := by omega
      by_cases h3 : 3 < e.op
      · have h3' : ¬ e.op ≤ 3 := by omega
        have HG : Hid (∀ w', Below w.heap.size w w' → P (.returned (.bool false)) w') := HBad.out (rightE_bad h0 (opE_hi (by omega)))
        clear HP h0 HBad HK HR hk0 h1 h3
        go_enter Tryz.func119, Tryz.ntmps119
        go_wp2_with fail
        first | exact HG.out _ hba | (go_ret; exact HG.out _ hba)
      have h3' : e.op ≤ 3 := by omega
      by_cases hn2 : n = 2
      rotate_left
      · have q2 : ((n : Int) == 2) = false := by rw [beq_eq_false_iff_ne]; omega
        have HG : Hid (∀ w', Below w.heap.size w w' → P (.returned (.bool false)) w') := HBad.out (rightE_kids h0 (by have := Hlen.out; omega))
        clear HP h0 HBad HK HR hk0 h1 h3 hn2
        go_enter Tryz.func119, Tryz.ntmps119
        go_wp2_with fail
        first | exact HG.out _ hba | (go_ret; exact HG.out _ hba)
      subst hn2
      have q2 : (((2 : Nat) : Int) == 2) = true := by decide
      by_cases hz : e.t = zT
      rotate_left
      · have HG : Hid (∀ w', Below w.heap.size w w' → P (.returned (.bool false)) w') := HBad.out (rightE_bad h0 (by simp [opE, hz]))
        rcases told_not_zero hz with hz | ⟨z0, hz⟩ | ⟨z0, z1, hz⟩ | ⟨z0, z1, z2, hz⟩ <;>
        · clear HP h0 HBad HK HR hk0 h1 h3
          go_enter Tryz.func119, Tryz.ntmps119
          go_wp2_with fail
          first | exact HG.out _ (belowA (Below.refl _ _) _) | (go_ret; exact HG.out _ (belowA (Below.refl _ _) _))
      obtain ⟨z0, z1, z2, z3⟩ := told_zero.1 hz
      obtain ⟨b, o, ka, Aa, na, ca, da, hA, hb, hka, hda, x0, x1, x2, x3, x4, x5, -, -, fa, hkka⟩ := HK.out.exp_at (i := 0) (by omega)
      obtain ⟨b', o', kb, Ab, nb, cb, db, hA', hb', hkb, hdb, y0, y1, y2, y3, y4, y5, -, -, fb, hkkb⟩ := HK.out.exp_at (i := 1) (by omega)
      subst hA
      injection hA' with hA'
      injection hA' with h4 h5 _
      subst h4 h5
      simp only [Nat.zero_mul, Nat.add_zero] at x0 x1 x2 x3 x4 x5
      simp only [Nat.one_mul] at y0 y1 y2 y3 y4 y5
      have hop : opE e = true := by simp [opE, h1', h3', hz]
      obtain ⟨k', rfl⟩ : ∃ k', k = k' + 1 := ⟨k - 1, by omega⟩
      have hkids : e.kids = [ka, kb] := by
        have h9 := Hlen.out
        match hq : e.kids, h9 with
        | [u, v], _ =>
          have e1 := hka.out; have e2 := hkb.out
          rw [hq] at e1 e2
          simp at e1 e2
          rw [e1, e2]
      have HV : Hid (rightE (k' + 1) e = (rightE k' ka && rightE k' kb)) := rightE_two h0 hop hkids
      have kk : ((k' + 1 : Nat) : Int) - 1 = (k' : Int) := by omega
      have kk2 : wrap64 (((k' : Int) + 1) - 1) = (k' : Int) := by unfold wrap64; omega
      have HCa := Lib.hid (fun (W : World) (hb : Below w.heap.size w W) => IH.out k' (by omega) ka Aa na ca da W (by omega) (hkka.keep hb) fa)
      have HCb := Lib.hid (fun (W : World) (hb : Below w.heap.size w W) => IH.out k' (by omega) kb Ab nb cb db W (by omega) (hkkb.keep hb) fb)
      have HKe := Lib.hid (fun (W : World) (hb : Below w.heap.size w W) => And.intro (below_cell hb y0) (And.intro (below_cell hb y1) (And.intro (below_cell hb y2) (And.intro (below_cell hb y3) (And.intro (below_cell hb y4) (below_cell hb y5))))))
      have HG1 : Hid (rightE k' ka = false → ∀ w', Below w.heap.size w w' → P (.returned (.bool false)) w') := fun h => HBad.out (by rw [HV.out, h]; rfl)
      have HG2 : Hid (rightE k' ka = true → ∀ w', Below w.heap.size w w' → P (.returned (.bool (rightE k' kb))) w') := fun h w' hb => by rw [HP.out, HV.out, h]; exact ⟨rfl, hb⟩
      clear h0 h1 h3 hz hop hkids HK HBad HP hka hkb hda hdb hkka hkkb hk0 HR IH HV y0 y1 y2 y3 y4 y5
      go_enter Tryz.func119, Tryz.ntmps119
      go_wp2_with fail
      generalize hwv : w.alloc _ = wv
      have hbv : Below w.heap.size w wv := by rw [← hwv]; exact belowA (Below.refl _ _) _
      have hgv : wv.heap[w.heap.size]? = some (.cells #[.int .i64 e.op, .string e.t.x, .int .i64 0, .int .i64 0, .string e.t.v.s, .slice (some ⟨b, o, none⟩) 2 c] 49 (0, 0)) := by rw [← hwv]; exact heapNew rfl
      refine (HCa.out wv hbv).mono ?_
      rintro e1 w1 ⟨rfl, hb1⟩
      have hbw1 := below_next hbv hb1
      obtain ⟨y0, y1, y2, y3, y4, y5⟩ := HKe.out w1 hbw1
      have HC2 := Lib.hid (HCb.out w1 hbw1)
      have Hb1 := Lib.hid hbw1
      have hg := (hb1.block _ (Array.getElem?_eq_some_iff.1 hgv).1).trans hgv
      clear b0 b1 b2 b3 b4 b5 x0 x1 x2 x3 x4 x5 HCa HCb HKe hb1 hrb hba hwv hgv hbw1 hbv
      obtain ⟨b0, b1, b2, b3, b4, b5⟩ := facts6 hg
      cases hr : rightE k' ka with
      | false =>
        have HG3 := Lib.hid (HG1.out hr)
        clear HG1 HG2 hr
        go_wp2_with fail
        first | exact HG3.out _ Hb1.out | (go_ret; exact HG3.out _ Hb1.out)
      | true =>
        have HG3 := Lib.hid (HG2.out hr)
        clear HG1 HG2 hr
        go_wp2_with fail
        refine HC2.out.mono ?_
        rintro e1 w2 ⟨rfl, hb2⟩
        have Hb2 := Lib.hid (below_next Hb1.out hb2)
        clear hb2
        generalize rightE k' kb = bb at *
        cases bb <;>
        · go_wp2_with fail
          first | exact HG3.out _ Hb2.out | (go_ret; exact HG3.out _ Hb2.out)
theorem refRightExp_any (e : GExp) (A : Option Addr) (n c d : Nat) (w : World) (hk : SliceIs (Enc.exp d) w w.heap.size A n c e.kids) (hv : e.t.v.ok) :
    Calls Tryz.prog 42 #[exp5 e A n c] w (RetBool (rightE 20 e) w) := by
  have hrb : (w.alloc (.cells #[.int .i64 e.op, .string e.t.x, .int .i64 e.t.v.k, .int .i64 e.t.v.n, .string e.t.v.s, .slice A n c] 49)).heap[w.heap.size]? = some (.cells #[.int .i64 e.op, .string e.t.x, .int .i64 e.t.v.k, .int .i64 e.t.v.n, .string e.t.v.s, .slice A n c] 49 (0, 0)) := heapNew rfl
  have hba : Below w.heap.size w (w.alloc (.cells #[.int .i64 e.op, .string e.t.x, .int .i64 e.t.v.k, .int .i64 e.t.v.n, .string e.t.v.s, .slice A n c] 49)) := belowA (Below.refl _ _) _
  obtain ⟨b0, b1, b2, b3, b4, b5⟩ := facts6 hrb
  have HC := Lib.hid (refRightE_any 20 e A n c d _ (by decide) (hk.keep hba) hv)
  clear hrb
  go_enter Tryz.func42, Tryz.ntmps42
  go_wp2_with fail
  refine HC.out.mono ?_
  rintro r w1 ⟨rfl, hb⟩
  go_wp2_with fail
  go_ret
  exact ⟨rfl, below_next hba hb⟩
set_option maxRecDepth 100000 in
set_option maxHeartbeats 1000000 in
theorem refZero_any (e : GExp) (A : Option Addr) (n c : Nat) (w : World) (hn : e.kids.length = n) (hn2 : n ≤ reachN) :
    Calls Tryz.prog 118 #[exp5 e A n c] w (RetBool (noneE e) w) := by
  have hn3 : n ≤ 140737488351232 := hn2
  have Hn := Lib.hid hn
  obtain ⟨B, HB⟩ : ∃ B, Hid (B = noneE e) := ⟨_, rfl⟩
  rw [← HB.out]
  clear hn hn2
  by_cases h0 : e.op = 0
  rotate_left
  · have q0 : (e.op == 0) = false := by simp [h0]
    have HE : Hid (B = false) := by show _ = _; rw [HB.out]; simp [noneE, h0]
    clear h0 HB
    go_enter Tryz.func118, Tryz.ntmps118
    go_wp2_with fail
    go_ret
    exact ⟨by rw [HE.out]; rfl, belowA (Below.refl _ _) _⟩
  have q0 : (e.op == 0) = true := by simp [h0]
  by_cases hk : n = 0
  rotate_left
  · have q2 : ((n : Int) == 0) = false := by rw [beq_eq_false_iff_ne]; omega
    have HE : Hid (B = false) := by show _ = _; rw [HB.out]; simp [noneE, h0]; intro _ h; have := Hn.out; rw [h] at this; simp at this; omega
    clear h0 HB hk
    go_enter Tryz.func118, Tryz.ntmps118
    go_wp2_with fail
    go_ret
    exact ⟨by rw [HE.out]; rfl, belowA (Below.refl _ _) _⟩
  have q2 : ((n : Int) == 0) = true := by simp [hk]
  have hke : e.kids = [] := List.eq_nil_of_length_eq_zero (by have := Hn.out; omega)
  by_cases hz : e.t = zT
  rotate_left
  · have HE : Hid (B = false) := by show _ = _; rw [HB.out]; simp [noneE, hz]
    rcases told_not_zero hz with hz | ⟨z0, hz⟩ | ⟨z0, z1, hz⟩ | ⟨z0, z1, z2, hz⟩ <;>
    · clear h0 HB hk hke
      go_enter Tryz.func118, Tryz.ntmps118
      go_wp2_with fail
      go_ret
      exact ⟨by rw [HE.out]; rfl, belowA (Below.refl _ _) _⟩
  obtain ⟨z0, z1, z2, z3⟩ := told_zero.1 hz
  have HE : Hid (B = true) := by show _ = _; rw [HB.out]; simp [noneE, h0, hz, hke]
  clear h0 HB hz hk hke
  go_enter Tryz.func118, Tryz.ntmps118
  go_wp2_with fail
  go_ret
  exact ⟨by rw [HE.out]; rfl, belowA (Below.refl _ _) _⟩
theorem all_take {α : Type} {l : List α} {p : α → Bool} {k : Nat} {x : α} (hx : l[k]? = some x) : (l.take (k + 1)).all p = ((l.take k).all p && p x) := by
  rw [List.take_add_one, hx]; simp
theorem all_false {α : Type} {l : List α} {p : α → Bool} {k : Nat} {x : α} (hx : l[k]? = some x) (h : p x = false) : l.all p = false := by
  cases hl : l.all p
  · rfl
  · rw [List.all_eq_true.1 hl x (List.mem_of_getElem? hx)] at h; cases h
set_option maxRecDepth 100000 in
set_option maxHeartbeats 2000000 in
theorem refRightAtom_any (x : GAtom) (a : Hd) (w : World) (hl : SliceIs Enc.told w w.heap.size a.A a.n a.c x.args) : Calls Tryz.prog 116 #[.agg #[.string x.rel, a.v]] w (RetBool (atomB x) w) := by
  obtain ⟨A, n, c⟩ := a
  obtain ⟨P, HP⟩ : ∃ P, Hid (P = RetBool (atomB x) w) := ⟨_, rfl⟩
  have HBad : Hid ((x.args.length ≤ 6 → x.args.all rightT = false) → ∀ w', Below w.heap.size w w' → P (.returned (.bool false)) w') := fun h w' hb => by
    rw [HP.out]
    refine ⟨?_, hb⟩
    have : atomB x = false := by
      unfold atomB
      by_cases h6 : x.args.length ≤ 6
      · rw [h h6]; simp
      · simp [h6]
    rw [this]
  have HGood : Hid (x.args.length ≤ 6 → x.args.all rightT = true → ∀ w', Below w.heap.size w w' → P (.returned (.bool (singleB 2 x.rel))) w') := fun h1 h2 w' hb => by
    rw [HP.out]
    refine ⟨?_, hb⟩
    unfold atomB
    rw [h2]; simp [h1]
  rw [← HP.out]
  have hn := hl.bound
  have HL := Lib.hid hl
  have Hlen := Lib.hid hl.1
  have HN := Lib.hid (fun W => refNamed_any x.rel W)
  have HT := Lib.hid (fun (t : GTold) (ht : t.v.ok) W => refTright_any t ht W)
  have hrb : (w.alloc (.cells #[.string x.rel, .slice A n c] 45)).heap[w.heap.size]? = some (.cells #[.string x.rel, .slice A n c] 45 (0, 0)) := heapNew rfl
  have hba : Below w.heap.size w (w.alloc (.cells #[.string x.rel, .slice A n c] 45)) := belowA (Below.refl _ _) _
  dsimp only [Hd.v]
  clear hl HP
  go_enter Tryz.func116, Tryz.ntmps116
  go_wp2_with fail
  go_loopw [3] (fun i wr => ∃ k : Nat, k ≤ n ∧ i = .int .i64 k ∧ k ≤ 6 ∧ Hid ((x.args.take k).all rightT = true) ∧ wr.heap[w.heap.size]? = some (.cells #[.string x.rel, .slice A n c] 45 (0, 0)) ∧ Below w.heap.size w wr) (fun i _ => n - (intOf i).toNat)
  case atStart => exact ⟨0, by omega, rfl, by omega, by show _ = _; simp, hrb, hba⟩
  case round =>
    obtain ⟨k, hk, rfl, hk6, HA, hg, hbr⟩ := hrel
    clear hrb hba
    have i0 : (0 : Int) ≤ (k : Int) := by omega
    obtain ⟨b0, b1⟩ := facts2 hg
    by_cases hlt : k < n
    · have i1 : (k : Int) < (n : Int) := by omega
      by_cases h5 : 5 < k
      · have h5' : (5 : Int) < (k : Int) := by omega
        have HG := Lib.hid (HBad.out (fun h => by have := Hlen.out; omega))
        have HBr := Lib.hid hbr
        clear hbr HBad HGood HA
        go_wp2_with fail
        first | exact HG.out _ HBr.out | (go_ret; exact HG.out _ HBr.out)
      have h5' : ¬ (5 : Int) < (k : Int) := by omega
      obtain ⟨b, o, t, rfl, hb, ht, x0, x1, x2, x3, f1, f2⟩ := (HL.out.below hbr).told_at hlt
      have HC := Lib.hid (HT.out t f2 wr)
      have HTk : Hid ((x.args.take (k + 1)).all rightT = rightT t) := by show _ = _; rw [all_take ht.out, HA.out]; rfl
      have HTb : Hid (rightT t = false → ∀ w', Below w.heap.size w w' → P (.returned (.bool false)) w') := fun h => HBad.out (fun _ => all_false ht.out h)
      clear ht
      go_wp2_with fail
      refine HC.out.mono ?_
      rintro r w1 ⟨rfl, hb1⟩
      have hg1 := (hb1.block _ (Array.getElem?_eq_some_iff.1 hg).1).trans hg
      have HBr := Lib.hid (below_next hbr hb1)
      cases hr : rightT t with
      | false =>
        have HG := Lib.hid (HTb.out hr)
        clear hbr HBad HGood HA hr HTb HTk hb1 hg
        go_wp2_with fail
        first | exact HG.out _ HBr.out | (go_ret; exact HG.out _ HBr.out)
      | true =>
        have HT1 : Hid ((x.args.take (k + 1)).all rightT = true) := by show _ = _; rw [HTk.out, hr]
        have hg2 := Lib.hid hg1
        clear hr HTb HTk hb1 hg hg1 hbr
        go_wp2_with fail
        go_roundw
        case rel => exact ⟨k + 1, by omega, by go_num, by omega, HT1, hg2.out, HBr.out⟩
        case measure => simp [intOf]; omega
    · have i1 : ¬ (k : Int) < (n : Int) := by omega
      have hkn : k = n := by omega
      subst hkn
      have HG := Lib.hid (HGood.out (by have := Hlen.out; omega) (by have := HA.out; rwa [List.take_of_length_le (by have := Hlen.out; omega)] at this))
      have HBr := Lib.hid hbr
      clear hbr HBad HGood HA
      go_wp2_with fail
      refine (HN.out wr).mono ?_
      rintro r w1 ⟨rfl, hb1⟩
      have HB1 := Lib.hid (below_next HBr.out hb1)
      clear hb1
      go_wp2_with fail
      first | exact HG.out _ HB1.out | (go_ret; exact HG.out _ HB1.out)
end Go.Proofs.YtgabkmibfhmkmaaGreatDoor
