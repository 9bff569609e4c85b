/- Merged by my own program of: TEvL, TRule, TEvR, TFormed, PaOk, PaPl. -/
import Derived.Test.YtplekbpmfaghbaaGreatDoorMp6
import Derived.Test.YtplekbpmfaghbaaGreatDoorMp9
import Derived.Test.YtplekbpmfaghbaaGreatDoorMp1
import Derived.Test.YtplekbpmfaghbaaGreatDoorMa7
/- term.every over a list of literals. -/
namespace Go.Proofs.YtplekbpmfaghbaaGreatDoor
open Go.RowKit

set_option maxRecDepth 100000 in
set_option maxHeartbeats 1000000 in
theorem ev1L_any (x : GLit) (a p q : Hd) (g : Nat) (w : World) (hg : w.cell? ⟨g, 0, none⟩ = some (.func (.func 70) #[] #[])) (HC : Hid (∀ W, Below w.heap.size w W → Calls Tryz.prog 70 #[.agg #[.int .i64 x.k, .string x.atom.rel, a.v, .int .i64 x.op, .int .i64 x.l.op, .string x.l.t.x, .int .i64 x.l.t.v.k, .int .i64 x.l.t.v.n, .string x.l.t.v.s, p.v, .int .i64 x.r.op, .string x.r.t.x, .int .i64 x.r.t.v.k, .int .i64 x.r.t.v.n, .string x.r.t.v.s, q.v, .int .i64 x.pos]] W (RetBool (rightLit x) W))) :
    Calls Tryz.prog 151 #[.agg #[.int .i64 x.k, .string x.atom.rel, a.v, .int .i64 x.op, .int .i64 x.l.op, .string x.l.t.x, .int .i64 x.l.t.v.k, .int .i64 x.l.t.v.n, .string x.l.t.v.s, p.v, .int .i64 x.r.op, .string x.r.t.x, .int .i64 x.r.t.v.k, .int .i64 x.r.t.v.n, .string x.r.t.v.s, q.v, .int .i64 x.pos], .pointer (some ⟨g, 0, none⟩)] w (RetBool (!rightLit x) w) := by
  have hrb : (w.alloc (.cells #[.int .i64 x.k, .string x.atom.rel, a.v, .int .i64 x.op, .int .i64 x.l.op, .string x.l.t.x, .int .i64 x.l.t.v.k, .int .i64 x.l.t.v.n, .string x.l.t.v.s, p.v, .int .i64 x.r.op, .string x.r.t.x, .int .i64 x.r.t.v.k, .int .i64 x.r.t.v.n, .string x.r.t.v.s, q.v, .int .i64 x.pos] 38)).heap[w.heap.size]? = some (.cells #[.int .i64 x.k, .string x.atom.rel, a.v, .int .i64 x.op, .int .i64 x.l.op, .string x.l.t.x, .int .i64 x.l.t.v.k, .int .i64 x.l.t.v.n, .string x.l.t.v.s, p.v, .int .i64 x.r.op, .string x.r.t.x, .int .i64 x.r.t.v.k, .int .i64 x.r.t.v.n, .string x.r.t.v.s, q.v, .int .i64 x.pos] 38 (0, 0)) := heapNew rfl
  obtain ⟨b0, b1, b2, b3, b4, b5, b6, b7, b8, b9, b10, b11, b12, b13, b14, b15, b16⟩ := facts17 hrb
  have cg : (w.alloc (.cells #[.int .i64 x.k, .string x.atom.rel, a.v, .int .i64 x.op, .int .i64 x.l.op, .string x.l.t.x, .int .i64 x.l.t.v.k, .int .i64 x.l.t.v.n, .string x.l.t.v.s, p.v, .int .i64 x.r.op, .string x.r.t.x, .int .i64 x.r.t.v.k, .int .i64 x.r.t.v.n, .string x.r.t.v.s, q.v, .int .i64 x.pos] 38)).cell? ⟨g, 0, none⟩ = some (.func (.func 70) #[] #[]) := cellA hg
  clear hrb hg
  generalize rightLit x = B at *
  go_enter Tryz.func151, Tryz.ntmps151
  go_wp2_with fail
  refine (HC.out _ (by first | exact Below.refl _ _ | exact belowA (Below.refl _ _) _)).mono ?_
  rintro e w1 ⟨rfl, hb⟩
  have Hb := Lib.hid hb
  clear hb
  go_wp2_with fail
  go_ret
  exact ⟨rfl, below_next (belowA (Below.refl _ _) _) Hb.out⟩

set_option maxRecDepth 100000 in
set_option maxHeartbeats 1000000 in
theorem evIL_any (d : Nat) (A : Option Addr) (n c : Nat) (l : List GLit) (g : Nat) (w : World) (hl : SliceIs (Enc.lit d) w w.heap.size A n c l) (hg : w.cell? ⟨g, 0, none⟩ = some (.func (.func 70) #[] #[]))
    (HC : Hid (∀ (x : GLit) (a p q : Hd) W, LitAt d W W.heap.size x a p q → Below w.heap.size w W → Calls Tryz.prog 70 #[.agg #[.int .i64 x.k, .string x.atom.rel, a.v, .int .i64 x.op, .int .i64 x.l.op, .string x.l.t.x, .int .i64 x.l.t.v.k, .int .i64 x.l.t.v.n, .string x.l.t.v.s, p.v, .int .i64 x.r.op, .string x.r.t.x, .int .i64 x.r.t.v.k, .int .i64 x.r.t.v.n, .string x.r.t.v.s, q.v, .int .i64 x.pos]] W (RetBool (rightLit x) W))) :
    Calls Tryz.prog 177 #[.slice A n c, .func (.func 151) #[] #[.pointer (some ⟨g, 0, none⟩)]] w (fun e w' => ∃ k : Int, e = .returned (.int .i64 k) ∧ decide (0 ≤ k) = !(l.all rightLit) ∧ Below w.heap.size w w') := by
  have hn := hl.bound
  have HL := Lib.hid hl
  have hlen := Lib.hid hl.1
  have Hg := Lib.hid hg
  clear hl hg
  go_enter Tryz.func177, Tryz.ntmps177
  go_wp2_with fail
  go_loopw [5, 8] (fun _ i wr => ∃ k : Nat, k ≤ n ∧ i = .int .i64 k ∧ Hid ((l.take k).all rightLit = true) ∧ Below w.heap.size w wr) (fun _ i _ => n - (intOf i).toNat)
  case atStart => exact ⟨0, by omega, rfl, by simp [Hid], Below.refl _ _⟩
  case round =>
    obtain ⟨k, hk, rfl, hpre, hbr⟩ := hrel
    by_cases hlt : k < n
    · have HLr := (HL.out.below hbr)
      obtain ⟨b, o, x, a, p, q, rfl, hbb, hx, hat, z0, z1, z2, z3, z4, z5, z6, z7, z8, z9, z10, z11, z12, z13, z14, z15, z16⟩ := HLr.lit_at hlt
      have hokx : LitAt d wr wr.heap.size x a p q := hat.mono' hbr.size (Kept.of fun _ _ => rfl)
      have C := Lib.hid (ev1L_any x a p q g wr (below_cell hbr Hg.out) (fun W hW => HC.out x a p q W (hokx.keep hW) (below_next hbr hW)))
      have i0 : (0 : Int) ≤ (k : Int) := by omega
      have i1 : (k : Int) < (n : Int) := by omega
      have HT : Hid ((l.take (k + 1)).all rightLit = rightLit x) := by
        show _ = _
        obtain ⟨g1, g2⟩ := List.getElem?_eq_some_iff.1 hx.out
        rw [List.take_succ_eq_append_getElem g1, g2, List.all_append, hpre.out]; simp
      have HF : Hid (rightLit x = false → l.all rightLit = false) := fun h => by
        rw [List.all_eq_false]
        exact ⟨x, List.mem_of_getElem? hx.out, by simp [h]⟩
      clear HLr hokx
      generalize rightLit x = B at *
      cases B with
      | true =>
        clear HF
        go_wp2_with fail
        refine C.out.mono ?_
        rintro e w1 ⟨rfl, hb⟩
        have Hb := Lib.hid hb
        clear hb
        go_wp2_with fail
        go_roundw
        case rel => exact ⟨k + 1, by omega, by go_num, HT, below_next hbr Hb.out⟩
        case measure => simp [intOf]; omega
      | false =>
        have HF' : Hid (l.all rightLit = false) := HF.out rfl
        clear HF
        go_wp2_with fail
        refine C.out.mono ?_
        rintro e w1 ⟨rfl, hb⟩
        have Hb := Lib.hid hb
        clear hb
        go_wp2_with fail
        go_ret
        exact ⟨_, rfl, by rw [HF'.out]; simp, below_next hbr Hb.out⟩
    · have i1 : ¬ (k : Int) < (n : Int) := by omega
      have HA : Hid (l.all rightLit = true) := by
        show _ = _
        have h := hpre.out
        rw [List.take_of_length_le (by have := hlen.out; omega)] at h
        exact h
      go_wp2_with fail
      go_ret
      exact ⟨_, rfl, by rw [HA.out]; rfl, hbr⟩

set_option maxRecDepth 100000 in
set_option maxHeartbeats 1000000 in
theorem everyL_any (d : Nat) (A : Option Addr) (n c : Nat) (l : List GLit) (w : World) (hl : SliceIs (Enc.lit d) w w.heap.size A n c l)
    (HC : Hid (∀ (x : GLit) (a p q : Hd) W, LitAt d W W.heap.size x a p q → Below w.heap.size w W → Calls Tryz.prog 70 #[.agg #[.int .i64 x.k, .string x.atom.rel, a.v, .int .i64 x.op, .int .i64 x.l.op, .string x.l.t.x, .int .i64 x.l.t.v.k, .int .i64 x.l.t.v.n, .string x.l.t.v.s, p.v, .int .i64 x.r.op, .string x.r.t.x, .int .i64 x.r.t.v.k, .int .i64 x.r.t.v.n, .string x.r.t.v.s, q.v, .int .i64 x.pos]] W (RetBool (rightLit x) W))) :
    Calls Tryz.prog 110 #[.slice A n c, .func (.func 70) #[] #[]] w (RetBool (l.all rightLit) w) := by
  have hba : Below w.heap.size w (w.alloc (.cells #[.func (.func 70) #[] #[]] 144)) := belowA (Below.refl _ _) _
  have C := Lib.hid (evIL_any d A n c l w.heap.size (w.alloc (.cells #[.func (.func 70) #[] #[]] 144)) (hl.keep hba) ((cell_of_row _ _ 0 _ _ _ (heapNew rfl)).trans rfl) (fun x a p q W h hW => HC.out x a p q W h (below_next hba hW)))
  generalize l.all rightLit = B at *
  clear hl HC
  have CC : Hid (Calls Tryz.prog 150 #[.slice A n c, .func (.func 151) #[] #[.pointer (some ⟨w.heap.size, 0, none⟩)]] (w.alloc (.cells #[.func (.func 70) #[] #[]] 144)) (RetBool (!B) (w.alloc (.cells #[.func (.func 70) #[] #[]] 144)))) := by
    show Calls _ _ _ _ _
    generalize w.alloc (.cells #[.func (.func 70) #[] #[]] 144) = wb at *
    go_enter Tryz.func150, Tryz.ntmps150
    go_wp2_with fail
    refine C.out.mono ?_
    rintro e w1 ⟨k, rfl, hk, hb⟩
    have Hb := Lib.hid hb
    have Hk := Lib.hid hk
    clear hb hk
    go_wp2_with fail
    go_ret
    exact ⟨by rw [← Hk.out]; rfl, Hb.out⟩
  clear C
  go_enter Tryz.func110, Tryz.ntmps110
  go_wp2_with fail
  refine CC.out.mono ?_
  rintro e w1 ⟨rfl, hb⟩
  have Hb := Lib.hid hb
  clear hb CC
  go_wp2_with fail
  go_ret
  exact ⟨by cases B <;> rfl, below_next hba Hb.out⟩
end Go.Proofs.YtplekbpmfaghbaaGreatDoor

/- term.aggregated, term.RightRule. -/
namespace Go.Proofs.YtplekbpmfaghbaaGreatDoor
open Go.RowKit

def varAt (l : List GTold) (k : Nat) : Bool := match l[k]? with | some t => !decide (t.x.size = 0) | none => false
def aggB (x : GRule) : Bool := if x.agg = 0 then decide (x.col = 0) else decide (0 ≤ x.agg ∧ x.agg ≤ 4 ∧ 0 ≤ x.col) && varAt x.head.args x.col.toNat
set_option maxRecDepth 100000 in
set_option maxHeartbeats 2000000 in
theorem agg_any (x : GRule) (a m : Hd) (w : World) (hl : SliceIs Enc.told w w.heap.size a.A a.n a.c x.head.args) : Calls Tryz.prog 109 #[.agg #[.string x.head.rel, a.v, .int .i64 x.agg, .int .i64 x.col, m.v, .int .i64 x.pos]] w (RetBool (aggB x) w) := by
  obtain ⟨B, HB⟩ : ∃ B, Hid (B = aggB x) := ⟨_, rfl⟩
  rw [← HB.out]
  have hn := hl.bound
  have Hlen := Lib.hid hl.1
  have HL := Lib.hid hl
  clear hl
  by_cases h0 : x.agg = 0
  · have q0 : (x.agg == 0) = true := by simp [h0]
    have HE : Hid (B = decide (x.col = 0)) := by show _ = _; rw [HB.out]; unfold aggB; rw [if_pos h0]
    clear h0 HB
    by_cases h1 : x.col = 0
    · have q1 : (x.col == 0) = true := by simp [h1]
      rw [decide_eq_true h1] at HE
      clear h1
      go_enter Tryz.func109, Tryz.ntmps109
      go_wp2_with fail
      go_ret
      exact ⟨by rw [HE.out]; rfl, belowA (Below.refl _ _) _⟩
    · have q1 : (x.col == 0) = false := by simp [h1]
      rw [decide_eq_false h1] at HE
      clear h1
      go_enter Tryz.func109, Tryz.ntmps109
      go_wp2_with fail
      go_ret
      exact ⟨by rw [HE.out]; rfl, belowA (Below.refl _ _) _⟩
  have q0 : (x.agg == 0) = false := by simp [h0]
  have HE : Hid (B = (decide (0 ≤ x.agg ∧ x.agg ≤ 4 ∧ 0 ≤ x.col) && varAt x.head.args x.col.toNat)) := by show _ = _; rw [HB.out]; unfold aggB; rw [if_neg h0]
  clear h0 HB
  by_cases hb : 0 ≤ x.agg ∧ x.agg ≤ 4 ∧ 0 ≤ x.col ∧ x.col < (a.n : Int)
  rotate_left
  · have HE2 : Hid (B = false) := by
      show _ = _
      rw [HE.out]
      by_cases h1 : 0 ≤ x.agg ∧ x.agg ≤ 4 ∧ 0 ≤ x.col
      · have : varAt x.head.args x.col.toNat = false := by
          unfold varAt
          rw [List.getElem?_eq_none (by have := Hlen.out; omega)]
        rw [this]; simp
      · rw [decide_eq_false h1]; rfl
    have hd : x.agg < 0 ∨ (¬ x.agg < 0 ∧ 4 < x.agg) ∨ (¬ x.agg < 0 ∧ ¬ 4 < x.agg ∧ x.col < 0) ∨ (¬ x.agg < 0 ∧ ¬ 4 < x.agg ∧ ¬ x.col < 0 ∧ (a.n : Int) ≤ x.col) := by omega
    clear HE hb
    rcases hd with h | ⟨h1, h⟩ | ⟨h1, h2, h⟩ | ⟨h1, h2, h3, h⟩ <;>
    · go_enter Tryz.func109, Tryz.ntmps109
      go_wp2_with fail
      go_ret
      exact ⟨by rw [HE2.out]; rfl, belowA (Below.refl _ _) _⟩
  obtain ⟨c1, c2, c3, c4⟩ := hb
  obtain ⟨k, hk⟩ : ∃ k : Nat, x.col = (k : Int) := ⟨x.col.toNat, by omega⟩
  have c5 : ¬ x.agg < 0 := by omega
  have c6 : ¬ 4 < x.agg := by omega
  have c7 : ¬ x.col < 0 := by omega
  have c8 : ¬ (a.n : Int) ≤ x.col := by omega
  have hkn : k < a.n := by omega
  obtain ⟨b, o, t, hA, hbb, ht, y0, -, -, -, -, -⟩ := HL.out.told_at hkn
  have HE2 : Hid (B = !decide (t.x.size = 0)) := by
    show _ = _
    rw [HE.out, decide_eq_true ⟨c1, c2, c3⟩, hk, Int.toNat_natCast]
    unfold varAt
    rw [ht.out]; rfl
  obtain ⟨A, n, c⟩ := a
  simp only at hA hkn c4 c8 hn
  subst hA
  rw [hk] at c3 c4 c7 c8
  have z0 := cellA (o := .cells #[.string x.head.rel, .slice (some ⟨b, o, none⟩) n c, .int .i64 x.agg, .int .i64 (k : Int), m.v, .int .i64 x.pos] 27) y0
  simp only [hk]
  clear HE HL Hlen ht hbb y0 hk c1 c2
  by_cases he : t.x.size = 0
  · have e0 : t.x.toList = [] := str_empty.2 he
    have e1 : t.x.toList.isEmpty = true := by rw [e0]; rfl
    have HE3 : Hid (B = false) := by show _ = _; rw [HE2.out, decide_eq_true he]; rfl
    clear he HE2
    dsimp only [Hd.v, ruleC]
    go_enter Tryz.func109, Tryz.ntmps109
    go_wp2_with fail
    go_ret
    exact ⟨by rw [HE3.out]; rfl, belowA (Below.refl _ _) _⟩
  · have e0 : ¬ t.x.toList = [] := fun h => he (str_empty.1 h)
    have e1 : t.x.toList.isEmpty = false := by cases hl : t.x.toList with
      | nil => exact absurd hl e0
      | cons _ _ => rfl
    have HE3 : Hid (B = true) := by show _ = _; rw [HE2.out, decide_eq_false he]; rfl
    clear he HE2
    dsimp only [Hd.v, ruleC]
    go_enter Tryz.func109, Tryz.ntmps109
    go_wp2_with fail
    go_ret
    exact ⟨by rw [HE3.out]; rfl, belowA (Below.refl _ _) _⟩

def rightRule (x : GRule) : Bool := atomB x.head && (aggB x && (decide (x.body.length ≤ 8) && x.body.all rightLit))
set_option maxRecDepth 100000 in
set_option maxHeartbeats 2000000 in
theorem rightRule_any (d : Nat) (x : GRule) (a m : Hd) (w : World) (h : RuleAt d w w.heap.size x a m) (hW : LexW w) : Calls Tryz.prog 67 #[.agg #[.string x.head.rel, a.v, .int .i64 x.agg, .int .i64 x.col, m.v, .int .i64 x.pos]] w (RetBool (rightRule x) w) := by
  obtain ⟨B, HB⟩ : ∃ B, Hid (B = rightRule x) := ⟨_, rfl⟩
  rw [← HB.out]
  have hrb : (w.alloc (.cells #[.string x.head.rel, a.v, .int .i64 x.agg, .int .i64 x.col, m.v, .int .i64 x.pos] 27)).heap[w.heap.size]? = some (.cells #[.string x.head.rel, a.v, .int .i64 x.agg, .int .i64 x.col, m.v, .int .i64 x.pos] 27 (0, 0)) := heapNew rfl
  have hba : Below w.heap.size w (w.alloc (.cells #[.string x.head.rel, a.v, .int .i64 x.agg, .int .i64 x.col, m.v, .int .i64 x.pos] 27)) := belowA (Below.refl _ _) _
  have hn := h.body.bound
  have Hlen := Lib.hid h.body.1
  have HH := Lib.hid (h.keep hba)
  have HW := Lib.hid (hW.on hba)
  clear h hW
  obtain ⟨P1, HP1⟩ : ∃ E, Hid (E = atomB x.head) := ⟨_, rfl⟩
  obtain ⟨P2, HP2⟩ : ∃ E, Hid (E = aggB x) := ⟨_, rfl⟩
  obtain ⟨P3, HP3⟩ : ∃ E, Hid (E = x.body.all rightLit) := ⟨_, rfl⟩
  have HE : Hid (B = (P1 && (P2 && (decide (x.body.length ≤ 8) && P3)))) := by show _ = _; rw [HB.out, HP1.out, HP2.out, HP3.out]; rfl
  have Hrow : Hid (∀ W, Below (w.alloc (.cells #[.string x.head.rel, a.v, .int .i64 x.agg, .int .i64 x.col, m.v, .int .i64 x.pos] 27)).heap.size (w.alloc (.cells #[.string x.head.rel, a.v, .int .i64 x.agg, .int .i64 x.col, m.v, .int .i64 x.pos] 27)) W → W.heap[w.heap.size]? = some (.cells #[.string x.head.rel, a.v, .int .i64 x.agg, .int .i64 x.col, m.v, .int .i64 x.pos] 27 (0, 0))) := fun W h => (h.block _ (Array.getElem?_eq_some_iff.1 hrb).1).trans hrb
  obtain ⟨f0_0, f0_1, f0_2, f0_3, f0_4, f0_5⟩ := facts6 hrb
  have C1 : Hid (∀ W, Below (w.alloc (.cells #[.string x.head.rel, a.v, .int .i64 x.agg, .int .i64 x.col, m.v, .int .i64 x.pos] 27)).heap.size (w.alloc (.cells #[.string x.head.rel, a.v, .int .i64 x.agg, .int .i64 x.col, m.v, .int .i64 x.pos] 27)) W → Calls Tryz.prog 108 #[.agg #[.string x.head.rel, a.v]] W (RetBool P1 W)) := fun W h => by rw [HP1.out]; exact aright_any x.head a W HH.out.rel (HH.out.args.keep h) (HW.out.on h)
  have C2 : Hid (∀ W, Below (w.alloc (.cells #[.string x.head.rel, a.v, .int .i64 x.agg, .int .i64 x.col, m.v, .int .i64 x.pos] 27)).heap.size (w.alloc (.cells #[.string x.head.rel, a.v, .int .i64 x.agg, .int .i64 x.col, m.v, .int .i64 x.pos] 27)) W → Calls Tryz.prog 109 #[.agg #[.string x.head.rel, a.v, .int .i64 x.agg, .int .i64 x.col, m.v, .int .i64 x.pos]] W (RetBool P2 W)) := fun W h => by rw [HP2.out]; exact agg_any x a m W (HH.out.args.keep h)
  have C3 : Hid (∀ W, Below (w.alloc (.cells #[.string x.head.rel, a.v, .int .i64 x.agg, .int .i64 x.col, m.v, .int .i64 x.pos] 27)).heap.size (w.alloc (.cells #[.string x.head.rel, a.v, .int .i64 x.agg, .int .i64 x.col, m.v, .int .i64 x.pos] 27)) W → Calls Tryz.prog 110 #[m.v, .func (.func 70) #[] #[]] W (RetBool P3 W)) := fun W h => by
    rw [HP3.out]
    exact everyL_any d m.A m.n m.c x.body W (HH.out.body.keep h) (fun y a p q W' hy h' => rightLit_any d y a p q W' hy ((HW.out.on h).on h'))
  clear hrb HB HP1 HP2 HP3 HH HW
  by_cases h8 : m.n ≤ 8
  · have z8 : (m.n : Int) ≤ 8 := by omega
    have HE2 : Hid (B = (P1 && (P2 && P3))) := by show _ = _; rw [HE.out, decide_eq_true (by rw [Hlen.out]; exact h8)]; rfl
    clear HE Hlen h8
    generalize hwb : (w.alloc (.cells #[.string x.head.rel, a.v, .int .i64 x.agg, .int .i64 x.col, m.v, .int .i64 x.pos] 27)) = wb at *
    have Hbw0 := Lib.hid (Below.refl wb.heap.size wb)
    go_enter Tryz.func67, Tryz.ntmps67
    go_wp2_with fail
    try simp only [hwb]
    go_wp2_with fail
    refine (C1.out _ Hbw0.out).mono ?_
    rintro e1 w1 ⟨rfl, hq1⟩
    have Hbw1 := Lib.hid (below_next Hbw0.out hq1)
    obtain ⟨f1_0, f1_1, f1_2, f1_3, f1_4, f1_5⟩ := facts6 (Hrow.out _ Hbw1.out)
    clear hq1 f0_0 f0_1 f0_2 f0_3 f0_4 f0_5
    cases P1 with
    | false =>
      go_wp2_with fail
      go_ret
      exact ⟨by rw [HE2.out]; rfl, below_next hba Hbw1.out⟩
    | true =>
      go_wp2_with fail
      refine (C2.out _ Hbw1.out).mono ?_
      rintro e2 w2 ⟨rfl, hq2⟩
      have Hbw2 := Lib.hid (below_next Hbw1.out hq2)
      obtain ⟨f2_0, f2_1, f2_2, f2_3, f2_4, f2_5⟩ := facts6 (Hrow.out _ Hbw2.out)
      clear hq2 f1_0 f1_1 f1_2 f1_3 f1_4 f1_5
      cases P2 with
      | false =>
        go_wp2_with fail
        go_ret
        exact ⟨by rw [HE2.out]; rfl, below_next hba Hbw2.out⟩
      | true =>
        go_wp2_with fail
        refine (C3.out _ Hbw2.out).mono ?_
        rintro e3 w3 ⟨rfl, hq3⟩
        have Hbw3 := Lib.hid (below_next Hbw2.out hq3)
        obtain ⟨f3_0, f3_1, f3_2, f3_3, f3_4, f3_5⟩ := facts6 (Hrow.out _ Hbw3.out)
        clear hq3 f2_0 f2_1 f2_2 f2_3 f2_4 f2_5
        cases P3 <;>
        · go_wp2_with fail
          go_ret
          exact ⟨by rw [HE2.out]; rfl, below_next hba Hbw3.out⟩
  · have z8 : ¬ (m.n : Int) ≤ 8 := by omega
    have HE2 : Hid (B = false) := by show _ = _; rw [HE.out, decide_eq_false (by rw [Hlen.out]; exact h8)]; simp
    clear HE Hlen h8 C3
    generalize hwb : (w.alloc (.cells #[.string x.head.rel, a.v, .int .i64 x.agg, .int .i64 x.col, m.v, .int .i64 x.pos] 27)) = wb at *
    have Hbw0 := Lib.hid (Below.refl wb.heap.size wb)
    go_enter Tryz.func67, Tryz.ntmps67
    go_wp2_with fail
    try simp only [hwb]
    go_wp2_with fail
    refine (C1.out _ Hbw0.out).mono ?_
    rintro e1 w1 ⟨rfl, hq1⟩
    have Hbw1 := Lib.hid (below_next Hbw0.out hq1)
    obtain ⟨f1_0, f1_1, f1_2, f1_3, f1_4, f1_5⟩ := facts6 (Hrow.out _ Hbw1.out)
    clear hq1 f0_0 f0_1 f0_2 f0_3 f0_4 f0_5
    cases P1 with
    | false =>
      go_wp2_with fail
      go_ret
      exact ⟨by rw [HE2.out]; rfl, below_next hba Hbw1.out⟩
    | true =>
      go_wp2_with fail
      refine (C2.out _ Hbw1.out).mono ?_
      rintro e2 w2 ⟨rfl, hq2⟩
      have Hbw2 := Lib.hid (below_next Hbw1.out hq2)
      obtain ⟨f2_0, f2_1, f2_2, f2_3, f2_4, f2_5⟩ := facts6 (Hrow.out _ Hbw2.out)
      clear hq2 f1_0 f1_1 f1_2 f1_3 f1_4 f1_5
      cases P2 <;>
      · go_wp2_with fail
        go_ret
        exact ⟨by rw [HE2.out]; rfl, below_next hba Hbw2.out⟩
end Go.Proofs.YtplekbpmfaghbaaGreatDoor

/- term.every over a list of rules. -/
namespace Go.Proofs.YtplekbpmfaghbaaGreatDoor
open Go.RowKit

set_option maxRecDepth 100000 in
set_option maxHeartbeats 1000000 in
theorem ev1R_any (x : GRule) (a m : Hd) (g : Nat) (w : World) (hg : w.cell? ⟨g, 0, none⟩ = some (.func (.func 67) #[] #[])) (HC : Hid (∀ W, Below w.heap.size w W → Calls Tryz.prog 67 #[.agg #[.string x.head.rel, a.v, .int .i64 x.agg, .int .i64 x.col, m.v, .int .i64 x.pos]] W (RetBool (rightRule x) W))) :
    Calls Tryz.prog 144 #[.agg #[.string x.head.rel, a.v, .int .i64 x.agg, .int .i64 x.col, m.v, .int .i64 x.pos], .pointer (some ⟨g, 0, none⟩)] w (RetBool (!rightRule x) w) := by
  have hrb : (w.alloc (.cells #[.string x.head.rel, a.v, .int .i64 x.agg, .int .i64 x.col, m.v, .int .i64 x.pos] 27)).heap[w.heap.size]? = some (.cells #[.string x.head.rel, a.v, .int .i64 x.agg, .int .i64 x.col, m.v, .int .i64 x.pos] 27 (0, 0)) := heapNew rfl
  obtain ⟨b0, b1, b2, b3, b4, b5⟩ := facts6 hrb
  have cg : (w.alloc (.cells #[.string x.head.rel, a.v, .int .i64 x.agg, .int .i64 x.col, m.v, .int .i64 x.pos] 27)).cell? ⟨g, 0, none⟩ = some (.func (.func 67) #[] #[]) := cellA hg
  clear hrb hg
  generalize rightRule x = B at *
  go_enter Tryz.func144, Tryz.ntmps144
  go_wp2_with fail
  refine (HC.out _ (by first | exact Below.refl _ _ | exact belowA (Below.refl _ _) _)).mono ?_
  rintro e w1 ⟨rfl, hb⟩
  have Hb := Lib.hid hb
  clear hb
  go_wp2_with fail
  go_ret
  exact ⟨rfl, below_next (belowA (Below.refl _ _) _) Hb.out⟩

set_option maxRecDepth 100000 in
set_option maxHeartbeats 1000000 in
theorem evIR_any (d : Nat) (A : Option Addr) (n c : Nat) (l : List GRule) (g : Nat) (w : World) (hl : SliceIs (Enc.rule d) w w.heap.size A n c l) (hg : w.cell? ⟨g, 0, none⟩ = some (.func (.func 67) #[] #[]))
    (HC : Hid (∀ (x : GRule) (a m : Hd) W, RuleAt d W W.heap.size x a m → Below w.heap.size w W → Calls Tryz.prog 67 #[.agg #[.string x.head.rel, a.v, .int .i64 x.agg, .int .i64 x.col, m.v, .int .i64 x.pos]] W (RetBool (rightRule x) W))) :
    Calls Tryz.prog 172 #[.slice A n c, .func (.func 144) #[] #[.pointer (some ⟨g, 0, none⟩)]] w (fun e w' => ∃ k : Int, e = .returned (.int .i64 k) ∧ decide (0 ≤ k) = !(l.all rightRule) ∧ Below w.heap.size w w') := by
  have hn := hl.bound
  have HL := Lib.hid hl
  have hlen := Lib.hid hl.1
  have Hg := Lib.hid hg
  clear hl hg
  go_enter Tryz.func172, Tryz.ntmps172
  go_wp2_with fail
  go_loopw [5, 8] (fun _ i wr => ∃ k : Nat, k ≤ n ∧ i = .int .i64 k ∧ Hid ((l.take k).all rightRule = true) ∧ Below w.heap.size w wr) (fun _ i _ => n - (intOf i).toNat)
  case atStart => exact ⟨0, by omega, rfl, by simp [Hid], Below.refl _ _⟩
  case round =>
    obtain ⟨k, hk, rfl, hpre, hbr⟩ := hrel
    by_cases hlt : k < n
    · have HLr := (HL.out.below hbr)
      obtain ⟨b, o, x, a, m, rfl, hbb, hx, hat, z0, z1, z2, z3, z4, z5⟩ := HLr.rule_at hlt
      have hokx : RuleAt d wr wr.heap.size x a m := hat.mono' hbr.size (Kept.of fun _ _ => rfl)
      have C := Lib.hid (ev1R_any x a m g wr (below_cell hbr Hg.out) (fun W hW => HC.out x a m W (hokx.keep hW) (below_next hbr hW)))
      have i0 : (0 : Int) ≤ (k : Int) := by omega
      have i1 : (k : Int) < (n : Int) := by omega
      have HT : Hid ((l.take (k + 1)).all rightRule = rightRule x) := by
        show _ = _
        obtain ⟨g1, g2⟩ := List.getElem?_eq_some_iff.1 hx.out
        rw [List.take_succ_eq_append_getElem g1, g2, List.all_append, hpre.out]; simp
      have HF : Hid (rightRule x = false → l.all rightRule = false) := fun h => by
        rw [List.all_eq_false]
        exact ⟨x, List.mem_of_getElem? hx.out, by simp [h]⟩
      clear HLr hokx
      generalize rightRule x = B at *
      cases B with
      | true =>
        clear HF
        go_wp2_with fail
        refine C.out.mono ?_
        rintro e w1 ⟨rfl, hb⟩
        have Hb := Lib.hid hb
        clear hb
        go_wp2_with fail
        go_roundw
        case rel => exact ⟨k + 1, by omega, by go_num, HT, below_next hbr Hb.out⟩
        case measure => simp [intOf]; omega
      | false =>
        have HF' : Hid (l.all rightRule = false) := HF.out rfl
        clear HF
        go_wp2_with fail
        refine C.out.mono ?_
        rintro e w1 ⟨rfl, hb⟩
        have Hb := Lib.hid hb
        clear hb
        go_wp2_with fail
        go_ret
        exact ⟨_, rfl, by rw [HF'.out]; simp, below_next hbr Hb.out⟩
    · have i1 : ¬ (k : Int) < (n : Int) := by omega
      have HA : Hid (l.all rightRule = true) := by
        show _ = _
        have h := hpre.out
        rw [List.take_of_length_le (by have := hlen.out; omega)] at h
        exact h
      go_wp2_with fail
      go_ret
      exact ⟨_, rfl, by rw [HA.out]; rfl, hbr⟩

set_option maxRecDepth 100000 in
set_option maxHeartbeats 1000000 in
theorem everyR_any (d : Nat) (A : Option Addr) (n c : Nat) (l : List GRule) (w : World) (hl : SliceIs (Enc.rule d) w w.heap.size A n c l)
    (HC : Hid (∀ (x : GRule) (a m : Hd) W, RuleAt d W W.heap.size x a m → Below w.heap.size w W → Calls Tryz.prog 67 #[.agg #[.string x.head.rel, a.v, .int .i64 x.agg, .int .i64 x.col, m.v, .int .i64 x.pos]] W (RetBool (rightRule x) W))) :
    Calls Tryz.prog 98 #[.slice A n c, .func (.func 67) #[] #[]] w (RetBool (l.all rightRule) w) := by
  have hba : Below w.heap.size w (w.alloc (.cells #[.func (.func 67) #[] #[]] 141)) := belowA (Below.refl _ _) _
  have C := Lib.hid (evIR_any d A n c l w.heap.size (w.alloc (.cells #[.func (.func 67) #[] #[]] 141)) (hl.keep hba) ((cell_of_row _ _ 0 _ _ _ (heapNew rfl)).trans rfl) (fun x a m W h hW => HC.out x a m W h (below_next hba hW)))
  generalize l.all rightRule = B at *
  clear hl HC
  have CC : Hid (Calls Tryz.prog 143 #[.slice A n c, .func (.func 144) #[] #[.pointer (some ⟨w.heap.size, 0, none⟩)]] (w.alloc (.cells #[.func (.func 67) #[] #[]] 141)) (RetBool (!B) (w.alloc (.cells #[.func (.func 67) #[] #[]] 141)))) := by
    show Calls _ _ _ _ _
    generalize w.alloc (.cells #[.func (.func 67) #[] #[]] 141) = wb at *
    go_enter Tryz.func143, Tryz.ntmps143
    go_wp2_with fail
    refine C.out.mono ?_
    rintro e w1 ⟨k, rfl, hk, hb⟩
    have Hb := Lib.hid hb
    have Hk := Lib.hid hk
    clear hb hk
    go_wp2_with fail
    go_ret
    exact ⟨by rw [← Hk.out]; rfl, Hb.out⟩
  clear C
  go_enter Tryz.func98, Tryz.ntmps98
  go_wp2_with fail
  refine CC.out.mono ?_
  rintro e w1 ⟨rfl, hb⟩
  have Hb := Lib.hid hb
  clear hb CC
  go_wp2_with fail
  go_ret
  exact ⟨by cases B <;> rfl, below_next hba Hb.out⟩
end Go.Proofs.YtplekbpmfaghbaaGreatDoor

/- term.Formed. -/
namespace Go.Proofs.YtplekbpmfaghbaaGreatDoor
open Go.RowKit

def formedB (x : GProg) : Bool := (decide (x.decls.length ≤ 32) && decide (x.rules.length ≤ 64)) && (x.decls.all declB && x.rules.all rightRule)
set_option maxRecDepth 100000 in
set_option maxHeartbeats 2000000 in
theorem formed_any (d : Nat) (x : GProg) (a b : Hd) (w : World) (h : ProgAt d w w.heap.size x a b) (hW : LexW w) : Calls Tryz.prog 51 #[.agg #[a.v, b.v]] w (RetBool (formedB x) w) := by
  obtain ⟨B, HB⟩ : ∃ B, Hid (B = formedB x) := ⟨_, rfl⟩
  rw [← HB.out]
  have hrb : (w.alloc (.cells #[a.v, b.v] 74)).heap[w.heap.size]? = some (.cells #[a.v, b.v] 74 (0, 0)) := heapNew rfl
  have hba : Below w.heap.size w (w.alloc (.cells #[a.v, b.v] 74)) := belowA (Below.refl _ _) _
  have hna := h.decls.bound
  have hnb := h.rules.bound
  have Hla := Lib.hid h.decls.1
  have Hlb := Lib.hid h.rules.1
  have HH := Lib.hid (h.keep hba)
  have HW := Lib.hid (hW.on hba)
  clear h hW
  obtain ⟨P1, HP1⟩ : ∃ E, Hid (E = x.decls.all declB) := ⟨_, rfl⟩
  obtain ⟨P2, HP2⟩ : ∃ E, Hid (E = x.rules.all rightRule) := ⟨_, rfl⟩
  have HE : Hid (B = ((decide (x.decls.length ≤ 32) && decide (x.rules.length ≤ 64)) && (P1 && P2))) := by show _ = _; rw [HB.out, HP1.out, HP2.out]; rfl
  have Hrow : Hid (∀ W, Below (w.alloc (.cells #[a.v, b.v] 74)).heap.size (w.alloc (.cells #[a.v, b.v] 74)) W → W.heap[w.heap.size]? = some (.cells #[a.v, b.v] 74 (0, 0))) := fun W h => (h.block _ (Array.getElem?_eq_some_iff.1 hrb).1).trans hrb
  obtain ⟨f0_0, f0_1⟩ := facts2 hrb
  have C1 : Hid (∀ W, Below (w.alloc (.cells #[a.v, b.v] 74)).heap.size (w.alloc (.cells #[a.v, b.v] 74)) W → Calls Tryz.prog 96 #[a.v, .func (.func 97) #[] #[]] W (RetBool P1 W)) := fun W h => by
    rw [HP1.out]
    exact everyD_any a.A a.n a.c x.decls W (HH.out.decls.keep h) (fun y a W' hy h' => declared_any y a W' hy ((HW.out.on h).on h'))
  have C2 : Hid (∀ W, Below (w.alloc (.cells #[a.v, b.v] 74)).heap.size (w.alloc (.cells #[a.v, b.v] 74)) W → Calls Tryz.prog 98 #[b.v, .func (.func 67) #[] #[]] W (RetBool P2 W)) := fun W h => by
    rw [HP2.out]
    exact everyR_any d b.A b.n b.c x.rules W (HH.out.rules.keep h) (fun y a m W' hy h' => rightRule_any d y a m W' hy ((HW.out.on h).on h'))
  clear hrb HB HP1 HP2 HH HW
  by_cases h1 : a.n ≤ 32
  rotate_left
  · have z1 : ¬ (a.n : Int) ≤ 32 := by omega
    have HE2 : Hid (B = false) := by show _ = _; rw [HE.out, decide_eq_false (by rw [Hla.out]; exact h1)]; rfl
    clear HE Hla Hlb h1 C1 C2
    go_enter Tryz.func51, Tryz.ntmps51
    go_wp2_with fail
    go_ret
    exact ⟨by rw [HE2.out]; rfl, hba⟩
  have z1 : (a.n : Int) ≤ 32 := by omega
  by_cases h2 : b.n ≤ 64
  rotate_left
  · have z2 : ¬ (b.n : Int) ≤ 64 := by omega
    have HE2 : Hid (B = false) := by show _ = _; rw [HE.out, decide_eq_false (show ¬ x.rules.length ≤ 64 by rw [Hlb.out]; exact h2)]; simp
    clear HE Hla Hlb h1 h2 C1 C2
    go_enter Tryz.func51, Tryz.ntmps51
    go_wp2_with fail
    go_ret
    exact ⟨by rw [HE2.out]; rfl, hba⟩
  have z2 : (b.n : Int) ≤ 64 := by omega
  have HE2 : Hid (B = (P1 && P2)) := by show _ = _; rw [HE.out, decide_eq_true (show x.decls.length ≤ 32 by rw [Hla.out]; exact h1), decide_eq_true (show x.rules.length ≤ 64 by rw [Hlb.out]; exact h2)]; rfl
  clear HE Hla Hlb h1 h2
  generalize hwb : (w.alloc (.cells #[a.v, b.v] 74)) = wb at *
  have Hbw0 := Lib.hid (Below.refl wb.heap.size wb)
  go_enter Tryz.func51, Tryz.ntmps51
  go_wp2_with fail
  try simp only [hwb]
  go_wp2_with fail
  refine (C1.out _ Hbw0.out).mono ?_
  rintro e1 w1 ⟨rfl, hq1⟩
  have Hbw1 := Lib.hid (below_next Hbw0.out hq1)
  obtain ⟨f1_0, f1_1⟩ := facts2 (Hrow.out _ Hbw1.out)
  clear hq1 f0_0 f0_1
  cases P1 with
  | false =>
    go_wp2_with fail
    go_ret
    exact ⟨by rw [HE2.out]; rfl, below_next hba Hbw1.out⟩
  | true =>
    go_wp2_with fail
    refine (C2.out _ Hbw1.out).mono ?_
    rintro e2 w2 ⟨rfl, hq2⟩
    have Hbw2 := Lib.hid (below_next Hbw1.out hq2)
    obtain ⟨f2_0, f2_1⟩ := facts2 (Hrow.out _ Hbw2.out)
    clear hq2 f1_0 f1_1
    cases P2 <;>
    · go_wp2_with fail
      go_ret
      exact ⟨by rw [HE2.out]; rfl, below_next hba Hbw2.out⟩
end Go.Proofs.YtplekbpmfaghbaaGreatDoor

/- What is parsed without a failure is right: terms, atoms, literals, rules, declarations, programs. Plain. -/
namespace Go.Proofs.YtplekbpmfaghbaaGreatDoor
open Go.RowKit

theorem single_tok {k : Int} {t : List UInt8} (h : TextOf wordK k t) (hl : t.length ≤ 4000) : singleB k (bytes t) = true := by
  have hb := lex_back (wk := wordK) [⟨k, t, 0⟩] 0 (fun q hq => by simp at hq; subst hq; exact h)
  obtain ⟨h1, h2⟩ := hb
  have e1 : joinS (([⟨k, t, 0⟩] : List GTok).map GTok.t) = t := rfl
  rw [e1] at h1 h2
  have e2 : (bytes t).toList = t := toList_mk t
  unfold singleB lexS
  rw [e2]
  have hs : (bytes t).size = t.length := rfl
  rw [hs]
  cases hL : lexA wordK 0 t with
  | mk l r =>
    rw [hL] at h1 h2
    dsimp only at h1 h2
    subst h1
    unfold Same at h2
    match l, h2 with
    | [], h2 => simp at h2
    | [q], h2 =>
      simp only [List.map_cons, List.map_nil, List.cons.injEq, Prod.mk.injEq, and_true] at h2
      simp [hl, h2.1, h2.2]
    | a :: b :: r, h2 => simp at h2
/-- the tokens of a text -/
structure Toks (T : List GTok) (E : Nat) : Prop where
  within : Within T E
  texts : ∀ q ∈ T, TextOf wordK q.k q.t
  short : ∀ q ∈ T, q.t.length ≤ 4000
theorem refNum_of_four {t : List UInt8} (h : TextOf wordK 4 t) : ∃ n : Nat, n ≤ 2147483647 ∧ numT t = (n : Int) := by
  obtain ⟨-, ⟨hw, -, hins, -⟩ | ⟨h5, -⟩⟩ := h
  · have hr : (refNum t).isSome = true := by
      unfold wordK at hw
      split at hw
      · cases hw
      · split at hw
        · cases hw
        · split at hw
          · cases hw
          · split at hw
            · assumption
            · cases hw
    obtain ⟨n, hn⟩ := Option.isSome_iff_exists.1 hr
    obtain ⟨e, h1, h2⟩ := refNum_some hn
    have h0 : 0 ≤ n := by
      by_cases h0 : 0 ≤ n
      · exact h0
      · exfalso
        have : (45 : UInt8) ∈ t := by
          rw [e]; unfold Lib.itoa; rw [if_pos (by omega)]; simp
        have := hins 45 this
        revert this; decide
    have ha := (refNum_itoa h1 h2).2
    rw [← e] at ha
    obtain ⟨m, rfl⟩ : ∃ m : Nat, n = (m : Int) := ⟨n.toNat, by omega⟩
    exact ⟨m, by omega, by unfold numT; rw [ha]⟩
  · cases h5
theorem name_of_two {t : List UInt8} (h : TextOf wordK 2 t) : nameOk (bytes t) = true := by
  obtain ⟨-, ⟨hw, -, -, -⟩ | ⟨h5, -⟩⟩ := h
  · unfold wordK at hw
    split at hw
    · cases hw
    · split at hw
      · assumption
      · split at hw
        · cases hw
        · split at hw <;> cases hw
  · cases h5
theorem text_ne {k : Int} {t : List UInt8} (h : TextOf wordK k t) (hk : k ≠ 5) : t ≠ [] := by
  obtain ⟨-, ⟨-, h1, -, -⟩ | ⟨h5, -⟩⟩ := h
  · exact h1
  · exact absurd h5 hk
section
variable {T : List GTok} {E : Nat}
theorem fail_err (s : PS) (a : Nat) {e : Int} (he : e ≠ 0) : (failP T s a e).err ≠ 0 := by
  unfold failP
  split
  · exact he
  · assumption
theorem peek_mem {s : PS} {k : Nat} (h : (peekP T E s k).k ≠ 0) : peekP T E s k ∈ T := List.mem_of_getElem? (peek_at (peek_some h))
theorem take_ok {s : PS} {k : Int} (h : (takeP T E s k).err = 0) : (peekP T E s 0).k = k ∧ takeT T E s k = (peekP T E s 0).t := by
  unfold takeP at h
  unfold takeT
  by_cases hk : (peekP T E s 0).k = k
  · exact ⟨hk, by rw [if_pos hk]⟩
  · rw [if_neg hk] at h
    exact absurd h (fail_err s _ (by decide))
theorem want_ok {s : PS} {t : List UInt8} (h : (wantP T E s t).err = 0) : isP T E s t = true := by
  unfold wantP at h
  by_cases hk : isP T E s t = true
  · exact hk
  · rw [if_neg hk] at h
    exact absurd h (fail_err s _ (by decide))
theorem Goes.err0 {s s' : PS} (h : Goes T E s s') (hf : Fine T E s) (he : s'.err = 0) : s.err = 0 := Classical.byContradiction fun hn => (h hf).err hn he
theorem term_right (hX : Toks T E) (s : PS) (h : (termP T E s).1.err = 0) : rightT (termP T E s).2 = true := by
  unfold termP at h ⊢
  dsimp only at h ⊢
  by_cases k4 : (peekP T E (mayP T E s [45]) 0).k = 4
  · rw [if_pos k4] at h ⊢
    have ht := hX.texts _ (peek_mem (by rw [k4]; decide))
    rw [k4] at ht
    obtain ⟨n, h1, h2⟩ := refNum_of_four ht
    unfold rightT rightB
    dsimp only
    rw [h2]
    have e0 : (⟨#[]⟩ : ByteArray).size = 0 := rfl
    simp only [e0, if_true]
    split <;> simp <;> omega
  · rw [if_neg k4] at h ⊢
    by_cases hm : isP T E s [45] = true
    · rw [if_pos hm] at h; exact absurd h (fail_err _ _ (by decide))
    · rw [if_neg hm] at h ⊢
      by_cases k3 : (peekP T E (mayP T E s [45]) 0).k = 3
      · rw [if_pos k3] at h ⊢
        have hmm := peek_mem (T := T) (E := E) (s := mayP T E s [45]) (k := 0) (by rw [k3]; decide)
        have ht := hX.texts _ hmm
        rw [k3] at ht
        have hne := text_ne ht (by decide)
        unfold rightT
        dsimp only
        rw [if_neg (show ¬ (bytes (peekP T E (mayP T E s [45]) 0).t).size = 0 from fun e => hne (List.eq_nil_of_length_eq_zero e)), single_tok ht (hX.short _ hmm)]
        simp
      · rw [if_neg k3] at h ⊢
        by_cases k2 : (peekP T E (mayP T E s [45]) 0).k = 2
        · rw [if_pos k2] at h ⊢
          have ht := hX.texts _ (peek_mem (T := T) (E := E) (s := mayP T E s [45]) (k := 0) (by rw [k2]; decide))
          rw [k2] at ht
          unfold rightT rightB
          dsimp only
          have e0 : (⟨#[]⟩ : ByteArray).size = 0 := rfl
          simp [e0, name_of_two ht]
        · rw [if_neg k2] at h; exact absurd h (fail_err _ _ (by decide))
/-- things read with commas between, nothing failing -/
theorem loop_ok {σ : Type} (most : Nat) (rd : Nat → PS × σ → PS × σ) (hg : ∀ i x, Goes T E x.1 (rd i x).1) (I : Nat → σ → Prop) (hI : ∀ i x, Fine T E x.1 → I i x.2 → (rd i x).1.err = 0 → I (i + 1) (rd i x).2) :
    ∀ (f i : Nat) (x : PS × σ), Fine T E x.1 → I i x.2 → f + i = most + 1 → i ≤ most → (loopP T E most rd f i x).1.err = 0 → ∃ j, j ≤ most ∧ I j (loopP T E most rd f i x).2
  | 0, i, x, hf, hi, hfi, him, h => by omega
  | f + 1, i, x, hf, hi, hfi, him, h => by
    rw [loopP] at h ⊢
    by_cases he : x.1.err ≠ 0
    · rw [if_pos he] at h; exact absurd h he
    · rw [if_neg he] at h ⊢
      by_cases hm : most ≤ i
      · rw [if_pos hm] at h; exact absurd h (fail_err _ _ (by decide))
      · rw [if_neg hm] at h ⊢
        have hf2 := (hg i x hf).fine hf
        by_cases hc : isP T E (rd i x).1 [44] = true
        · rw [if_pos hc] at h ⊢
          exact loop_ok most rd hg I hI f (i + 1) ((rd i x).1.up, (rd i x).2) ((up_adv (is_some hc)).fine hf2) (hI i x hf hi (is_err hf2 hc)) (by omega) (by omega) h
        · rw [if_neg hc] at h ⊢
          exact ⟨i + 1, by omega, hI i x hf hi h⟩
theorem commas_ok (hW : Within T E) {σ : Type} (most : Nat) (rd : Nat → PS × σ → PS × σ) (hg : ∀ i x, Goes T E x.1 (rd i x).1) (I : Nat → σ → Prop) (hI : ∀ i x, Fine T E x.1 → I i x.2 → (rd i x).1.err = 0 → I (i + 1) (rd i x).2) (x : PS × σ) (hf : Fine T E x.1) (h0 : I 0 x.2)
    (h : (commasP T E most rd x).1.err = 0) : ∃ j, j ≤ most ∧ I j (commasP T E most rd x).2 := by
  unfold commasP at h ⊢
  by_cases hc : isP T E (wantP T E x.1 [40]) [41] = true
  · rw [if_pos hc] at h ⊢
    exact ⟨0, Nat.zero_le _, h0⟩
  · rw [if_neg hc] at h ⊢
    dsimp only at h ⊢
    have hf1 := (want_goes hW x.1 [40] hf).fine hf
    have hf2 := (loop_goes hW most rd hg (most + 1) 0 (wantP T E x.1 [40], x.2) hf1).fine hf1
    have he := Goes.err0 (want_goes hW _ [41]) hf2 h
    exact loop_ok most rd hg I hI (most + 1) 0 (wantP T E x.1 [40], x.2) hf1 h0 (by omega) (Nat.zero_le _) he
theorem take_single (hX : Toks T E) {s : PS} {k : Nat} (hk : k ≠ 0) (h : (takeP T E s k).err = 0) : singleB k (bytes (takeT T E s k)) = true ∧ (k ≠ 5 → takeT T E s k ≠ []) := by
  obtain ⟨h1, h2⟩ := take_ok h
  have hm := peek_mem (T := T) (E := E) (s := s) (k := 0) (by rw [h1]; omega)
  have ht := hX.texts _ hm
  rw [h1] at ht
  rw [h2]
  exact ⟨single_tok ht (hX.short _ hm), fun h5 => text_ne ht (by omega)⟩
theorem atom_right (hX : Toks T E) (s : PS) (hf : Fine T E s) (h : (atomP T E s).1.err = 0) : atomB (atomP T E s).2 = true := by
  have hg : ∀ i (x : PS × List GTold), Goes T E x.1 (argsR T E i x).1 := fun _ x => term_goes hX.within x.1
  have hf1 := (take_goes hX.within s (k := 2) (by decide) hf).fine hf
  obtain ⟨j, hj, hl, ha⟩ := commas_ok hX.within 6 (argsR T E) hg (fun i l => l.length = i ∧ ∀ t ∈ l, rightT t = true) (fun i x _ hi he => ⟨by simp [argsR, hi.1], fun t ht => by
    rcases List.mem_append.1 ht with ht | ht
    · exact hi.2 t ht
    · simp only [List.mem_singleton] at ht
      rw [ht]; exact term_right hX x.1 he⟩) (takeP T E s 2, []) hf1 ⟨rfl, fun _ h => by cases h⟩ h
  have he := Goes.err0 (commas_goes hX.within 6 (argsR T E) hg (takeP T E s 2, [])) hf1 h
  have h1 := (take_single hX (k := 2) (by decide) he).1
  unfold atomB
  rw [Bool.and_eq_true, Bool.and_eq_true]
  exact ⟨h1, by simp only [decide_eq_true_eq]; exact hl ▸ hj, List.all_eq_true.2 ha⟩
theorem sgnN_le (t : List UInt8) : sgnN t ≤ 6 := by
  unfold sgnN
  repeat' split
  all_goals decide
theorem compared_right (hW : Within T E) (p : Nat) (s : PS) (h : (comparedP T E p s).1.err = 0) : rightLit (comparedP T E p s).2 = true := by
  unfold comparedP at h ⊢
  dsimp only at h ⊢
  by_cases hq : (peekP T E (sumP T E 20 s).1 0).k = 5 ∧ sgnN (peekP T E (sumP T E 20 s).1 0).t ≠ 0
  · rw [if_pos hq] at h ⊢
    have hs := sgnN_le (peekP T E (sumP T E 20 s).1 0).t
    generalize peekP T E (sumP T E 20 s).1 0 = q at *
    generalize hy : sumP T E 20 (wantP T E (sumP T E 20 s).1 q.t) = y at *
    generalize hx : sumP T E 20 s = x at *
    by_cases hc : y.1.err = 0 ∧ ¬ (rightE 20 x.2 = true ∧ rightE 20 y.2 = true)
    · rw [if_pos hc] at h; exact absurd h (fail_err _ _ (by decide))
    · rw [if_neg hc] at h
      have hr : rightE 20 x.2 = true ∧ rightE 20 y.2 = true := Classical.byContradiction fun hn => hc ⟨h, hn⟩
      unfold rightLit cmpB2
      dsimp only
      rw [if_neg (by decide), hr.1, hr.2]
      have e0 : (⟨#[]⟩ : ByteArray).size = 0 := rfl
      simp [e0]
      have := hq.2
      omega
  · rw [if_neg hq] at h; exact absurd h (fail_err _ _ (by decide))
theorem noneE_z : noneE zE = true := by unfold noneE zE; simp [GExp.op, GExp.t, GExp.kids]
theorem literal_right (hX : Toks T E) (s : PS) (hf : Fine T E s) (h : (literalP T E s).1.err = 0) : rightLit (literalP T E s).2 = true := by
  unfold literalP at h ⊢
  dsimp only at h ⊢
  by_cases hn : isP T E s [110, 111, 116] = true
  · rw [if_pos hn] at h ⊢
    have := atom_right hX s.up ((up_adv (is_some hn)).fine hf) h
    unfold rightLit
    simp [this, noneE_z]
  · rw [if_neg hn] at h ⊢
    by_cases ha : (peekP T E s 0).k = 2 ∧ (peekP T E s 1).k = 5 ∧ (peekP T E s 1).t = [40]
    · rw [if_pos ha] at h ⊢
      have := atom_right hX s hf h
      unfold rightLit
      simp [this, noneE_z]
    · rw [if_neg ha] at h ⊢
      exact compared_right hX.within _ s h
/-- a head under way is right -/
structure HeadI (i : Nat) (x : PH) : Prop where
  len : x.args.length = i
  args : ∀ t ∈ x.args, rightT t = true
  agg : x.agg = 0 ∧ x.col = 0 ∨ (1 ≤ x.agg ∧ x.agg ≤ 4 ∧ 0 ≤ x.col ∧ varAt x.args x.col.toNat = true)
theorem aggN_le (t : List UInt8) : aggN t ≤ 4 := by
  unfold aggN
  repeat' split
  all_goals decide
theorem varAt_append {l m : List GTold} {k : Nat} (h : varAt l k = true) : varAt (l ++ m) k = true := by
  unfold varAt at h ⊢
  cases hl : l[k]? with
  | none => rw [hl] at h; cases h
  | some t =>
    rw [hl] at h
    rw [List.getElem?_append_left (List.getElem?_eq_some_iff.1 hl).1, hl]; exact h
theorem headR_ok (hX : Toks T E) (i : Nat) (x : PS × PH) (hf : Fine T E x.1) (hi : HeadI i x.2) (h : (headR T E i x).1.err = 0) : HeadI (i + 1) (headR T E i x).2 := by
  unfold headR at h ⊢
  dsimp only at h ⊢
  by_cases hq : (peekP T E x.1 0).k = 1 ∧ aggN (peekP T E x.1 0).t ≠ 0
  · rw [if_pos hq] at h ⊢
    dsimp only at h ⊢
    have hle := aggN_le (peekP T E x.1 0).t
    generalize (peekP T E x.1 0).t = qt at *
    generalize hs2 : wantP T E (wantP T E (if 0 < x.2.agg then failP T x.1 (peekP T E x.1 0).a 2 else x.1) qt) [40] = s2 at *
    have hf1 : Fine T E (if 0 < x.2.agg then failP T x.1 (peekP T E x.1 0).a 2 else x.1) := by
      split
      · exact (fail_goes x.1 (peek_le hX.within _ _) (by decide) hf).fine hf
      · exact hf
    have hf2 : Fine T E s2 := by
      rw [← hs2]
      have h3 := (want_goes hX.within _ qt hf1).fine hf1
      exact (want_goes hX.within _ [40] h3).fine h3
    have hf3 := (take_goes hX.within s2 (k := 3) (by decide) hf2).fine hf2
    have he3 := Goes.err0 (want_goes hX.within _ [41]) hf3 h
    obtain ⟨hsg, hne⟩ := take_single hX (k := 3) (by decide) he3
    have hne := hne (by decide)
    refine ⟨by simp [hi.len], fun t ht => ?_, .inr ⟨?_, ?_, ?_, ?_⟩⟩
    · rcases List.mem_append.1 ht with ht | ht
      · exact hi.args t ht
      · simp only [List.mem_singleton] at ht
        rw [ht]
        unfold rightT
        dsimp only
        rw [if_neg (show ¬ (bytes (takeT T E s2 3)).size = 0 from fun e => hne (List.eq_nil_of_length_eq_zero e))]
        have hsg2 : singleB 3 (bytes (takeT T E s2 3)) = true := hsg
        rw [hsg2]; simp
    · have := hq.2; dsimp only; omega
    · dsimp only; omega
    · dsimp only; omega
    · dsimp only
      unfold varAt
      rw [show ((i : Int).toNat) = x.2.args.length by rw [hi.len]; rfl, List.getElem?_append_right (Nat.le_refl _)]
      simp only [Nat.sub_self, List.getElem?_cons_zero, Bool.not_eq_true', decide_eq_false_iff_not]
      exact fun e => hne (List.eq_nil_of_length_eq_zero e)
  · rw [if_neg hq] at h ⊢
    have hr := term_right hX x.1 h
    refine ⟨by simp [hi.len], fun t ht => ?_, ?_⟩
    · rcases List.mem_append.1 ht with ht | ht
      · exact hi.args t ht
      · simp only [List.mem_singleton] at ht
        rw [ht]; exact hr
    · rcases hi.agg with h0 | ⟨h1, h2, h3, h4⟩
      · exact .inl h0
      · exact .inr ⟨h1, h2, h3, varAt_append h4⟩
theorem rule_right (hX : Toks T E) (s : PS) (hf : Fine T E s) (h : (ruleP T E s).1.err = 0) : rightRule (ruleP T E s).2 = true := by
  have hW := hX.within
  unfold ruleP at h ⊢
  dsimp only at h ⊢
  have hfh := (head_goes hW s hf).fine hf
  have hfb := (body_goes hW (headP T E s).1 hfh).fine hfh
  have heb := Goes.err0 (want_goes hW _ [46]) hfb h
  have heh := Goes.err0 (body_goes hW (headP T E s).1) hfh heb
  have hft := (take_goes hW s (k := 2) (by decide) hf).fine hf
  have het := Goes.err0 (commas_goes hW 6 (headR T E) (headR_goes hW) (takeP T E s 2, ⟨[], 0, 0⟩)) hft heh
  have hrel := (take_single hX (k := 2) (by decide) het).1
  obtain ⟨j, hj, hI⟩ := commas_ok hW 6 (headR T E) (headR_goes hW) HeadI (fun i x hf hi he => headR_ok hX i x hf hi he) (takeP T E s 2, ⟨[], 0, 0⟩) hft ⟨rfl, (fun _ h => by cases h), .inl ⟨rfl, rfl⟩⟩ heh
  have hI2 : HeadI j (headP T E s).2 := hI
  have hbody : (bodyP T E (headP T E s).1).2.length ≤ 8 ∧ ∀ y ∈ (bodyP T E (headP T E s).1).2, rightLit y = true := by
    unfold bodyP at heb ⊢
    by_cases hc : isP T E (headP T E s).1 [58, 45] = true
    · rw [if_pos hc] at heb ⊢
      have hfu := (up_adv (is_some hc)).fine hfh
      obtain ⟨k, hk, h1, h2⟩ := loop_ok 8 (bodyR T E) (fun _ x => literal_goes hW x.1) (fun i l => l.length = i ∧ ∀ y ∈ l, rightLit y = true) (fun i x hf hi he => ⟨by simp [bodyR, hi.1], fun t ht => by
        rcases List.mem_append.1 ht with ht | ht
        · exact hi.2 t ht
        · simp only [List.mem_singleton] at ht
          rw [ht]; exact literal_right hX x.1 hf he⟩) 9 0 ((headP T E s).1.up, []) hfu ⟨rfl, fun _ h => by cases h⟩ rfl (by decide) heb
      exact ⟨h1 ▸ hk, h2⟩
    · rw [if_neg hc]
      exact ⟨Nat.zero_le _, fun _ h => by cases h⟩
  unfold rightRule atomB aggB
  dsimp only
  rw [Bool.and_eq_true, Bool.and_eq_true, Bool.and_eq_true, Bool.and_eq_true, Bool.and_eq_true]
  refine ⟨⟨hrel, by simp only [decide_eq_true_eq]; exact hI2.len ▸ hj, List.all_eq_true.2 hI2.args⟩, ?_, by simpa using hbody.1, List.all_eq_true.2 hbody.2⟩
  rcases hI2.agg with ⟨h0, h1⟩ | ⟨h1, h2, h3, h4⟩
  · rw [if_pos h0]; simpa using h1
  · rw [if_neg (by omega), h4]
    simp; omega
theorem decl_right (hX : Toks T E) (s : PS) (hf : Fine T E s) (h : (declP T E s).1.err = 0) : declB (declP T E s).2 = true := by
  have hW := hX.within
  unfold declP at h ⊢
  dsimp only at h ⊢
  have hf1 := (want_goes hW s relW hf).fine hf
  have hf2 := (take_goes hW _ (k := 2) (by decide) hf1).fine hf1
  have hf3 := (commas_goes hW 6 (kindR T E) (kindR_goes hW) (takeP T E (wantP T E s relW) 2, []) hf2).fine hf2
  have he3 := Goes.err0 (want_goes hW _ [46]) hf3 h
  have he2 := Goes.err0 (commas_goes hW 6 (kindR T E) (kindR_goes hW) (takeP T E (wantP T E s relW) 2, [])) hf2 he3
  have hrel := (take_single hX (k := 2) (by decide) he2).1
  obtain ⟨j, hj, h1, h2⟩ := commas_ok hW 6 (kindR T E) (kindR_goes hW) (fun i l => l.length = i ∧ ∀ k ∈ l, kindB k = true) (fun i x hf hi he => by
    unfold kindR
    split
    · exact ⟨by simp [hi.1], fun t ht => by
        rcases List.mem_append.1 ht with ht | ht
        · exact hi.2 t ht
        · simp only [List.mem_singleton] at ht
          rw [ht]; decide⟩
    · exact ⟨by simp [hi.1], fun t ht => by
        rcases List.mem_append.1 ht with ht | ht
        · exact hi.2 t ht
        · simp only [List.mem_singleton] at ht
          rw [ht]; decide⟩) (takeP T E (wantP T E s relW) 2, []) hf2 ⟨rfl, fun _ h => by cases h⟩ he3
  unfold declB
  dsimp only
  rw [Bool.and_eq_true, Bool.and_eq_true]
  exact ⟨hrel, by simp only [decide_eq_true_eq]; exact h1 ▸ hj, List.all_eq_true.2 h2⟩
/-- the places of rules go up -/
def PlUp (T : List GTok) (E : Nat) (s : PS) (l : List GRule) : Prop := ∀ r ∈ l, r.pos < (peekP T E s 0).a ∨ T.length ≤ s.next
structure ProgI (T : List GTok) (E : Nat) (x : PS × GProg) : Prop where
  fine : Fine T E x.1
  decls : x.1.err = 0 → (∀ y ∈ x.2.decls, declB y = true) ∧ ∀ y ∈ x.2.rules, rightRule y = true
  nd : x.2.decls.length ≤ 32
  nr : x.2.rules.length ≤ 64
theorem prog_right (hX : Toks T E) : ∀ (f : Nat) (x : PS × GProg), ProgI T E x → ProgI T E (progL T E f x)
  | 0, x, h => h
  | f + 1, x, h => by
    have hW := hX.within
    rw [progL]
    split
    · rename_i hc
      split
      · rename_i hr
        split
        · exact ⟨(fail_goes _ (peek_le hW _ _) (by decide) h.fine).fine h.fine, fun he => absurd he (fail_err _ _ (by decide)), h.nd, h.nr⟩
        · rename_i hm
          refine prog_right hX f _ ⟨(decl_goes hW x.1 h.fine).fine h.fine, fun he => ⟨fun y hy => ?_, (h.decls hc.1).2⟩, by simp only [List.length_append, List.length_cons, List.length_nil]; omega, h.nr⟩
          rcases List.mem_append.1 hy with hy | hy
          · exact (h.decls hc.1).1 y hy
          · simp only [List.mem_singleton] at hy
            rw [hy]; exact decl_right hX x.1 h.fine he
      · split
        · exact ⟨(fail_goes _ (peek_le hW _ _) (by decide) h.fine).fine h.fine, fun he => absurd he (fail_err _ _ (by decide)), h.nd, h.nr⟩
        · rename_i hm
          refine prog_right hX f _ ⟨(rule_goes hW x.1 h.fine).fine h.fine, fun he => ⟨(h.decls hc.1).1, fun y hy => ?_⟩, h.nd, by simp only [List.length_append, List.length_cons, List.length_nil]; omega⟩
          rcases List.mem_append.1 hy with hy | hy
          · exact (h.decls hc.1).2 y hy
          · simp only [List.mem_singleton] at hy
            rw [hy]; exact rule_right hX x.1 h.fine he
    · exact h
end
end Go.Proofs.YtplekbpmfaghbaaGreatDoor

/- The places of what is parsed: rules stand one behind the other, within the text. Plain. -/
namespace Go.Proofs.YtplekbpmfaghbaaGreatDoor
open Go.RowKit

theorem lex_pair : ∀ (n a : Nat) (l : List UInt8), l.length ≤ n → (lexA wordK a l).1.Pairwise (fun p q => p.a < q.a)
  | 0, a, l, hn => by
    obtain rfl : l = [] := List.eq_nil_of_length_eq_zero (by omega)
    simp [lexA, lexF]
  | n + 1, a, l, hn => by
    by_cases h : l.drop (skipG false l) = []
    · rw [lexA_nil _ _ h]; exact List.Pairwise.nil
    by_cases h0 : (tokL wordK (l.drop (skipG false l))).1 = 0
    · rw [lexA_bad _ _ h h0]; exact List.Pairwise.nil
    have h3 := tokL_len _ h0
    rw [lexA_tok _ _ h h0]
    simp only [List.length_drop] at h3
    have h6 := skipG_le l false
    refine List.Pairwise.cons (fun q hq => ?_) (lex_pair n _ _ (by simp only [List.length_drop]; omega))
    have := (lex_places (wk := wordK) _ _ _ (Nat.le_refl _) q hq).1
    dsimp only
    omega
theorem lex_bad_le : ∀ (n a : Nat) (l : List UInt8), l.length ≤ n → ∀ p, (lexA wordK a l).2 = some p → p ≤ a + l.length
  | 0, a, l, hn, p, hp => by
    obtain rfl : l = [] := List.eq_nil_of_length_eq_zero (by omega)
    simp [lexA, lexF] at hp
  | n + 1, a, l, hn, p, hp => by
    by_cases h : l.drop (skipG false l) = []
    · rw [lexA_nil _ _ h] at hp; cases hp
    have h6 := skipG_le l false
    by_cases h0 : (tokL wordK (l.drop (skipG false l))).1 = 0
    · rw [lexA_bad _ _ h h0] at hp
      injection hp with hp
      omega
    have h3 := tokL_len _ h0
    rw [lexA_tok _ _ h h0] at hp
    simp only [List.length_drop] at h3
    have := lex_bad_le n _ _ (by simp only [List.length_drop]; omega) p hp
    simp only [List.length_drop] at this
    omega
theorem toks_of {l : List UInt8} (hl : l.length ≤ 4000) : Toks (lexS l).1 l.length := by
  have hp := lex_places (wk := wordK) _ 0 l (Nat.le_refl _)
  refine ⟨fun q hq => ?_, lex_texts (wk := wordK) _ 0 l (Nat.le_refl _), fun q hq => ?_⟩
  · have := hp q hq; omega
  · have := hp q hq; omega
theorem tok_lt {l : List UInt8} {q : GTok} (hq : q ∈ (lexS l).1) : q.a < l.length := by
  have h1 := lex_places (wk := wordK) _ 0 l (Nat.le_refl _) q hq
  have h2 := lex_texts (wk := wordK) _ 0 l (Nat.le_refl _) q hq
  have h3 : q.t ≠ [] := by
    obtain ⟨-, ⟨-, h, -, -⟩ | ⟨-, h⟩⟩ := h2
    · exact h
    · intro e
      rw [e] at h
      revert h; decide
  have h4 : 1 ≤ q.t.length := by
    cases hq : q.t with
    | nil => exact absurd hq h3
    | cons c r => simp
  omega
section
variable {T : List GTok} {E : Nat}
structure PlI (T : List GTok) (x : PS × GProg) : Prop where
  up : (x.2.rules.map GRule.pos).Pairwise (· < ·)
  at_ : ∀ r ∈ x.2.rules, ∃ j q, j < x.1.next ∧ T[j]? = some q ∧ r.pos = (q.a : Int)
theorem prog_places (hW : Within T E) (hP : T.Pairwise (fun p q => p.a < q.a)) : ∀ (f : Nat) (x : PS × GProg), Fine T E x.1 → PlI T x → PlI T (progL T E f x)
  | 0, x, _, h => h
  | f + 1, x, hf, h => by
    have hfa : ∀ a e, x.1.next ≤ (failP T x.1 a e).next := fun a e => by
      unfold failP
      split
      · exact hf.next
      · exact Nat.le_refl _
    rw [progL]
    split
    · rename_i hc
      split
      · rename_i hr
        split
        · exact ⟨h.up, fun r hr => by obtain ⟨j, q, h1, h2⟩ := h.at_ r hr; exact ⟨j, q, Nat.lt_of_lt_of_le h1 (hfa _ _), h2⟩⟩
        · have hle := decl_more hW hf hr
          exact prog_places hW hP f ((declP T E x.1).1, ⟨x.2.decls ++ [(declP T E x.1).2], x.2.rules⟩) ((decl_goes hW x.1 hf).fine hf) ⟨h.up, fun r hr => by obtain ⟨j, q, h1, h2⟩ := h.at_ r hr; exact ⟨j, q, by dsimp only; omega, h2⟩⟩
      · split
        · exact ⟨h.up, fun r hr => by obtain ⟨j, q, h1, h2⟩ := h.at_ r hr; exact ⟨j, q, Nat.lt_of_lt_of_le h1 (hfa _ _), h2⟩⟩
        · have hle := rule_more hW hf hc.2
          have hq : T[x.1.next]? = some (peekP T E x.1 0) := peek_at (k := 0) hc.2
          have hpos : (ruleP T E x.1).2.pos = ((peekP T E x.1 0).a : Int) := rfl
          refine prog_places hW hP f ((ruleP T E x.1).1, ⟨x.2.decls, x.2.rules ++ [(ruleP T E x.1).2]⟩) ((rule_goes hW x.1 hf).fine hf) ⟨?_, fun r hr => ?_⟩
          · dsimp only
            rw [List.map_append, List.pairwise_append]
            refine ⟨h.up, by simp, fun p hp p' hp' => ?_⟩
            obtain ⟨r, hr, rfl⟩ := List.mem_map.1 hp
            simp only [List.map_cons, List.map_nil, List.mem_singleton] at hp'
            subst hp'
            obtain ⟨j, q, h1, h2, h3⟩ := h.at_ r hr
            rw [h3, hpos]
            obtain ⟨hj, ej⟩ := List.getElem?_eq_some_iff.1 h2
            obtain ⟨hn, en⟩ := List.getElem?_eq_some_iff.1 hq
            have := List.pairwise_iff_getElem.1 hP j x.1.next hj hn h1
            rw [ej, en] at this
            omega
          · rcases List.mem_append.1 hr with hr | hr
            · obtain ⟨j, q, h1, h2⟩ := h.at_ r hr
              exact ⟨j, q, by dsimp only; omega, h2⟩
            · simp only [List.mem_singleton] at hr
              rw [hr]
              exact ⟨x.1.next, _, by dsimp only; omega, hq, hpos⟩
    · exact h
end
/-- a whole program read: what it is, or where it fails -/
def parseP (l : List UInt8) : GProg × Nat × Int := wholeP ⟨[], []⟩ (fun T E s => programP T E s) l
theorem fine0 (T : List GTok) (E : Nat) : Fine T E ps0 := ⟨Nat.zero_le _, fun h => absurd rfl h, Nat.zero_le _, by decide, by decide⟩
theorem parse_good {l : List UInt8} (h : (parseP l).2.2 = 0) : formedB (parseP l).1 = true ∧ (parseP l).2.1 = 0 ∧ ((parseP l).1.rules.map GRule.pos).Pairwise (· < ·) ∧ ∀ r ∈ (parseP l).1.rules, 0 ≤ r.pos ∧ r.pos < (l.length : Int) := by
  unfold parseP wholeP at h ⊢
  by_cases h4 : 4000 < l.length
  · rw [if_pos h4] at h; cases h
  · rw [if_neg h4] at h ⊢
    have hX := toks_of (l := l) (by omega)
    have hP := lex_pair l.length 0 l (Nat.le_refl _)
    have hpI := prog_right hX (lexS l).1.length (ps0, ⟨[], []⟩) ⟨fine0 _ _, fun _ => ⟨(fun _ h => by cases h), (fun _ h => by cases h)⟩, Nat.zero_le _, Nat.zero_le _⟩
    have hpl := prog_places hX.within hP (lexS l).1.length (ps0, ⟨[], []⟩) (fine0 _ _) ⟨List.Pairwise.nil, fun _ h => by cases h⟩
    cases hl : (lexS l).2 with
    | some p => rw [hl] at h; cases h
    | none =>
      rw [hl] at h
      dsimp only at h ⊢
      unfold programP at h ⊢
      generalize hy : progL (lexS l).1 l.length (lexS l).1.length (ps0, ⟨[], []⟩) = y at *
      by_cases he : (lastP (lexS l).1 l.length y.1).err = 0
      · rw [if_pos he] at h ⊢
        have he0 : y.1.err = 0 := by
          unfold lastP at he
          split at he
          · exact absurd he (fail_err _ _ (by decide))
          · exact he
        obtain ⟨hd, hr⟩ := hpI.decls he0
        refine ⟨?_, rfl, hpl.up, fun r hr => ?_⟩
        · unfold formedB
          rw [Bool.and_eq_true, Bool.and_eq_true, Bool.and_eq_true]
          exact ⟨⟨by simpa using hpI.nd, by simpa using hpI.nr⟩, List.all_eq_true.2 hd, List.all_eq_true.2 hr⟩
        · obtain ⟨j, q, -, h2, h3⟩ := hpl.at_ r hr
          have := tok_lt (List.mem_of_getElem? h2)
          rw [h3]; omega
      · rw [if_neg he] at h; exact absurd h he
theorem parse_bad {l : List UInt8} (h : (parseP l).2.2 ≠ 0) (hl : l.length ≤ 4100) : (parseP l).1 = ⟨[], []⟩ ∧ (parseP l).2.1 ≤ l.length := by
  unfold parseP wholeP at h ⊢
  by_cases h4 : 4000 < l.length
  · rw [if_pos h4]; exact ⟨rfl, by dsimp only; omega⟩
  · rw [if_neg h4] at h ⊢
    have hX := toks_of (l := l) (by omega)
    cases hl2 : (lexS l).2 with
    | some p =>
      refine ⟨rfl, ?_⟩
      dsimp only
      have := lex_bad_le l.length 0 l (Nat.le_refl _) p hl2
      omega
    | none =>
      rw [hl2] at h
      dsimp only at h ⊢
      by_cases he : (lastP (lexS l).1 l.length (programP (lexS l).1 l.length ps0).1).err = 0
      · rw [if_pos he] at h; exact absurd rfl h
      · rw [if_neg he]
        refine ⟨rfl, ?_⟩
        dsimp only
        have hf := (prog_goes hX.within (lexS l).1.length (ps0, ⟨[], []⟩) (fine0 _ _)).fine (fine0 _ _)
        unfold lastP
        split
        · exact ((fail_goes _ (peek_le hX.within _ 0) (by decide) hf).fine hf).pl
        · exact hf.pl
end Go.Proofs.YtplekbpmfaghbaaGreatDoor
