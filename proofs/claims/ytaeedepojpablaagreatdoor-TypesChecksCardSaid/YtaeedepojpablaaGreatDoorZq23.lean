/- My own texts TDecl, TEvD, TEvL, TRule, TEvR, TFormed, PaOk, PaPl, as far as this claim needs them. -/
import Derived.Test.YtaeedepojpablaaGreatDoorZq22
set_option linter.unusedVariables false
set_option linter.unusedSimpArgs false
set_option maxRecDepth 1000000
set_option maxHeartbeats 16000000
namespace Go.Proofs.YtaeedepojpablaaGreatDoor
open Go.RowKit
def declB (x : GDecl) : Bool := singleB 2 x.rel && (decide (x.kinds.length ≤ 6) && x.kinds.all kindB)
theorem declared_any (x : GDecl) (a : Hd) (w : World) (h : DeclAt w w.heap.size x a) (hW : LexW w) : Calls Tryz.prog 58 #[.agg #[.string x.rel, a.v, .int .i64 x.pos]] w (RetBool (declB x) w) := by
 obtain ⟨B, HB⟩ : ∃ B, Hid (B = declB x) := ⟨_, rfl⟩
 rw [← HB.out]; have hrb : (w.alloc (.cells #[.string x.rel, a.v, .int .i64 x.pos] 94)).heap[w.heap.size]? = some (.cells #[.string x.rel, a.v, .int .i64 x.pos] 94 (0, 0)) := heapNew rfl; have hba : Below w.heap.size w (w.alloc (.cells #[.string x.rel, a.v, .int .i64 x.pos] 94)) := belowA (Below.refl _ _) _; have hn := h.kinds.bound; have Hlen := hZ9 h.kinds.1; have HH := hZ9 (h.keep hba); have HW := hZ9 (hW.on hba); clear h hW; obtain ⟨P1, HP1⟩ : ∃ E, Hid (E = singleB 2 x.rel) := ⟨_, rfl⟩
 obtain ⟨P2, HP2⟩ : ∃ E, Hid (E = x.kinds.all kindB) := ⟨_, rfl⟩
 have HE : Hid (B = (P1 && (decide (x.kinds.length ≤ 6) && P2))) := by show _ = _; rw [HB.out, HP1.out, HP2.out]; rfl
 have Hrow : Hid (∀ W, Below (w.alloc (.cells #[.string x.rel, a.v, .int .i64 x.pos] 94)).heap.size (w.alloc (.cells #[.string x.rel, a.v, .int .i64 x.pos] 94)) W → W.heap[w.heap.size]? = some (.cells #[.string x.rel, a.v, .int .i64 x.pos] 94 (0, 0))) := fun W h => (h.block _ (glt hrb)).trans hrb
 obtain ⟨f0_0, f0_1, f0_2⟩ := facts3 hrb; have C1 : Hid (∀ W, Below (w.alloc (.cells #[.string x.rel, a.v, .int .i64 x.pos] 94)).heap.size (w.alloc (.cells #[.string x.rel, a.v, .int .i64 x.pos] 94)) W → Calls Tryz.prog 95 #[.string x.rel] W (RetBool P1 W)) := fun W h => by rw [HP1.out]; exact named_any x.rel HH.out.rel W (HW.out.on h)
 have C2 : Hid (∀ W, Below (w.alloc (.cells #[.string x.rel, a.v, .int .i64 x.pos] 94)).heap.size (w.alloc (.cells #[.string x.rel, a.v, .int .i64 x.pos] 94)) W → Calls Tryz.prog 96 #[a.v, .func (.func 94) #[] #[]] W (RetBool P2 W)) := fun W h => by
  rw [HP2.out]; exact everyK_any a.A a.n a.c x.kinds W (HH.out.kinds.keep h) (fun y W' hy h' => kind_any y W')
 clear hrb HB HP1 HP2 HH HW; by_cases h8 : a.n ≤ 6
 ·have z8 : (a.n : Int) ≤ 6 := by omega
  have HE2 : Hid (B = (P1 && P2)) := by show _ = _; rw [HE.out, decide_eq_true (by rw [Hlen.out]; exact h8)]; rfl
  clear HE Hlen h8; generalize hwb : (w.alloc (.cells #[.string x.rel, a.v, .int .i64 x.pos] 94)) = wb at *; have Hbw0 := hZ9 (Below.refl wb.heap.size wb); go_enter Tryz.func58, Tryz.ntmps58
  go_wp2_with fail
  try simp only [hwb]
  go_wp2_with fail
  refine (C1.out _ Hbw0.out).mono ?_; rintro e1 w1 ⟨rfl, hq1⟩; have Hbw1 := hZ9 (below_next Hbw0.out hq1); obtain ⟨f1_0, f1_1, f1_2⟩ := facts3 (Hrow.out _ Hbw1.out); clear hq1 f0_0 f0_1 f0_2; cases P1 with
  | false =>
    go_wp2_with fail
    go_ret; exact ⟨by rw [HE2.out]; rfl, below_next hba Hbw1.out⟩
  | true =>
    go_wp2_with fail
    refine (C2.out _ Hbw1.out).mono ?_; rintro e2 w2 ⟨rfl, hq2⟩; have Hbw2 := hZ9 (below_next Hbw1.out hq2); obtain ⟨f2_0, f2_1, f2_2⟩ := facts3 (Hrow.out _ Hbw2.out); clear hq2 f1_0 f1_1 f1_2; cases P2 <;>
    ·go_wp2_with fail
     go_ret; exact ⟨by rw [HE2.out]; rfl, below_next hba Hbw2.out⟩
 ·have z8 : ¬ (a.n : Int) ≤ 6 := by omega
  have HE2 : Hid (B = false) := by show _ = _; rw [HE.out, decide_eq_false (by rw [Hlen.out]; exact h8)]; simp
  clear HE Hlen h8 C2; generalize hwb : (w.alloc (.cells #[.string x.rel, a.v, .int .i64 x.pos] 94)) = wb at *; have Hbw0 := hZ9 (Below.refl wb.heap.size wb); go_enter Tryz.func58, Tryz.ntmps58
  go_wp2_with fail
  try simp only [hwb]
  go_wp2_with fail
  refine (C1.out _ Hbw0.out).mono ?_; rintro e1 w1 ⟨rfl, hq1⟩; have Hbw1 := hZ9 (below_next Hbw0.out hq1); obtain ⟨f1_0, f1_1, f1_2⟩ := facts3 (Hrow.out _ Hbw1.out); clear hq1 f0_0 f0_1 f0_2; cases P1 <;>
  ·go_wp2_with fail
   go_ret; exact ⟨by rw [HE2.out]; rfl, below_next hba Hbw1.out⟩
end Go.Proofs.YtaeedepojpablaaGreatDoor

namespace Go.Proofs.YtaeedepojpablaaGreatDoor
open Go.RowKit
theorem ev1D_any (x : GDecl) (a : Hd) (g : Nat) (w : World) (hg : w.cell? ⟨g, 0, none⟩ = some (.func (.func 58) #[] #[])) (HC : Hid (∀ W, Below w.heap.size w W → Calls Tryz.prog 58 #[.agg #[.string x.rel, a.v, .int .i64 x.pos]] W (RetBool (declB x) W))) :
 Calls Tryz.prog 93 #[.agg #[.string x.rel, a.v, .int .i64 x.pos], .pointer (some ⟨g, 0, none⟩)] w (RetBool (!declB x) w) := by
 have hrb : (w.alloc (.cells #[.string x.rel, a.v, .int .i64 x.pos] 94)).heap[w.heap.size]? = some (.cells #[.string x.rel, a.v, .int .i64 x.pos] 94 (0, 0)) := heapNew rfl; obtain ⟨b0, b1, b2⟩ := facts3 hrb; have cg : (w.alloc (.cells #[.string x.rel, a.v, .int .i64 x.pos] 94)).cell? ⟨g, 0, none⟩ = some (.func (.func 58) #[] #[]) := cellA hg; clear hrb hg; generalize declB x = B at *; go_enter Tryz.func93, Tryz.ntmps93
 go_wp2_with fail
 refine (HC.out _ (by first | exact Below.refl _ _ | exact belowA (Below.refl _ _) _)).mono ?_; rintro e w1 ⟨rfl, hb⟩; have Hb := hZ9 hb; clear hb; go_wp2_with fail
 go_ret; exact ⟨rfl, below_next (belowA (Below.refl _ _) _) Hb.out⟩
theorem evID_any (A : Option Addr) (n c : Nat) (l : List GDecl) (g : Nat) (w : World) (hl : SliceIs Enc.decl w w.heap.size A n c l) (hg : w.cell? ⟨g, 0, none⟩ = some (.func (.func 58) #[] #[]))
 (HC : Hid (∀ (x : GDecl) (a : Hd) W, DeclAt W W.heap.size x a → Below w.heap.size w W → Calls Tryz.prog 58 #[.agg #[.string x.rel, a.v, .int .i64 x.pos]] W (RetBool (declB x) W))) :
 Calls Tryz.prog 35 #[.slice A n c, .func (.func 93) #[] #[.pointer (some ⟨g, 0, none⟩)]] w (fun e w' => ∃ k : Int, e = .returned (.int .i64 k) ∧ decide (0 ≤ k) = !(l.all declB) ∧ Below w.heap.size w w') := by
 have hn := hl.bound; have HL := hZ9 hl; have hlen := hZ9 hl.1; have Hg := hZ9 hg; clear hl hg; go_enter Tryz.func35, Tryz.ntmps35
 go_wp2_with fail
 go_loopw [5, 8] (fun _ i wr => ∃ k : Nat, k ≤ n ∧ i = .int .i64 k ∧ Hid ((l.take k).all declB = true) ∧ Below w.heap.size w wr) (fun _ i _ => n - (intOf i).toNat)
 case atStart => exact ⟨0, by omega, rfl, by simp [Hid], Below.refl _ _⟩
 case round =>
  obtain ⟨k, hk, rfl, hpre, hbr⟩ := hrel; by_cases hlt : k < n
  ·have HLr := (HL.out.below hbr)
   obtain ⟨b, o, x, a, rfl, hbb, hx, hat, z0, z1, z2⟩ := HLr.decl_at hlt; have hokx : DeclAt wr wr.heap.size x a := hat.mono' hbr.size (Kept.of fun _ _ => rfl); have C := hZ9 (ev1D_any x a g wr (below_cell hbr Hg.out) (fun W hW => HC.out x a W (hokx.keep hW) (below_next hbr hW))); have i0 : (0 : Int) ≤ (k : Int) := by omega
   have i1 : (k : Int) < (n : Int) := by omega
   have HT : Hid ((l.take (k + 1)).all declB = declB x) := by
    show _ = _; obtain ⟨g1, g2⟩ := List.getElem?_eq_some_iff.1 hx.out; rw [List.take_succ_eq_append_getElem g1, g2, List.all_append, hpre.out]; simp
   have HF : Hid (declB x = false → l.all declB = false) := fun h => by
    rw [List.all_eq_false]; exact ⟨x, List.mem_of_getElem? hx.out, by simp [h]⟩
   clear HLr hokx; generalize declB x = B at *; cases B with
   | true =>
     clear HF; go_wp2_with fail
     refine C.out.mono ?_; rintro e w1 ⟨rfl, hb⟩; have Hb := hZ9 hb; clear hb; go_wp2_with fail
     go_roundw
     case rel => exact ⟨k + 1, by omega, by go_num, HT, below_next hbr Hb.out⟩
     case measure => simp [intOf]; omega
   | false =>
     have HF' : Hid (l.all declB = false) := HF.out rfl; clear HF; go_wp2_with fail
     refine C.out.mono ?_; rintro e w1 ⟨rfl, hb⟩; have Hb := hZ9 hb; clear hb; go_wp2_with fail
     go_ret; exact ⟨_, rfl, by rw [HF'.out]; simp, below_next hbr Hb.out⟩
  ·have i1 : ¬ (k : Int) < (n : Int) := by omega
   have HA : Hid (l.all declB = true) := by
    show _ = _; have h := hpre.out; rw [List.take_of_length_le (by have := hlen.out; omega)] at h; exact h
   go_wp2_with fail
   go_ret; exact ⟨_, rfl, by rw [HA.out]; rfl, hbr⟩
theorem everyD_any (A : Option Addr) (n c : Nat) (l : List GDecl) (w : World) (hl : SliceIs Enc.decl w w.heap.size A n c l)
 (HC : Hid (∀ (x : GDecl) (a : Hd) W, DeclAt W W.heap.size x a → Below w.heap.size w W → Calls Tryz.prog 58 #[.agg #[.string x.rel, a.v, .int .i64 x.pos]] W (RetBool (declB x) W))) :
 Calls Tryz.prog 57 #[.slice A n c, .func (.func 58) #[] #[]] w (RetBool (l.all declB) w) := by
 have hba : Below w.heap.size w (w.alloc (.cells #[.func (.func 58) #[] #[]] 111)) := belowA (Below.refl _ _) _; have C := hZ9 (evID_any A n c l w.heap.size (w.alloc (.cells #[.func (.func 58) #[] #[]] 111)) (hl.keep hba) ((cell_of_row _ _ 0 _ _ _ (heapNew rfl)).trans rfl) (fun x a W h hW => HC.out x a W h (below_next hba hW))); generalize l.all declB = B at *; clear hl HC
 have CC : Hid (Calls Tryz.prog 92 #[.slice A n c, .func (.func 93) #[] #[.pointer (some ⟨w.heap.size, 0, none⟩)]] (w.alloc (.cells #[.func (.func 58) #[] #[]] 111)) (RetBool (!B) (w.alloc (.cells #[.func (.func 58) #[] #[]] 111)))) := by
  show Calls _ _ _ _ _; generalize w.alloc (.cells #[.func (.func 58) #[] #[]] 111) = wb at *; go_enter Tryz.func92, Tryz.ntmps92
  go_wp2_with fail
  refine C.out.mono ?_; rintro e w1 ⟨k, rfl, hk, hb⟩; have Hb := hZ9 hb; have Hk := hZ9 hk; clear hb hk; go_wp2_with fail
  go_ret; exact ⟨by rw [← Hk.out]; rfl, Hb.out⟩
 clear C; go_enter Tryz.func57, Tryz.ntmps57
 go_wp2_with fail
 refine CC.out.mono ?_; rintro e w1 ⟨rfl, hb⟩; have Hb := hZ9 hb; clear hb CC; go_wp2_with fail
 go_ret; exact ⟨by cases B <;> rfl, below_next hba Hb.out⟩
end Go.Proofs.YtaeedepojpablaaGreatDoor

namespace Go.Proofs.YtaeedepojpablaaGreatDoor
open Go.RowKit
theorem ev1L_any (x : GLit) (a p q : Hd) (g : Nat) (w : World) (hg : w.cell? ⟨g, 0, none⟩ = some (.func (.func 76) #[] #[])) (HC : Hid (∀ W, Below w.heap.size w W → Calls Tryz.prog 76 #[.agg #[.int .i64 x.k, .string x.atom.rel, a.v, .int .i64 x.op, .int .i64 x.l.op, .string x.l.t.x, .int .i64 x.l.t.v.k, .int .i64 x.l.t.v.n, .string x.l.t.v.s, p.v, .int .i64 x.r.op, .string x.r.t.x, .int .i64 x.r.t.v.k, .int .i64 x.r.t.v.n, .string x.r.t.v.s, q.v, .int .i64 x.pos]] W (RetBool (rightLit x) W))) :
 Calls Tryz.prog 112 #[.agg #[.int .i64 x.k, .string x.atom.rel, a.v, .int .i64 x.op, .int .i64 x.l.op, .string x.l.t.x, .int .i64 x.l.t.v.k, .int .i64 x.l.t.v.n, .string x.l.t.v.s, p.v, .int .i64 x.r.op, .string x.r.t.x, .int .i64 x.r.t.v.k, .int .i64 x.r.t.v.n, .string x.r.t.v.s, q.v, .int .i64 x.pos], .pointer (some ⟨g, 0, none⟩)] w (RetBool (!rightLit x) w) := by
 have hrb : (w.alloc (.cells #[.int .i64 x.k, .string x.atom.rel, a.v, .int .i64 x.op, .int .i64 x.l.op, .string x.l.t.x, .int .i64 x.l.t.v.k, .int .i64 x.l.t.v.n, .string x.l.t.v.s, p.v, .int .i64 x.r.op, .string x.r.t.x, .int .i64 x.r.t.v.k, .int .i64 x.r.t.v.n, .string x.r.t.v.s, q.v, .int .i64 x.pos] 80)).heap[w.heap.size]? = some (.cells #[.int .i64 x.k, .string x.atom.rel, a.v, .int .i64 x.op, .int .i64 x.l.op, .string x.l.t.x, .int .i64 x.l.t.v.k, .int .i64 x.l.t.v.n, .string x.l.t.v.s, p.v, .int .i64 x.r.op, .string x.r.t.x, .int .i64 x.r.t.v.k, .int .i64 x.r.t.v.n, .string x.r.t.v.s, q.v, .int .i64 x.pos] 80 (0, 0)) := heapNew rfl; obtain ⟨b0, b1, b2, b3, b4, b5, b6, b7, b8, b9, b10, b11, b12, b13, b14, b15, b16⟩ := facts17 hrb; have cg : (w.alloc (.cells #[.int .i64 x.k, .string x.atom.rel, a.v, .int .i64 x.op, .int .i64 x.l.op, .string x.l.t.x, .int .i64 x.l.t.v.k, .int .i64 x.l.t.v.n, .string x.l.t.v.s, p.v, .int .i64 x.r.op, .string x.r.t.x, .int .i64 x.r.t.v.k, .int .i64 x.r.t.v.n, .string x.r.t.v.s, q.v, .int .i64 x.pos] 80)).cell? ⟨g, 0, none⟩ = some (.func (.func 76) #[] #[]) := cellA hg; clear hrb hg; generalize rightLit x = B at *; go_enter Tryz.func112, Tryz.ntmps112
 go_wp2_with fail
 refine (HC.out _ (by first | exact Below.refl _ _ | exact belowA (Below.refl _ _) _)).mono ?_; rintro e w1 ⟨rfl, hb⟩; have Hb := hZ9 hb; clear hb; go_wp2_with fail
 go_ret; exact ⟨rfl, below_next (belowA (Below.refl _ _) _) Hb.out⟩
theorem evIL_any (d : Nat) (A : Option Addr) (n c : Nat) (l : List GLit) (g : Nat) (w : World) (hl : SliceIs (Enc.lit d) w w.heap.size A n c l) (hg : w.cell? ⟨g, 0, none⟩ = some (.func (.func 76) #[] #[]))
 (HC : Hid (∀ (x : GLit) (a p q : Hd) W, LitAt d W W.heap.size x a p q → Below w.heap.size w W → Calls Tryz.prog 76 #[.agg #[.int .i64 x.k, .string x.atom.rel, a.v, .int .i64 x.op, .int .i64 x.l.op, .string x.l.t.x, .int .i64 x.l.t.v.k, .int .i64 x.l.t.v.n, .string x.l.t.v.s, p.v, .int .i64 x.r.op, .string x.r.t.x, .int .i64 x.r.t.v.k, .int .i64 x.r.t.v.n, .string x.r.t.v.s, q.v, .int .i64 x.pos]] W (RetBool (rightLit x) W))) :
 Calls Tryz.prog 148 #[.slice A n c, .func (.func 112) #[] #[.pointer (some ⟨g, 0, none⟩)]] w (fun e w' => ∃ k : Int, e = .returned (.int .i64 k) ∧ decide (0 ≤ k) = !(l.all rightLit) ∧ Below w.heap.size w w') := by
 have hn := hl.bound; have HL := hZ9 hl; have hlen := hZ9 hl.1; have Hg := hZ9 hg; clear hl hg; go_enter Tryz.func148, Tryz.ntmps148
 go_wp2_with fail
 go_loopw [5, 8] (fun _ i wr => ∃ k : Nat, k ≤ n ∧ i = .int .i64 k ∧ Hid ((l.take k).all rightLit = true) ∧ Below w.heap.size w wr) (fun _ i _ => n - (intOf i).toNat)
 case atStart => exact ⟨0, by omega, rfl, by simp [Hid], Below.refl _ _⟩
 case round =>
  obtain ⟨k, hk, rfl, hpre, hbr⟩ := hrel; by_cases hlt : k < n
  ·have HLr := (HL.out.below hbr)
   obtain ⟨b, o, x, a, p, q, rfl, hbb, hx, hat, z0, z1, z2, z3, z4, z5, z6, z7, z8, z9, z10, z11, z12, z13, z14, z15, z16⟩ := HLr.lit_at hlt; have hokx : LitAt d wr wr.heap.size x a p q := hat.mono' hbr.size (Kept.of fun _ _ => rfl); have C := hZ9 (ev1L_any x a p q g wr (below_cell hbr Hg.out) (fun W hW => HC.out x a p q W (hokx.keep hW) (below_next hbr hW))); have i0 : (0 : Int) ≤ (k : Int) := by omega
   have i1 : (k : Int) < (n : Int) := by omega
   have HT : Hid ((l.take (k + 1)).all rightLit = rightLit x) := by
    show _ = _; obtain ⟨g1, g2⟩ := List.getElem?_eq_some_iff.1 hx.out; rw [List.take_succ_eq_append_getElem g1, g2, List.all_append, hpre.out]; simp
   have HF : Hid (rightLit x = false → l.all rightLit = false) := fun h => by
    rw [List.all_eq_false]; exact ⟨x, List.mem_of_getElem? hx.out, by simp [h]⟩
   clear HLr hokx; generalize rightLit x = B at *; cases B with
   | true =>
     clear HF; go_wp2_with fail
     refine C.out.mono ?_; rintro e w1 ⟨rfl, hb⟩; have Hb := hZ9 hb; clear hb; go_wp2_with fail
     go_roundw
     case rel => exact ⟨k + 1, by omega, by go_num, HT, below_next hbr Hb.out⟩
     case measure => simp [intOf]; omega
   | false =>
     have HF' : Hid (l.all rightLit = false) := HF.out rfl; clear HF; go_wp2_with fail
     refine C.out.mono ?_; rintro e w1 ⟨rfl, hb⟩; have Hb := hZ9 hb; clear hb; go_wp2_with fail
     go_ret; exact ⟨_, rfl, by rw [HF'.out]; simp, below_next hbr Hb.out⟩
  ·have i1 : ¬ (k : Int) < (n : Int) := by omega
   have HA : Hid (l.all rightLit = true) := by
    show _ = _; have h := hpre.out; rw [List.take_of_length_le (by have := hlen.out; omega)] at h; exact h
   go_wp2_with fail
   go_ret; exact ⟨_, rfl, by rw [HA.out]; rfl, hbr⟩
theorem everyL_any (d : Nat) (A : Option Addr) (n c : Nat) (l : List GLit) (w : World) (hl : SliceIs (Enc.lit d) w w.heap.size A n c l)
 (HC : Hid (∀ (x : GLit) (a p q : Hd) W, LitAt d W W.heap.size x a p q → Below w.heap.size w W → Calls Tryz.prog 76 #[.agg #[.int .i64 x.k, .string x.atom.rel, a.v, .int .i64 x.op, .int .i64 x.l.op, .string x.l.t.x, .int .i64 x.l.t.v.k, .int .i64 x.l.t.v.n, .string x.l.t.v.s, p.v, .int .i64 x.r.op, .string x.r.t.x, .int .i64 x.r.t.v.k, .int .i64 x.r.t.v.n, .string x.r.t.v.s, q.v, .int .i64 x.pos]] W (RetBool (rightLit x) W))) :
 Calls Tryz.prog 75 #[.slice A n c, .func (.func 76) #[] #[]] w (RetBool (l.all rightLit) w) := by
 have hba : Below w.heap.size w (w.alloc (.cells #[.func (.func 76) #[] #[]] 164)) := belowA (Below.refl _ _) _; have C := hZ9 (evIL_any d A n c l w.heap.size (w.alloc (.cells #[.func (.func 76) #[] #[]] 164)) (hl.keep hba) ((cell_of_row _ _ 0 _ _ _ (heapNew rfl)).trans rfl) (fun x a p q W h hW => HC.out x a p q W h (below_next hba hW))); generalize l.all rightLit = B at *; clear hl HC
 have CC : Hid (Calls Tryz.prog 111 #[.slice A n c, .func (.func 112) #[] #[.pointer (some ⟨w.heap.size, 0, none⟩)]] (w.alloc (.cells #[.func (.func 76) #[] #[]] 164)) (RetBool (!B) (w.alloc (.cells #[.func (.func 76) #[] #[]] 164)))) := by
  show Calls _ _ _ _ _; generalize w.alloc (.cells #[.func (.func 76) #[] #[]] 164) = wb at *; go_enter Tryz.func111, Tryz.ntmps111
  go_wp2_with fail
  refine C.out.mono ?_; rintro e w1 ⟨k, rfl, hk, hb⟩; have Hb := hZ9 hb; have Hk := hZ9 hk; clear hb hk; go_wp2_with fail
  go_ret; exact ⟨by rw [← Hk.out]; rfl, Hb.out⟩
 clear C; go_enter Tryz.func75, Tryz.ntmps75
 go_wp2_with fail
 refine CC.out.mono ?_; rintro e w1 ⟨rfl, hb⟩; have Hb := hZ9 hb; clear hb CC; go_wp2_with fail
 go_ret; exact ⟨by cases B <;> rfl, below_next hba Hb.out⟩
end Go.Proofs.YtaeedepojpablaaGreatDoor

namespace Go.Proofs.YtaeedepojpablaaGreatDoor
open Go.RowKit
def varAt (l : List GTold) (k : Nat) : Bool := match l[k]? with | some t => !decide (t.x.size = 0) | none => false
def aggB (x : GRule) : Bool := if x.agg = 0 then decide (x.col = 0) else decide (0 ≤ x.agg ∧ x.agg ≤ 4 ∧ 0 ≤ x.col) && varAt x.head.args x.col.toNat
theorem agg_any (x : GRule) (a m : Hd) (w : World) (hl : SliceIs Enc.told w w.heap.size a.A a.n a.c x.head.args) : Calls Tryz.prog 74 #[.agg #[.string x.head.rel, a.v, .int .i64 x.agg, .int .i64 x.col, m.v, .int .i64 x.pos]] w (RetBool (aggB x) w) := by
 obtain ⟨B, HB⟩ : ∃ B, Hid (B = aggB x) := ⟨_, rfl⟩
 rw [← HB.out]; have hn := hl.bound; have Hlen := hZ9 hl.1; have HL := hZ9 hl; clear hl; by_cases h0 : x.agg = 0
 ·have q0 : (x.agg == 0) = true := by simp [h0]
  have HE : Hid (B = decide (x.col = 0)) := by show _ = _; rw [HB.out]; unfold aggB; rw [if_pos h0]
  clear h0 HB; by_cases h1 : x.col = 0
  ·have q1 : (x.col == 0) = true := by simp [h1]
   rw [decide_eq_true h1] at HE; clear h1; go_enter Tryz.func74, Tryz.ntmps74
   go_wp2_with fail
   go_ret; exact ⟨by rw [HE.out]; rfl, belowA (Below.refl _ _) _⟩
  ·have q1 : (x.col == 0) = false := by simp [h1]
   rw [decide_eq_false h1] at HE; clear h1; go_enter Tryz.func74, Tryz.ntmps74
   go_wp2_with fail
   go_ret; exact ⟨by rw [HE.out]; rfl, belowA (Below.refl _ _) _⟩
 have q0 : (x.agg == 0) = false := by simp [h0]
 have HE : Hid (B = (decide (0 ≤ x.agg ∧ x.agg ≤ 4 ∧ 0 ≤ x.col) && varAt x.head.args x.col.toNat)) := by show _ = _; rw [HB.out]; unfold aggB; rw [if_neg h0]
 clear h0 HB; by_cases hb : 0 ≤ x.agg ∧ x.agg ≤ 4 ∧ 0 ≤ x.col ∧ x.col < (a.n : Int)
 rotate_left
 ·have HE2 : Hid (B = false) := by
   show _ = _; rw [HE.out]; by_cases h1 : 0 ≤ x.agg ∧ x.agg ≤ 4 ∧ 0 ≤ x.col
   ·have : varAt x.head.args x.col.toNat = false := by
     unfold varAt; rw [List.getElem?_eq_none (by have := Hlen.out; omega)]
    rw [this]; simp
   ·rw [decide_eq_false h1]; rfl
  have hd : x.agg < 0 ∨ (¬ x.agg < 0 ∧ 4 < x.agg) ∨ (¬ x.agg < 0 ∧ ¬ 4 < x.agg ∧ x.col < 0) ∨ (¬ x.agg < 0 ∧ ¬ 4 < x.agg ∧ ¬ x.col < 0 ∧ (a.n : Int) ≤ x.col) := by omega
  clear HE hb; rcases hd with h | ⟨h1, h⟩ | ⟨h1, h2, h⟩ | ⟨h1, h2, h3, h⟩ <;>
  ·go_enter Tryz.func74, Tryz.ntmps74
   go_wp2_with fail
   go_ret; exact ⟨by rw [HE2.out]; rfl, belowA (Below.refl _ _) _⟩
 obtain ⟨c1, c2, c3, c4⟩ := hb; obtain ⟨k, hk⟩ : ∃ k : Nat, x.col = (k : Int) := ⟨x.col.toNat, by omega⟩
 have c5 : ¬ x.agg < 0 := by omega
 have c6 : ¬ 4 < x.agg := by omega
 have c7 : ¬ x.col < 0 := by omega
 have c8 : ¬ (a.n : Int) ≤ x.col := by omega
 have hkn : k < a.n := by omega
 obtain ⟨b, o, t, hA, hbb, ht, y0, -, -, -, -, -⟩ := HL.out.told_at hkn
 have HE2 : Hid (B = !decide (t.x.size = 0)) := by
  show _ = _; rw [HE.out, decide_eq_true ⟨c1, c2, c3⟩, hk, Int.toNat_natCast]; unfold varAt; rw [ht.out]; rfl
 obtain ⟨A, n, c⟩ := a; simp only at hA hkn c4 c8 hn; subst hA; rw [hk] at c3 c4 c7 c8; have z0 := cellA (o := .cells #[.string x.head.rel, .slice (some ⟨b, o, none⟩) n c, .int .i64 x.agg, .int .i64 (k : Int), m.v, .int .i64 x.pos] 56) y0; simp only [hk]; clear HE HL Hlen ht hbb y0 hk c1 c2; by_cases he : t.x.size = 0
 ·have e0 : t.x.toList = [] := str_empty.2 he; have e1 : t.x.toList.isEmpty = true := by rw [e0]; rfl
  have HE3 : Hid (B = false) := by show _ = _; rw [HE2.out, decide_eq_true he]; rfl
  clear he HE2; dsimp only [Hd.v, ruleC]; go_enter Tryz.func74, Tryz.ntmps74
  go_wp2_with fail
  go_ret; exact ⟨by rw [HE3.out]; rfl, belowA (Below.refl _ _) _⟩
 ·have e0 : ¬ t.x.toList = [] := fun h => he (str_empty.1 h)
  have e1 : t.x.toList.isEmpty = false := by cases hl : t.x.toList with
   | nil => exact absurd hl e0
   | cons _ _ => rfl
  have HE3 : Hid (B = true) := by show _ = _; rw [HE2.out, decide_eq_false he]; rfl
  clear he HE2; dsimp only [Hd.v, ruleC]; go_enter Tryz.func74, Tryz.ntmps74
  go_wp2_with fail
  go_ret; exact ⟨by rw [HE3.out]; rfl, belowA (Below.refl _ _) _⟩
def rightRule (x : GRule) : Bool := atomB x.head && (aggB x && (decide (x.body.length ≤ 8) && x.body.all rightLit))
theorem rightRule_any (d : Nat) (x : GRule) (a m : Hd) (w : World) (h : RuleAt d w w.heap.size x a m) (hW : LexW w) : Calls Tryz.prog 44 #[.agg #[.string x.head.rel, a.v, .int .i64 x.agg, .int .i64 x.col, m.v, .int .i64 x.pos]] w (RetBool (rightRule x) w) := by
 obtain ⟨B, HB⟩ : ∃ B, Hid (B = rightRule x) := ⟨_, rfl⟩
 rw [← HB.out]; have hrb : (w.alloc (.cells #[.string x.head.rel, a.v, .int .i64 x.agg, .int .i64 x.col, m.v, .int .i64 x.pos] 56)).heap[w.heap.size]? = some (.cells #[.string x.head.rel, a.v, .int .i64 x.agg, .int .i64 x.col, m.v, .int .i64 x.pos] 56 (0, 0)) := heapNew rfl; have hba : Below w.heap.size w (w.alloc (.cells #[.string x.head.rel, a.v, .int .i64 x.agg, .int .i64 x.col, m.v, .int .i64 x.pos] 56)) := belowA (Below.refl _ _) _; have hn := h.body.bound; have Hlen := hZ9 h.body.1; have HH := hZ9 (h.keep hba); have HW := hZ9 (hW.on hba); clear h hW; obtain ⟨P1, HP1⟩ : ∃ E, Hid (E = atomB x.head) := ⟨_, rfl⟩
 obtain ⟨P2, HP2⟩ : ∃ E, Hid (E = aggB x) := ⟨_, rfl⟩
 obtain ⟨P3, HP3⟩ : ∃ E, Hid (E = x.body.all rightLit) := ⟨_, rfl⟩
 have HE : Hid (B = (P1 && (P2 && (decide (x.body.length ≤ 8) && P3)))) := by show _ = _; rw [HB.out, HP1.out, HP2.out, HP3.out]; rfl
 have Hrow : Hid (∀ W, Below (w.alloc (.cells #[.string x.head.rel, a.v, .int .i64 x.agg, .int .i64 x.col, m.v, .int .i64 x.pos] 56)).heap.size (w.alloc (.cells #[.string x.head.rel, a.v, .int .i64 x.agg, .int .i64 x.col, m.v, .int .i64 x.pos] 56)) W → W.heap[w.heap.size]? = some (.cells #[.string x.head.rel, a.v, .int .i64 x.agg, .int .i64 x.col, m.v, .int .i64 x.pos] 56 (0, 0))) := fun W h => (h.block _ (glt hrb)).trans hrb
 obtain ⟨f0_0, f0_1, f0_2, f0_3, f0_4, f0_5⟩ := facts6 hrb; have C1 : Hid (∀ W, Below (w.alloc (.cells #[.string x.head.rel, a.v, .int .i64 x.agg, .int .i64 x.col, m.v, .int .i64 x.pos] 56)).heap.size (w.alloc (.cells #[.string x.head.rel, a.v, .int .i64 x.agg, .int .i64 x.col, m.v, .int .i64 x.pos] 56)) W → Calls Tryz.prog 73 #[.agg #[.string x.head.rel, a.v]] W (RetBool P1 W)) := fun W h => by rw [HP1.out]; exact aright_any x.head a W HH.out.rel (HH.out.args.keep h) (HW.out.on h)
 have C2 : Hid (∀ W, Below (w.alloc (.cells #[.string x.head.rel, a.v, .int .i64 x.agg, .int .i64 x.col, m.v, .int .i64 x.pos] 56)).heap.size (w.alloc (.cells #[.string x.head.rel, a.v, .int .i64 x.agg, .int .i64 x.col, m.v, .int .i64 x.pos] 56)) W → Calls Tryz.prog 74 #[.agg #[.string x.head.rel, a.v, .int .i64 x.agg, .int .i64 x.col, m.v, .int .i64 x.pos]] W (RetBool P2 W)) := fun W h => by rw [HP2.out]; exact agg_any x a m W (HH.out.args.keep h)
 have C3 : Hid (∀ W, Below (w.alloc (.cells #[.string x.head.rel, a.v, .int .i64 x.agg, .int .i64 x.col, m.v, .int .i64 x.pos] 56)).heap.size (w.alloc (.cells #[.string x.head.rel, a.v, .int .i64 x.agg, .int .i64 x.col, m.v, .int .i64 x.pos] 56)) W → Calls Tryz.prog 75 #[m.v, .func (.func 76) #[] #[]] W (RetBool P3 W)) := fun W h => by
  rw [HP3.out]; exact everyL_any d m.A m.n m.c x.body W (HH.out.body.keep h) (fun y a p q W' hy h' => rightLit_any d y a p q W' hy ((HW.out.on h).on h'))
 clear hrb HB HP1 HP2 HP3 HH HW; by_cases h8 : m.n ≤ 8
 ·have z8 : (m.n : Int) ≤ 8 := by omega
  have HE2 : Hid (B = (P1 && (P2 && P3))) := by show _ = _; rw [HE.out, decide_eq_true (by rw [Hlen.out]; exact h8)]; rfl
  clear HE Hlen h8; generalize hwb : (w.alloc (.cells #[.string x.head.rel, a.v, .int .i64 x.agg, .int .i64 x.col, m.v, .int .i64 x.pos] 56)) = wb at *; have Hbw0 := hZ9 (Below.refl wb.heap.size wb); go_enter Tryz.func44, Tryz.ntmps44
  go_wp2_with fail
  try simp only [hwb]
  go_wp2_with fail
  refine (C1.out _ Hbw0.out).mono ?_; rintro e1 w1 ⟨rfl, hq1⟩; have Hbw1 := hZ9 (below_next Hbw0.out hq1); obtain ⟨f1_0, f1_1, f1_2, f1_3, f1_4, f1_5⟩ := facts6 (Hrow.out _ Hbw1.out); clear hq1 f0_0 f0_1 f0_2 f0_3 f0_4 f0_5; cases P1 with
  | false =>
    go_wp2_with fail
    go_ret; exact ⟨by rw [HE2.out]; rfl, below_next hba Hbw1.out⟩
  | true =>
    go_wp2_with fail
    refine (C2.out _ Hbw1.out).mono ?_; rintro e2 w2 ⟨rfl, hq2⟩; have Hbw2 := hZ9 (below_next Hbw1.out hq2); obtain ⟨f2_0, f2_1, f2_2, f2_3, f2_4, f2_5⟩ := facts6 (Hrow.out _ Hbw2.out); clear hq2 f1_0 f1_1 f1_2 f1_3 f1_4 f1_5; cases P2 with
    | false =>
      go_wp2_with fail
      go_ret; exact ⟨by rw [HE2.out]; rfl, below_next hba Hbw2.out⟩
    | true =>
      go_wp2_with fail
      refine (C3.out _ Hbw2.out).mono ?_; rintro e3 w3 ⟨rfl, hq3⟩; have Hbw3 := hZ9 (below_next Hbw2.out hq3); obtain ⟨f3_0, f3_1, f3_2, f3_3, f3_4, f3_5⟩ := facts6 (Hrow.out _ Hbw3.out); clear hq3 f2_0 f2_1 f2_2 f2_3 f2_4 f2_5; cases P3 <;>
      ·go_wp2_with fail
       go_ret; exact ⟨by rw [HE2.out]; rfl, below_next hba Hbw3.out⟩
 ·have z8 : ¬ (m.n : Int) ≤ 8 := by omega
  have HE2 : Hid (B = false) := by show _ = _; rw [HE.out, decide_eq_false (by rw [Hlen.out]; exact h8)]; simp
  clear HE Hlen h8 C3; generalize hwb : (w.alloc (.cells #[.string x.head.rel, a.v, .int .i64 x.agg, .int .i64 x.col, m.v, .int .i64 x.pos] 56)) = wb at *; have Hbw0 := hZ9 (Below.refl wb.heap.size wb); go_enter Tryz.func44, Tryz.ntmps44
  go_wp2_with fail
  try simp only [hwb]
  go_wp2_with fail
  refine (C1.out _ Hbw0.out).mono ?_; rintro e1 w1 ⟨rfl, hq1⟩; have Hbw1 := hZ9 (below_next Hbw0.out hq1); obtain ⟨f1_0, f1_1, f1_2, f1_3, f1_4, f1_5⟩ := facts6 (Hrow.out _ Hbw1.out); clear hq1 f0_0 f0_1 f0_2 f0_3 f0_4 f0_5; cases P1 with
  | false =>
    go_wp2_with fail
    go_ret; exact ⟨by rw [HE2.out]; rfl, below_next hba Hbw1.out⟩
  | true =>
    go_wp2_with fail
    refine (C2.out _ Hbw1.out).mono ?_; rintro e2 w2 ⟨rfl, hq2⟩; have Hbw2 := hZ9 (below_next Hbw1.out hq2); obtain ⟨f2_0, f2_1, f2_2, f2_3, f2_4, f2_5⟩ := facts6 (Hrow.out _ Hbw2.out); clear hq2 f1_0 f1_1 f1_2 f1_3 f1_4 f1_5; cases P2 <;>
    ·go_wp2_with fail
     go_ret; exact ⟨by rw [HE2.out]; rfl, below_next hba Hbw2.out⟩
end Go.Proofs.YtaeedepojpablaaGreatDoor

namespace Go.Proofs.YtaeedepojpablaaGreatDoor
open Go.RowKit
theorem ev1R_any (x : GRule) (a m : Hd) (g : Nat) (w : World) (hg : w.cell? ⟨g, 0, none⟩ = some (.func (.func 44) #[] #[])) (HC : Hid (∀ W, Below w.heap.size w W → Calls Tryz.prog 44 #[.agg #[.string x.head.rel, a.v, .int .i64 x.agg, .int .i64 x.col, m.v, .int .i64 x.pos]] W (RetBool (rightRule x) W))) :
 Calls Tryz.prog 98 #[.agg #[.string x.head.rel, a.v, .int .i64 x.agg, .int .i64 x.col, m.v, .int .i64 x.pos], .pointer (some ⟨g, 0, none⟩)] w (RetBool (!rightRule x) w) := by
 have hrb : (w.alloc (.cells #[.string x.head.rel, a.v, .int .i64 x.agg, .int .i64 x.col, m.v, .int .i64 x.pos] 56)).heap[w.heap.size]? = some (.cells #[.string x.head.rel, a.v, .int .i64 x.agg, .int .i64 x.col, m.v, .int .i64 x.pos] 56 (0, 0)) := heapNew rfl; obtain ⟨b0, b1, b2, b3, b4, b5⟩ := facts6 hrb; have cg : (w.alloc (.cells #[.string x.head.rel, a.v, .int .i64 x.agg, .int .i64 x.col, m.v, .int .i64 x.pos] 56)).cell? ⟨g, 0, none⟩ = some (.func (.func 44) #[] #[]) := cellA hg; clear hrb hg; generalize rightRule x = B at *; go_enter Tryz.func98, Tryz.ntmps98
 go_wp2_with fail
 refine (HC.out _ (by first | exact Below.refl _ _ | exact belowA (Below.refl _ _) _)).mono ?_; rintro e w1 ⟨rfl, hb⟩; have Hb := hZ9 hb; clear hb; go_wp2_with fail
 go_ret; exact ⟨rfl, below_next (belowA (Below.refl _ _) _) Hb.out⟩
theorem evIR_any (d : Nat) (A : Option Addr) (n c : Nat) (l : List GRule) (g : Nat) (w : World) (hl : SliceIs (Enc.rule d) w w.heap.size A n c l) (hg : w.cell? ⟨g, 0, none⟩ = some (.func (.func 44) #[] #[]))
 (HC : Hid (∀ (x : GRule) (a m : Hd) W, RuleAt d W W.heap.size x a m → Below w.heap.size w W → Calls Tryz.prog 44 #[.agg #[.string x.head.rel, a.v, .int .i64 x.agg, .int .i64 x.col, m.v, .int .i64 x.pos]] W (RetBool (rightRule x) W))) :
 Calls Tryz.prog 138 #[.slice A n c, .func (.func 98) #[] #[.pointer (some ⟨g, 0, none⟩)]] w (fun e w' => ∃ k : Int, e = .returned (.int .i64 k) ∧ decide (0 ≤ k) = !(l.all rightRule) ∧ Below w.heap.size w w') := by
 have hn := hl.bound; have HL := hZ9 hl; have hlen := hZ9 hl.1; have Hg := hZ9 hg; clear hl hg; go_enter Tryz.func138, Tryz.ntmps138
 go_wp2_with fail
 go_loopw [5, 8] (fun _ i wr => ∃ k : Nat, k ≤ n ∧ i = .int .i64 k ∧ Hid ((l.take k).all rightRule = true) ∧ Below w.heap.size w wr) (fun _ i _ => n - (intOf i).toNat)
 case atStart => exact ⟨0, by omega, rfl, by simp [Hid], Below.refl _ _⟩
 case round =>
  obtain ⟨k, hk, rfl, hpre, hbr⟩ := hrel; by_cases hlt : k < n
  ·have HLr := (HL.out.below hbr)
   obtain ⟨b, o, x, a, m, rfl, hbb, hx, hat, z0, z1, z2, z3, z4, z5⟩ := HLr.rule_at hlt; have hokx : RuleAt d wr wr.heap.size x a m := hat.mono' hbr.size (Kept.of fun _ _ => rfl); have C := hZ9 (ev1R_any x a m g wr (below_cell hbr Hg.out) (fun W hW => HC.out x a m W (hokx.keep hW) (below_next hbr hW))); have i0 : (0 : Int) ≤ (k : Int) := by omega
   have i1 : (k : Int) < (n : Int) := by omega
   have HT : Hid ((l.take (k + 1)).all rightRule = rightRule x) := by
    show _ = _; obtain ⟨g1, g2⟩ := List.getElem?_eq_some_iff.1 hx.out; rw [List.take_succ_eq_append_getElem g1, g2, List.all_append, hpre.out]; simp
   have HF : Hid (rightRule x = false → l.all rightRule = false) := fun h => by
    rw [List.all_eq_false]; exact ⟨x, List.mem_of_getElem? hx.out, by simp [h]⟩
   clear HLr hokx; generalize rightRule x = B at *; cases B with
   | true =>
     clear HF; go_wp2_with fail
     refine C.out.mono ?_; rintro e w1 ⟨rfl, hb⟩; have Hb := hZ9 hb; clear hb; go_wp2_with fail
     go_roundw
     case rel => exact ⟨k + 1, by omega, by go_num, HT, below_next hbr Hb.out⟩
     case measure => simp [intOf]; omega
   | false =>
     have HF' : Hid (l.all rightRule = false) := HF.out rfl; clear HF; go_wp2_with fail
     refine C.out.mono ?_; rintro e w1 ⟨rfl, hb⟩; have Hb := hZ9 hb; clear hb; go_wp2_with fail
     go_ret; exact ⟨_, rfl, by rw [HF'.out]; simp, below_next hbr Hb.out⟩
  ·have i1 : ¬ (k : Int) < (n : Int) := by omega
   have HA : Hid (l.all rightRule = true) := by
    show _ = _; have h := hpre.out; rw [List.take_of_length_le (by have := hlen.out; omega)] at h; exact h
   go_wp2_with fail
   go_ret; exact ⟨_, rfl, by rw [HA.out]; rfl, hbr⟩
theorem everyR_any (d : Nat) (A : Option Addr) (n c : Nat) (l : List GRule) (w : World) (hl : SliceIs (Enc.rule d) w w.heap.size A n c l)
 (HC : Hid (∀ (x : GRule) (a m : Hd) W, RuleAt d W W.heap.size x a m → Below w.heap.size w W → Calls Tryz.prog 44 #[.agg #[.string x.head.rel, a.v, .int .i64 x.agg, .int .i64 x.col, m.v, .int .i64 x.pos]] W (RetBool (rightRule x) W))) :
 Calls Tryz.prog 59 #[.slice A n c, .func (.func 44) #[] #[]] w (RetBool (l.all rightRule) w) := by
 have hba : Below w.heap.size w (w.alloc (.cells #[.func (.func 44) #[] #[]] 122)) := belowA (Below.refl _ _) _; have C := hZ9 (evIR_any d A n c l w.heap.size (w.alloc (.cells #[.func (.func 44) #[] #[]] 122)) (hl.keep hba) ((cell_of_row _ _ 0 _ _ _ (heapNew rfl)).trans rfl) (fun x a m W h hW => HC.out x a m W h (below_next hba hW))); generalize l.all rightRule = B at *; clear hl HC
 have CC : Hid (Calls Tryz.prog 97 #[.slice A n c, .func (.func 98) #[] #[.pointer (some ⟨w.heap.size, 0, none⟩)]] (w.alloc (.cells #[.func (.func 44) #[] #[]] 122)) (RetBool (!B) (w.alloc (.cells #[.func (.func 44) #[] #[]] 122)))) := by
  show Calls _ _ _ _ _; generalize w.alloc (.cells #[.func (.func 44) #[] #[]] 122) = wb at *; go_enter Tryz.func97, Tryz.ntmps97
  go_wp2_with fail
  refine C.out.mono ?_; rintro e w1 ⟨k, rfl, hk, hb⟩; have Hb := hZ9 hb; have Hk := hZ9 hk; clear hb hk; go_wp2_with fail
  go_ret; exact ⟨by rw [← Hk.out]; rfl, Hb.out⟩
 clear C; go_enter Tryz.func59, Tryz.ntmps59
 go_wp2_with fail
 refine CC.out.mono ?_; rintro e w1 ⟨rfl, hb⟩; have Hb := hZ9 hb; clear hb CC; go_wp2_with fail
 go_ret; exact ⟨by cases B <;> rfl, below_next hba Hb.out⟩
end Go.Proofs.YtaeedepojpablaaGreatDoor

namespace Go.Proofs.YtaeedepojpablaaGreatDoor
open Go.RowKit
def formedB (x : GProg) : Bool := (decide (x.decls.length ≤ 32) && decide (x.rules.length ≤ 64)) && (x.decls.all declB && x.rules.all rightRule)
theorem formed_any (d : Nat) (x : GProg) (a b : Hd) (w : World) (h : ProgAt d w w.heap.size x a b) (hW : LexW w) : Calls Tryz.prog 28 #[.agg #[a.v, b.v]] w (RetBool (formedB x) w) := by
 obtain ⟨B, HB⟩ : ∃ B, Hid (B = formedB x) := ⟨_, rfl⟩
 rw [← HB.out]; have hrb : (w.alloc (.cells #[a.v, b.v] 26)).heap[w.heap.size]? = some (.cells #[a.v, b.v] 26 (0, 0)) := heapNew rfl; have hba : Below w.heap.size w (w.alloc (.cells #[a.v, b.v] 26)) := belowA (Below.refl _ _) _; have hna := h.decls.bound; have hnb := h.rules.bound; have Hla := hZ9 h.decls.1; have Hlb := hZ9 h.rules.1; have HH := hZ9 (h.keep hba); have HW := hZ9 (hW.on hba); clear h hW; obtain ⟨P1, HP1⟩ : ∃ E, Hid (E = x.decls.all declB) := ⟨_, rfl⟩
 obtain ⟨P2, HP2⟩ : ∃ E, Hid (E = x.rules.all rightRule) := ⟨_, rfl⟩
 have HE : Hid (B = ((decide (x.decls.length ≤ 32) && decide (x.rules.length ≤ 64)) && (P1 && P2))) := by show _ = _; rw [HB.out, HP1.out, HP2.out]; rfl
 have Hrow : Hid (∀ W, Below (w.alloc (.cells #[a.v, b.v] 26)).heap.size (w.alloc (.cells #[a.v, b.v] 26)) W → W.heap[w.heap.size]? = some (.cells #[a.v, b.v] 26 (0, 0))) := fun W h => (h.block _ (glt hrb)).trans hrb
 obtain ⟨f0_0, f0_1⟩ := facts2 hrb
 have C1 : Hid (∀ W, Below (w.alloc (.cells #[a.v, b.v] 26)).heap.size (w.alloc (.cells #[a.v, b.v] 26)) W → Calls Tryz.prog 57 #[a.v, .func (.func 58) #[] #[]] W (RetBool P1 W)) := fun W h => by
  rw [HP1.out]; exact everyD_any a.A a.n a.c x.decls W (HH.out.decls.keep h) (fun y a W' hy h' => declared_any y a W' hy ((HW.out.on h).on h'))
 have C2 : Hid (∀ W, Below (w.alloc (.cells #[a.v, b.v] 26)).heap.size (w.alloc (.cells #[a.v, b.v] 26)) W → Calls Tryz.prog 59 #[b.v, .func (.func 44) #[] #[]] W (RetBool P2 W)) := fun W h => by
  rw [HP2.out]; exact everyR_any d b.A b.n b.c x.rules W (HH.out.rules.keep h) (fun y a m W' hy h' => rightRule_any d y a m W' hy ((HW.out.on h).on h'))
 clear hrb HB HP1 HP2 HH HW; by_cases h1 : a.n ≤ 32
 rotate_left
 ·have z1 : ¬ (a.n : Int) ≤ 32 := by omega
  have HE2 : Hid (B = false) := by show _ = _; rw [HE.out, decide_eq_false (by rw [Hla.out]; exact h1)]; rfl
  clear HE Hla Hlb h1 C1 C2; go_enter Tryz.func28, Tryz.ntmps28
  go_wp2_with fail
  go_ret; exact ⟨by rw [HE2.out]; rfl, hba⟩
 have z1 : (a.n : Int) ≤ 32 := by omega
 by_cases h2 : b.n ≤ 64
 rotate_left
 ·have z2 : ¬ (b.n : Int) ≤ 64 := by omega
  have HE2 : Hid (B = false) := by show _ = _; rw [HE.out, decide_eq_false (show ¬ x.rules.length ≤ 64 by rw [Hlb.out]; exact h2)]; simp
  clear HE Hla Hlb h1 h2 C1 C2; go_enter Tryz.func28, Tryz.ntmps28
  go_wp2_with fail
  go_ret; exact ⟨by rw [HE2.out]; rfl, hba⟩
 have z2 : (b.n : Int) ≤ 64 := by omega
 have HE2 : Hid (B = (P1 && P2)) := by show _ = _; rw [HE.out, decide_eq_true (show x.decls.length ≤ 32 by rw [Hla.out]; exact h1), decide_eq_true (show x.rules.length ≤ 64 by rw [Hlb.out]; exact h2)]; rfl
 clear HE Hla Hlb h1 h2; generalize hwb : (w.alloc (.cells #[a.v, b.v] 26)) = wb at *; have Hbw0 := hZ9 (Below.refl wb.heap.size wb); go_enter Tryz.func28, Tryz.ntmps28
 go_wp2_with fail
 try simp only [hwb]
 go_wp2_with fail
 refine (C1.out _ Hbw0.out).mono ?_; rintro e1 w1 ⟨rfl, hq1⟩; have Hbw1 := hZ9 (below_next Hbw0.out hq1); obtain ⟨f1_0, f1_1⟩ := facts2 (Hrow.out _ Hbw1.out); clear hq1 f0_0 f0_1; cases P1 with
 | false =>
   go_wp2_with fail
   go_ret; exact ⟨by rw [HE2.out]; rfl, below_next hba Hbw1.out⟩
 | true =>
   go_wp2_with fail
   refine (C2.out _ Hbw1.out).mono ?_; rintro e2 w2 ⟨rfl, hq2⟩; have Hbw2 := hZ9 (below_next Hbw1.out hq2); obtain ⟨f2_0, f2_1⟩ := facts2 (Hrow.out _ Hbw2.out); clear hq2 f1_0 f1_1; cases P2 <;>
   ·go_wp2_with fail
    go_ret; exact ⟨by rw [HE2.out]; rfl, below_next hba Hbw2.out⟩
end Go.Proofs.YtaeedepojpablaaGreatDoor

namespace Go.Proofs.YtaeedepojpablaaGreatDoor
open Go.RowKit
structure Toks (T : List GTok) (E : Nat) : Prop where
 within : Within T E
 texts : ∀ q ∈ T, TextOf wordK q.k q.t
 short : ∀ q ∈ T, q.t.length ≤ 4000
section
variable {T : List GTok} {E : Nat}
end
end Go.Proofs.YtaeedepojpablaaGreatDoor

namespace Go.Proofs.YtaeedepojpablaaGreatDoor
open Go.RowKit
theorem toks_of {l : List UInt8} (hl : l.length ≤ 4000) : Toks (lexS l).1 l.length := by
 have hp := lex_places (wk := wordK) _ 0 l (Nat.le_refl _); refine ⟨fun q hq => ?_, lex_texts (wk := wordK) _ 0 l (Nat.le_refl _), fun q hq => ?_⟩
 ·have := hp q hq; omega
 ·have := hp q hq; omega
section
variable {T : List GTok} {E : Nat}
end
def parseP (l : List UInt8) : GProg × Nat × Int := wholeP ⟨[], []⟩ (fun T E s => programP T E s) l
theorem fine0 (T : List GTok) (E : Nat) : Fine T E ps0 := ⟨Nat.zero_le _, fun h => absurd rfl h, Nat.zero_le _, by decide, by decide⟩
end Go.Proofs.YtaeedepojpablaaGreatDoor
