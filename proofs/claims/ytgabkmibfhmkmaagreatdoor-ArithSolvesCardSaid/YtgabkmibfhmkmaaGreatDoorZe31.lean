/- My own texts ArS, ArAl, ArLong, ArRl, ArSoB, ArSo0, as far as this claim needs them. -/
import Derived.Test.YtgabkmibfhmkmaaGreatDoorZe1
import Derived.Test.YtgabkmibfhmkmaaGreatDoorZe23
import Derived.Test.YtgabkmibfhmkmaaGreatDoorZe27
import Derived.Test.YtgabkmibfhmkmaaGreatDoorZe30
import Derived.Test.YtgabkmibfhmkmaaGreatDoorProg
import Derived.Deep.RegionHeld3
set_option linter.unusedVariables false
set_option linter.unusedSimpArgs false
namespace Go.Proofs.YtgabkmibfhmkmaaGreatDoor
open Go.RowKit
def evalT (f : ByteArray → Option GV) (x : GExp) : GV × Int := if rightE 20 x = true then evalS f 20 x else (gv0, 2)
set_option maxRecDepth 100000 in
set_option maxHeartbeats 2000000 in
theorem evalTop_any (x : GExp) (A : Option Addr) (n c d : Nat) (m : Value) (f : ByteArray → Option GV) (w : World) (hk : SliceIs (Enc.exp d) w w.heap.size A n c x.kids) (hx : x.t.x.size ≤ reachN) (hm : EnvIs w m f) (hL : LexW w) :
    Calls Tryz.prog 92 #[expV x A n c, m] w (TermErr (evalT f x) (errV 66) w) := by
  have hba : Below w.heap.size w ((w.alloc (.cells (expC x A n c).toArray 33)).alloc (.cells #[.int .i64 0, .int .i64 0, .string ⟨#[]⟩] 28)) := belowA (belowA (Below.refl _ _) _) _
  have hr1 : ((w.alloc (.cells (expC x A n c).toArray 33)).alloc (.cells #[.int .i64 0, .int .i64 0, .string ⟨#[]⟩] 28)).heap[w.heap.size]? = some (.cells (expC x A n c).toArray 33 (0, 0)) := heapOld (heapNew rfl)
  have hr2 : ((w.alloc (.cells (expC x A n c).toArray 33)).alloc (.cells #[.int .i64 0, .int .i64 0, .string ⟨#[]⟩] 28)).heap[w.heap.size + 1]? = some (.cells #[.int .i64 0, .int .i64 0, .string ⟨#[]⟩] 28 (0, 0)) := heapNew (by simp)
  have HR := Lib.hid (rightExp_any x A n c d _ (hk.keep hba) hx (hL.on hba))
  have HE := Lib.hid (fun (hr : rightE 20 x = true) (W : World) (hb : Below w.heap.size w W) => eval_any m f 20 x A n c d W hr (hk.keep hb) (hm.below hb))
  have HB := Lib.hid hba
  clear hk hx hm hL hba
  unfold evalT
  generalize hrr : rightE 20 x = r at *
  generalize hwb : (w.alloc (.cells (expC x A n c).toArray 33)).alloc (.cells #[.int .i64 0, .int .i64 0, .string ⟨#[]⟩] 28) = wb at *
  obtain ⟨r0, r1, r2, r3, r4, r5⟩ := facts6 hr1
  have hlt := (Array.getElem?_eq_some_iff.1 hr2).1
  cases r with
  | false =>
    rw [if_neg (by simp)]
    clear HE
    go_enter Tryz.func92, Tryz.ntmps92
    go_wp2_with fail
    try simp only [hwb]
    clear hwb
    go_wp2_with fail
    refine HR.out.mono ?_
    rintro e w1 ⟨rfl, hb1⟩
    have HB1 := Lib.hid (below_next HB.out hb1)
    have hh := (hb1.block _ hlt).trans hr2
    obtain ⟨s0, s1, s2⟩ := facts3 hh
    obtain ⟨z0, z1, z2⟩ := frz3 hh
    clear hb1
    go_wp2_with fail
    exact bodyPost_ret (v := .tuple #[gv0.v, .iface 66 (.int .i64 2)]) (by simp [results, Tryz.results92, go_sem, gv0, s0, s1, s2]) rfl ⟨rfl, ((HB1.out.setCell (by simp) _).setCell (by simp) _).setCell (by simp) _⟩
  | true =>
    rw [if_pos rfl]
    have HC := HE.out rfl
    unfold TermErr at HC ⊢
    generalize evalS f 20 x = p at *
    obtain ⟨v, er⟩ := p
    dsimp only at HC ⊢
    generalize errV 66 er = ev at *
    have HC := Lib.hid HC
    clear HE hrr
    go_enter Tryz.func92, Tryz.ntmps92
    go_wp2_with fail
    try simp only [hwb]
    clear hwb
    go_wp2_with fail
    refine HR.out.mono ?_
    rintro e w1 ⟨rfl, hb1⟩
    have HB1 := Lib.hid (below_next HB.out hb1)
    obtain ⟨q0, q1, q2, q3, q4, q5⟩ := facts6 ((hb1.block _ (by omega)).trans hr1)
    have hh1 := Lib.hid ((hb1.block _ hlt).trans hr2)
    clear hb1 r0 r1 r2 r3 r4 r5
    go_wp2_with fail
    refine (HC.out _ HB1.out).mono ?_
    rintro e w2 ⟨rfl, hb2⟩
    have HB2 := Lib.hid (below_next HB1.out hb2)
    have hh := (hb2.block _ (Array.getElem?_eq_some_iff.1 hh1.out).1).trans hh1.out
    obtain ⟨s0, s1, s2⟩ := facts3 hh
    obtain ⟨z0, z1, z2⟩ := frz3 hh
    clear hb2
    go_wp2_with fail
    exact bodyPost_ret (v := .tuple #[v.v, ev]) (by simp [results, Tryz.results92, go_sem, s0, s1, s2]) rfl ⟨rfl, ((HB2.out.setCell (by simp) _).setCell (by simp) _).setCell (by simp) _⟩
/-- the variable that is not told, or the empty text -/
def unsetS (f : ByteArray → Option GV) (e : GExp) : ByteArray := if aloneS f e = true then e.t.x else ⟨#[]⟩
set_option maxRecDepth 100000 in
set_option maxHeartbeats 1000000 in
theorem unset_any (x : GExp) (A : Option Addr) (n c : Nat) (m : Value) (f : ByteArray → Option GV) (w : World) (hm : EnvIs w m f) :
    Calls Tryz.prog 99 #[expV x A n c, m] w (RetV (.string (unsetS f x)) w) := by
  have hba : Below w.heap.size w (w.alloc (.cells (expC x A n c).toArray 33)) := belowA (Below.refl _ _) _
  have hlk := (hm.below hba).lookup x.t.x
  obtain ⟨S, HS⟩ : ∃ S, Hid (S = unsetS f x) := ⟨_, rfl⟩
  rw [← HS.out]
  clear hm
  cases hfx : f x.t.x with
  | some v =>
    rw [hfx] at hlk
    simp only [Option.getD_some, Option.isSome_some] at hlk
    have HE : Hid (S = ⟨#[]⟩) := by show _ = _; rw [HS.out]; simp [unsetS, aloneS, hfx]
    clear HS hfx
    by_cases h0 : x.op = 0
    · have q0 : (x.op != 0) = false := by simp [h0]
      clear h0
      go_enter Tryz.func99, Tryz.ntmps99
      go_wp2_with fail
      go_ret
      exact ⟨by rw [HE.out]; rfl, belowA hba _⟩
    · have q0 : (x.op != 0) = true := by simp [h0]
      clear h0
      go_enter Tryz.func99, Tryz.ntmps99
      go_wp2_with fail
      go_ret
      exact ⟨by rw [HE.out]; rfl, belowA hba _⟩
  | none =>
    rw [hfx] at hlk
    simp only [Option.getD_none, Option.isSome_none] at hlk
    by_cases h0 : x.op = 0
    · have HE : Hid (S = x.t.x) := by
        show _ = _
        rw [HS.out]
        by_cases hz : x.t.x.size = 0
        · have : x.t.x = ⟨#[]⟩ := by rw [← toList_inj, str_empty.2 hz]; exact (toList_mk []).symm
          simp [unsetS, aloneS, h0, this]
        · simp [unsetS, aloneS, h0, hfx, hz]
      have q0 : (x.op != 0) = false := by simp [h0]
      clear h0 HS hfx
      go_enter Tryz.func99, Tryz.ntmps99
      go_wp2_with fail
      go_ret
      exact ⟨by rw [HE.out]; rfl, belowA hba _⟩
    · have HE : Hid (S = ⟨#[]⟩) := by show _ = _; rw [HS.out]; simp [unsetS, aloneS, h0]
      have q0 : (x.op != 0) = true := by simp [h0]
      clear h0 HS hfx
      go_enter Tryz.func99, Tryz.ntmps99
      go_wp2_with fail
      go_ret
      exact ⟨by rw [HE.out]; rfl, belowA hba _⟩
/-- what is solved -/
def SolveP (f : ByteArray → Option GV) (r : Option (ByteArray × GV) × Bool × Int) (w : World) (e : Ending) (w' : World) : Prop :=
  Below w.heap.size w w' ∧ ((r.2.1 = true ∧ r.2.2 = 0 ∧ ∃ g l, e = .returned (.tuple #[.map (some g), .bool true, .nilIface]) ∧ MapIs w' g (gvs l) ∧ (l.map Prod.fst).Nodup ∧ ∀ s, kvGet l s = updO f r.1 s) ∨ (r.2.1 = false ∧ e = .returned (.tuple #[.map none, .bool false, errV 66 r.2.2])))
set_option maxRecDepth 100000 in
set_option maxHeartbeats 2000000 in
theorem aset_any (m : Value) (f : ByteArray → Option GV) (s : ByteArray) (x : GExp) (A : Option Addr) (n c d : Nat) (w : World) (hr : rightE 20 x = true) (hk : SliceIs (Enc.exp d) w w.heap.size A n c x.kids) (hm : EnvIs w m f) :
    Calls Tryz.prog 100 #[m, .string s, expV x A n c] w (SolveP f (setS f s x) w) := by
  have hba : Below w.heap.size w (w.alloc (.cells (expC x A n c).toArray 33)) := belowA (Below.refl _ _) _
  have HC := Lib.hid (eval_any m f 20 x A n c d _ hr (hk.keep hba) (hm.below hba))
  have HM := Lib.hid (fun (W : World) (hb : Below w.heap.size w W) => copy_any m f W (hm.below hb))
  have HB := Lib.hid hba
  clear hr hk hm hba
  unfold TermErr at HC
  have HS : Hid (setS f s x = if (evalS f 20 x).2 ≠ 0 then (none, false, (evalS f 20 x).2) else (some (s, (evalS f 20 x).1), true, 0)) := rfl
  obtain ⟨R, hR⟩ : ∃ R, setS f s x = R := ⟨_, rfl⟩
  rw [hR] at HS ⊢
  clear hR
  generalize evalS f 20 x = p at *
  obtain ⟨v, er⟩ := p
  dsimp only at HC HS
  by_cases he : er = 0
  rotate_left
  · have ev : errV 66 er = .iface 66 (.int .i64 er) := by unfold errV; rw [if_neg he]
    rw [ev] at HC
    have HS2 : Hid (R = (none, false, er)) := by show _ = _; rw [HS.out, if_pos he]
    have Hev := Lib.hid ev
    clear he ev HS HM
    go_enter Tryz.func100, Tryz.ntmps100
    go_wp2_with fail
    refine HC.out.mono ?_
    rintro e w1 ⟨rfl, hb1⟩
    have HB1 := Lib.hid (below_next HB.out hb1)
    clear hb1
    go_wp2_with fail
    exact bodyPost_ret (v := .tuple #[.map none, .bool false, .iface 66 (.int .i64 er)]) (by simp [results, Tryz.results100, go_sem]) rfl ⟨belowA HB1.out _, .inr (by rw [HS2.out]; exact ⟨rfl, by rw [Hev.out]⟩)⟩
  · subst he
    simp only [errV, if_true] at HC
    have HS2 : Hid (R = (some (s, v), true, 0)) := by show _ = _; rw [HS.out, if_neg (by simp)]
    clear HS
    go_enter Tryz.func100, Tryz.ntmps100
    go_wp2_with fail
    refine HC.out.mono ?_
    rintro e w1 ⟨rfl, hb1⟩
    have HB1 := Lib.hid (belowA (below_next HB.out hb1) (.cells #[.int .i64 v.k, .int .i64 v.n, .string v.s] 28))
    have hv1 : (w1.alloc (.cells #[.int .i64 v.k, .int .i64 v.n, .string v.s] 28)).heap[w1.heap.size]? = some (.cells #[.int .i64 v.k, .int .i64 v.n, .string v.s] 28 (0, 0)) := heapNew rfl
    clear hb1
    generalize hwc : w1.alloc (.cells #[.int .i64 v.k, .int .i64 v.n, .string v.s] 28) = wc at *
    go_wp2_with fail
    try simp only [hwc]
    go_wp2_with fail
    refine (HM.out _ HB1.out).mono ?_
    rintro e w2 ⟨g, l, rfl, hg, hmp, hnd, hget, hb2⟩
    have HB2 := Lib.hid (below_next HB1.out hb2)
    obtain ⟨c0, c1, c2⟩ := facts3 ((hb2.block _ (Array.getElem?_eq_some_iff.1 hv1).1).trans hv1)
    have hgl : w.heap.size ≤ g := Nat.le_trans HB1.out.size hg
    obtain ⟨w3, hup, hm3, hg3, _⟩ := hmp.update (P := Tryz.prog) (t := 54) (e := 28) Tryz.underlying54 Tryz.underlying9 s v.v
    have Hgl := Lib.hid hgl
    have Hget := Lib.hid hget
    clear hb2 hgl hget hg hwc
    go_wp2_with fail
    refine bodyPost_ret (v := .tuple #[.map (some g), .bool true, .nilIface]) (by simp [results, Tryz.results100, go_sem]) rfl ⟨HB2.out.grown hg3 HB2.out.size (by rintro _ ⟨rfl⟩; exact Hgl.out), .inl (by rw [HS2.out]; exact ⟨rfl, rfl, g, kvSet l s v, rfl, gvs_set l s v ▸ hm3, kvSet_keys hnd, fun q => by rw [kvGet_set, Hget.out]; rfl⟩)⟩
def cmpB3 (x : GLit) : Bool := decide (x.k = 3) && rightLit x
set_option maxRecDepth 100000 in
set_option maxHeartbeats 2000000 in
theorem compares_any (d : Nat) (x : GLit) (A : Option Addr) (n c : Nat) (P : Option Addr) (pn pc : Nat) (Q : Option Addr) (qn qc : Nat) (w : World) (h : LitAt d w w.heap.size x ⟨A, n, c⟩ ⟨P, pn, pc⟩ ⟨Q, qn, qc⟩) (hL : LexW w) : Calls Tryz.prog 96 #[.agg #[.int .i64 x.k, .string x.atom.rel, .slice A n c, .int .i64 x.op, .int .i64 x.l.op, .string x.l.t.x, .int .i64 x.l.t.v.k, .int .i64 x.l.t.v.n, .string x.l.t.v.s, .slice P pn pc, .int .i64 x.r.op, .string x.r.t.x, .int .i64 x.r.t.v.k, .int .i64 x.r.t.v.n, .string x.r.t.v.s, .slice Q qn qc, .int .i64 x.pos]] w (RetBool (cmpB3 x) w) := by
  have hba : Below w.heap.size w (w.alloc (.cells #[.int .i64 x.k, .string x.atom.rel, .slice A n c, .int .i64 x.op, .int .i64 x.l.op, .string x.l.t.x, .int .i64 x.l.t.v.k, .int .i64 x.l.t.v.n, .string x.l.t.v.s, .slice P pn pc, .int .i64 x.r.op, .string x.r.t.x, .int .i64 x.r.t.v.k, .int .i64 x.r.t.v.n, .string x.r.t.v.s, .slice Q qn qc, .int .i64 x.pos] 35)) := belowA (Below.refl _ _) _
  have hrb : (w.alloc (.cells #[.int .i64 x.k, .string x.atom.rel, .slice A n c, .int .i64 x.op, .int .i64 x.l.op, .string x.l.t.x, .int .i64 x.l.t.v.k, .int .i64 x.l.t.v.n, .string x.l.t.v.s, .slice P pn pc, .int .i64 x.r.op, .string x.r.t.x, .int .i64 x.r.t.v.k, .int .i64 x.r.t.v.n, .string x.r.t.v.s, .slice Q qn qc, .int .i64 x.pos] 35)).heap[w.heap.size]? = some (.cells #[.int .i64 x.k, .string x.atom.rel, .slice A n c, .int .i64 x.op, .int .i64 x.l.op, .string x.l.t.x, .int .i64 x.l.t.v.k, .int .i64 x.l.t.v.n, .string x.l.t.v.s, .slice P pn pc, .int .i64 x.r.op, .string x.r.t.x, .int .i64 x.r.t.v.k, .int .i64 x.r.t.v.n, .string x.r.t.v.s, .slice Q qn qc, .int .i64 x.pos] 35 (0, 0)) := heapNew rfl
  have HC := Lib.hid (rightLit_any d x ⟨A, n, c⟩ ⟨P, pn, pc⟩ ⟨Q, qn, qc⟩ _ (h.keep hba) (hL.on hba))
  have HB := Lib.hid hba
  obtain ⟨f0, f1, f2, f3, f4, f5, f6, f7, f8, f9, f10, f11, f12, f13, f14, f15, f16⟩ := facts17 hrb
  clear h hL hba hrb
  generalize hwb : (w.alloc (.cells #[.int .i64 x.k, .string x.atom.rel, .slice A n c, .int .i64 x.op, .int .i64 x.l.op, .string x.l.t.x, .int .i64 x.l.t.v.k, .int .i64 x.l.t.v.n, .string x.l.t.v.s, .slice P pn pc, .int .i64 x.r.op, .string x.r.t.x, .int .i64 x.r.t.v.k, .int .i64 x.r.t.v.n, .string x.r.t.v.s, .slice Q qn qc, .int .i64 x.pos] 35)) = wb at *
  by_cases hk : x.k = 3
  · have q0 : (x.k == 3) = true := by simp [hk]
    have HE : Hid (cmpB3 x = rightLit x) := by show _ = _; simp [cmpB3, hk]
    generalize rightLit x = r at *
    clear hk
    go_enter Tryz.func96, Tryz.ntmps96
    go_wp2_with fail
    try simp only [hwb]
    clear hwb
    go_wp2_with fail
    refine HC.out.mono ?_
    rintro e w1 ⟨rfl, hb1⟩
    go_wp2_with fail
    go_ret
    exact ⟨by rw [HE.out]; rfl, below_next HB.out hb1⟩
  · have q0 : (x.k == 3) = false := by simp [hk]
    have HE : Hid (cmpB3 x = false) := by show _ = _; simp [cmpB3, hk]
    clear hk HC
    go_enter Tryz.func96, Tryz.ntmps96
    go_wp2_with fail
    try simp only [hwb]
    go_wp2_with fail
    go_ret
    exact ⟨by rw [HE.out]; rfl, HB.out⟩
def testT (f : ByteArray → Option GV) (x : GLit) : Bool × Int := if cmpB3 x = true then testS f x.op x.l x.r else (false, 2)
theorem cmpB3_parts {x : GLit} (h : cmpB3 x = true) : rightE 20 x.l = true ∧ rightE 20 x.r = true := by
  unfold cmpB3 rightLit at h
  simp only [Bool.and_eq_true, decide_eq_true_eq] at h
  obtain ⟨h1, h2⟩ := h
  rw [if_neg (by omega)] at h2
  simp only [Bool.and_eq_true] at h2
  exact h2.2.2
set_option maxRecDepth 100000 in
set_option maxHeartbeats 4000000 in
theorem atest_any (d : Nat) (x : GLit) (A : Option Addr) (n c : Nat) (P : Option Addr) (pn pc : Nat) (Q : Option Addr) (qn qc : Nat) (m : Value) (f : ByteArray → Option GV) (w : World) (h : LitAt d w w.heap.size x ⟨A, n, c⟩ ⟨P, pn, pc⟩ ⟨Q, qn, qc⟩) (hm : EnvIs w m f) (hL : LexW w) : Calls Tryz.prog 20 #[.agg #[.int .i64 x.k, .string x.atom.rel, .slice A n c, .int .i64 x.op, .int .i64 x.l.op, .string x.l.t.x, .int .i64 x.l.t.v.k, .int .i64 x.l.t.v.n, .string x.l.t.v.s, .slice P pn pc, .int .i64 x.r.op, .string x.r.t.x, .int .i64 x.r.t.v.k, .int .i64 x.r.t.v.n, .string x.r.t.v.s, .slice Q qn qc, .int .i64 x.pos], m] w (RetBE (testT f x) (errV 66) w) := by
  have hba : Below w.heap.size w (w.alloc (.cells #[.int .i64 x.k, .string x.atom.rel, .slice A n c, .int .i64 x.op, .int .i64 x.l.op, .string x.l.t.x, .int .i64 x.l.t.v.k, .int .i64 x.l.t.v.n, .string x.l.t.v.s, .slice P pn pc, .int .i64 x.r.op, .string x.r.t.x, .int .i64 x.r.t.v.k, .int .i64 x.r.t.v.n, .string x.r.t.v.s, .slice Q qn qc, .int .i64 x.pos] 35)) := belowA (Below.refl _ _) _
  have hrb : (w.alloc (.cells #[.int .i64 x.k, .string x.atom.rel, .slice A n c, .int .i64 x.op, .int .i64 x.l.op, .string x.l.t.x, .int .i64 x.l.t.v.k, .int .i64 x.l.t.v.n, .string x.l.t.v.s, .slice P pn pc, .int .i64 x.r.op, .string x.r.t.x, .int .i64 x.r.t.v.k, .int .i64 x.r.t.v.n, .string x.r.t.v.s, .slice Q qn qc, .int .i64 x.pos] 35)).heap[w.heap.size]? = some (.cells #[.int .i64 x.k, .string x.atom.rel, .slice A n c, .int .i64 x.op, .int .i64 x.l.op, .string x.l.t.x, .int .i64 x.l.t.v.k, .int .i64 x.l.t.v.n, .string x.l.t.v.s, .slice P pn pc, .int .i64 x.r.op, .string x.r.t.x, .int .i64 x.r.t.v.k, .int .i64 x.r.t.v.n, .string x.r.t.v.s, .slice Q qn qc, .int .i64 x.pos] 35 (0, 0)) := heapNew rfl
  have HC := Lib.hid (compares_any d x A n c P pn pc Q qn qc _ (h.keep hba) (hL.on hba))
  have HL := Lib.hid (fun (hr : rightE 20 x.l = true) (W : World) (hb : Below w.heap.size w W) => eval_any m f 20 x.l P pn pc d W hr (h.keep hb).lk (hm.below hb))
  have HR := Lib.hid (fun (hr : rightE 20 x.r = true) (W : World) (hb : Below w.heap.size w W) => eval_any m f 20 x.r Q qn qc d W hr (h.keep hb).rk (hm.below hb))
  have HH := Lib.hid (fun (op : Int) (a b : GV) (W : World) => holds_any op a b W)
  have HB := Lib.hid hba
  have HF : Hid (∀ W, Below (w.alloc (.cells #[.int .i64 x.k, .string x.atom.rel, .slice A n c, .int .i64 x.op, .int .i64 x.l.op, .string x.l.t.x, .int .i64 x.l.t.v.k, .int .i64 x.l.t.v.n, .string x.l.t.v.s, .slice P pn pc, .int .i64 x.r.op, .string x.r.t.x, .int .i64 x.r.t.v.k, .int .i64 x.r.t.v.n, .string x.r.t.v.s, .slice Q qn qc, .int .i64 x.pos] 35)).heap.size (w.alloc (.cells #[.int .i64 x.k, .string x.atom.rel, .slice A n c, .int .i64 x.op, .int .i64 x.l.op, .string x.l.t.x, .int .i64 x.l.t.v.k, .int .i64 x.l.t.v.n, .string x.l.t.v.s, .slice P pn pc, .int .i64 x.r.op, .string x.r.t.x, .int .i64 x.r.t.v.k, .int .i64 x.r.t.v.n, .string x.r.t.v.s, .slice Q qn qc, .int .i64 x.pos] 35)) W → W.heap[w.heap.size]? = some (.cells #[.int .i64 x.k, .string x.atom.rel, .slice A n c, .int .i64 x.op, .int .i64 x.l.op, .string x.l.t.x, .int .i64 x.l.t.v.k, .int .i64 x.l.t.v.n, .string x.l.t.v.s, .slice P pn pc, .int .i64 x.r.op, .string x.r.t.x, .int .i64 x.r.t.v.k, .int .i64 x.r.t.v.n, .string x.r.t.v.s, .slice Q qn qc, .int .i64 x.pos] 35 (0, 0))) := fun W hb => (hb.block _ (Array.getElem?_eq_some_iff.1 hrb).1).trans hrb
  obtain ⟨f0, f1, f2, f3, f4, f5, f6, f7, f8, f9, f10, f11, f12, f13, f14, f15, f16⟩ := facts17 hrb
  obtain ⟨K, HK⟩ : ∃ K : Ending → World → Prop, Hid (K = RetBE (testT f x) (errV 66) w) := ⟨_, rfl⟩
  rw [← HK.out]
  have HPost : Hid (∀ q : Bool × Int, testT f x = q → ∀ w', Below w.heap.size w w' → K (.returned (.tuple #[.bool q.1, errV 66 q.2])) w') := fun p hp w' hb => by rw [HK.out, hp]; exact ⟨rfl, hb⟩
  clear h hm hL hba hrb HK
  generalize hwb : (w.alloc (.cells #[.int .i64 x.k, .string x.atom.rel, .slice A n c, .int .i64 x.op, .int .i64 x.l.op, .string x.l.t.x, .int .i64 x.l.t.v.k, .int .i64 x.l.t.v.n, .string x.l.t.v.s, .slice P pn pc, .int .i64 x.r.op, .string x.r.t.x, .int .i64 x.r.t.v.k, .int .i64 x.r.t.v.n, .string x.r.t.v.s, .slice Q qn qc, .int .i64 x.pos] 35)) = wb at *
  cases hc : cmpB3 x with
  | false =>
    have HG := Lib.hid (HPost.out (false, 2) (by unfold testT; rw [hc]; rfl))
    rw [hc] at HC
    clear hc HPost HL HR HH
    go_enter Tryz.func20, Tryz.ntmps20
    go_wp2_with fail
    try simp only [hwb]
    clear hwb
    go_wp2_with fail
    refine HC.out.mono ?_
    rintro e w1 ⟨rfl, hb1⟩
    have HB1 := Lib.hid (below_next HB.out hb1)
    clear hb1
    go_wp2_with fail
    try go_ret2
    exact HG.out _ HB1.out
  | true =>
    obtain ⟨hl, hr⟩ := cmpB3_parts hc
    have HT : Hid (testT f x = testS f x.op x.l x.r) := by show _ = _; unfold testT; rw [hc]; rfl
    rw [hc] at HC
    have HL2 := HL.out hl
    have HR2 := HR.out hr
    have hts : testS f x.op x.l x.r = if (evalS f 20 x.l).2 ≠ 0 then (false, (evalS f 20 x.l).2) else if (evalS f 20 x.r).2 ≠ 0 then (false, (evalS f 20 x.r).2) else holdsS x.op (evalS f 20 x.l).1 (evalS f 20 x.r).1 := rfl
    unfold TermErr at HL2 HR2
    clear hc hl hr HL HR
    generalize evalS f 20 x.l = p1 at *
    generalize evalS f 20 x.r = p2 at *
    obtain ⟨v1, e1⟩ := p1
    obtain ⟨v2, e2⟩ := p2
    dsimp only at HL2 HR2 hts
    by_cases he1 : e1 = 0
    rotate_left
    · have ev : errV 66 e1 = .iface 66 (.int .i64 e1) := by unfold errV; rw [if_neg he1]
      have HG := Lib.hid (HPost.out (false, e1) (by rw [HT.out, hts, if_pos he1]))
      dsimp only at HG
      rw [ev] at HG
      simp only [ev] at HL2
      have HL3 := Lib.hid HL2
      clear hts he1 ev HL2 HR2 HPost HT HH
      go_enter Tryz.func20, Tryz.ntmps20
      go_wp2_with fail
      try simp only [hwb]
      clear hwb
      go_wp2_with fail
      refine HC.out.mono ?_
      rintro e w1 ⟨rfl, hb1⟩
      have HB1 := Lib.hid hb1
      obtain ⟨g0, g1, g2, g3, g4, g5, g6, g7, g8, g9, g10, g11, g12, g13, g14, g15, g16⟩ := facts17 (HF.out _ hb1)
      clear hb1 f0 f1 f2 f3 f4 f5 f6 f7 f8 f9 f10 f11 f12 f13 f14 f15 f16
      go_wp2_with fail
      refine (HL3.out _ (below_next HB.out HB1.out)).mono ?_
      rintro e w2 ⟨rfl, hb2⟩
      have HB2 := Lib.hid (below_next (below_next HB.out HB1.out) hb2)
      clear hb2
      go_wp2_with fail
      try go_ret2
      exact HG.out _ (belowA HB2.out _)
    subst he1
    rw [if_neg (by simp)] at hts
    simp only [errV, if_true] at HL2
    have HL3 := Lib.hid HL2
    clear HL2
    by_cases he2 : e2 = 0
    rotate_left
    · have ev : errV 66 e2 = .iface 66 (.int .i64 e2) := by unfold errV; rw [if_neg he2]
      have HG := Lib.hid (HPost.out (false, e2) (by rw [HT.out, hts, if_pos he2]))
      dsimp only at HG
      rw [ev] at HG
      simp only [ev] at HR2
      have HR3 := Lib.hid HR2
      clear hts he2 ev HR2 HPost HT HH
      go_enter Tryz.func20, Tryz.ntmps20
      go_wp2_with fail
      try simp only [hwb]
      clear hwb
      go_wp2_with fail
      refine HC.out.mono ?_
      rintro e w1 ⟨rfl, hb1⟩
      have HB1 := Lib.hid hb1
      obtain ⟨g0, g1, g2, g3, g4, g5, g6, g7, g8, g9, g10, g11, g12, g13, g14, g15, g16⟩ := facts17 (HF.out _ hb1)
      clear hb1 f0 f1 f2 f3 f4 f5 f6 f7 f8 f9 f10 f11 f12 f13 f14 f15 f16
      go_wp2_with fail
      refine (HL3.out _ (below_next HB.out HB1.out)).mono ?_
      rintro e w2 ⟨rfl, hb2⟩
      have HB2 := Lib.hid (below_next HB1.out (belowA hb2 (.cells #[.int .i64 v1.k, .int .i64 v1.n, .string v1.s] 28)))
      obtain ⟨k0, k1, k2, k3, k4, k5, k6, k7, k8, k9, k10, k11, k12, k13, k14, k15, k16⟩ := facts17 (HF.out _ HB2.out)
      clear hb2 g0 g1 g2 g3 g4 g5 g6 g7 g8 g9 g10 g11 g12 g13 g14 g15 g16
      generalize hwd : w2.alloc (.cells #[.int .i64 v1.k, .int .i64 v1.n, .string v1.s] 28) = wd at *
      go_wp2_with fail
      try simp only [hwd]
      clear hwd
      go_wp2_with fail
      refine (HR3.out _ (below_next HB.out HB2.out)).mono ?_
      rintro e w3 ⟨rfl, hb3⟩
      have HB3 := Lib.hid (below_next (below_next HB.out HB2.out) hb3)
      clear hb3
      go_wp2_with fail
      try go_ret2
      exact HG.out _ (belowA HB3.out _)
    subst he2
    rw [if_neg (by simp)] at hts
    simp only [errV, if_true] at HR2
    have HR3 := Lib.hid HR2
    have HG := Lib.hid (HPost.out _ (HT.out.trans hts))
    have HH2 := Lib.hid (HH.out x.op v1 v2)
    unfold RetBE at HH2
    clear HR2 hts HPost HT HH
    generalize holdsS x.op v1 v2 = hq at *
    obtain ⟨qb, qe⟩ := hq
    dsimp only at HG HH2
    generalize errV 66 qe = ev at *
    go_enter Tryz.func20, Tryz.ntmps20
    go_wp2_with fail
    try simp only [hwb]
    clear hwb
    go_wp2_with fail
    refine HC.out.mono ?_
    rintro e w1 ⟨rfl, hb1⟩
    have HB1 := Lib.hid hb1
    obtain ⟨g0, g1, g2, g3, g4, g5, g6, g7, g8, g9, g10, g11, g12, g13, g14, g15, g16⟩ := facts17 (HF.out _ hb1)
    clear hb1 f0 f1 f2 f3 f4 f5 f6 f7 f8 f9 f10 f11 f12 f13 f14 f15 f16
    go_wp2_with fail
    refine (HL3.out _ (below_next HB.out HB1.out)).mono ?_
    rintro e w2 ⟨rfl, hb2⟩
    have HB2 := Lib.hid (below_next HB1.out (belowA hb2 (.cells #[.int .i64 v1.k, .int .i64 v1.n, .string v1.s] 28)))
    have hn1 : (w2.alloc (.cells #[.int .i64 v1.k, .int .i64 v1.n, .string v1.s] 28)).heap[w2.heap.size]? = some (.cells #[.int .i64 v1.k, .int .i64 v1.n, .string v1.s] 28 (0, 0)) := heapNew rfl
    obtain ⟨k0, k1, k2, k3, k4, k5, k6, k7, k8, k9, k10, k11, k12, k13, k14, k15, k16⟩ := facts17 (HF.out _ HB2.out)
    clear hb2 g0 g1 g2 g3 g4 g5 g6 g7 g8 g9 g10 g11 g12 g13 g14 g15 g16
    generalize hwd : w2.alloc (.cells #[.int .i64 v1.k, .int .i64 v1.n, .string v1.s] 28) = wd at *
    have Hn1 := Lib.hid hn1
    clear hn1
    go_wp2_with fail
    try simp only [hwd]
    clear hwd
    go_wp2_with fail
    refine (HR3.out _ (below_next HB.out HB2.out)).mono ?_
    rintro e w3 ⟨rfl, hb3⟩
    have HB3 := Lib.hid (below_next HB2.out (belowA hb3 (.cells #[.int .i64 v2.k, .int .i64 v2.n, .string v2.s] 28)))
    have hn2 : (w3.alloc (.cells #[.int .i64 v2.k, .int .i64 v2.n, .string v2.s] 28)).heap[w3.heap.size]? = some (.cells #[.int .i64 v2.k, .int .i64 v2.n, .string v2.s] 28 (0, 0)) := heapNew rfl
    have hn1 := ((belowA hb3 (.cells #[.int .i64 v2.k, .int .i64 v2.n, .string v2.s] 28)).block _ (Array.getElem?_eq_some_iff.1 Hn1.out).1).trans Hn1.out
    obtain ⟨j0, j1, j2, j3, j4, j5, j6, j7, j8, j9, j10, j11, j12, j13, j14, j15, j16⟩ := facts17 (HF.out _ HB3.out)
    obtain ⟨a0, a1, a2⟩ := facts3 hn1
    obtain ⟨b0, b1, b2⟩ := facts3 hn2
    clear hb3 k0 k1 k2 k3 k4 k5 k6 k7 k8 k9 k10 k11 k12 k13 k14 k15 k16 hn1 hn2
    generalize hwe : w3.alloc (.cells #[.int .i64 v2.k, .int .i64 v2.n, .string v2.s] 28) = we at *
    go_wp2_with fail
    try simp only [hwe]
    clear hwe
    go_wp2_with fail
    refine (HH2.out _).mono ?_
    rintro e w4 ⟨rfl, hb4⟩
    have HB4 := Lib.hid (below_next (below_next HB.out HB3.out) hb4)
    clear hb4
    go_wp2_with fail
    try go_ret2
    exact HG.out _ HB4.out
end Go.Proofs.YtgabkmibfhmkmaaGreatDoor

namespace Go.Proofs.YtgabkmibfhmkmaaGreatDoor
open Go.RowKit
def al13 : ByteArray := ⟨#[112, 40, 41, 32, 58, 45, 32, 88, 32, 43, 32, 50, 32, 42, 32, 51, 32, 61, 32, 89, 46]⟩
def al13L : List UInt8 := [112, 40, 41, 32, 58, 45, 32, 88, 32, 43, 32, 50, 32, 42, 32, 51, 32, 61, 32, 89, 46]
def al13E : GExp := .mk 1 zT [.mk 0 ⟨⟨#[88]⟩, gv0⟩ [], .mk 3 zT [.mk 0 ⟨⟨#[]⟩, ⟨1, 2, ⟨#[]⟩⟩⟩ [], .mk 0 ⟨⟨#[]⟩, ⟨1, 3, ⟨#[]⟩⟩⟩ []]]
set_option maxRecDepth 100000 in
theorem al13_read : ((readP al13L).2.2, (readP al13L).1.body.map (fun x => x.l)) = (0, [al13E]) := by kernel_rfl
theorem al13_list : al13.toList = al13L := toList_mk _
def al13F : ByteArray → Option GV := fun s => kvGet [((⟨#[88]⟩ : ByteArray), (⟨1, 1, ⟨#[]⟩⟩ : GV))] s
set_option maxRecDepth 100000 in
theorem al13_eval : evalT al13F al13E = (⟨1, 7, ⟨#[]⟩⟩, 0) := by kernel_rfl
def Al13Post (w : World) (e : Ending) (w' : World) : Prop := Below w.heap.size w w' ∧ ∃ (rel : ByteArray) (A1 : Option Addr) (k1 c1 b o c2 : Nat) (ag co pos : Int) (at_ : Nat) (d : Nat) (P : Option Addr) (pn pc : Nat),
  e = .returned (.tuple #[.agg #[.string rel, .slice A1 k1 c1, .int .i64 ag, .int .i64 co, .slice (some ⟨b, o, none⟩) 1 c2, .int .i64 pos], .int .i64 at_, .nilIface]) ∧ b < w'.heap.size ∧
  w'.cell? ⟨b, o + 4, none⟩ = some (.int .i64 1) ∧ w'.cell? ⟨b, o + 5, none⟩ = some (.string ⟨#[]⟩) ∧ w'.cell? ⟨b, o + 6, none⟩ = some (.int .i64 0) ∧ w'.cell? ⟨b, o + 7, none⟩ = some (.int .i64 0) ∧ w'.cell? ⟨b, o + 8, none⟩ = some (.string ⟨#[]⟩) ∧ w'.cell? ⟨b, o + 9, none⟩ = some (.slice P pn pc) ∧
  SliceIs (Enc.exp d) w' w'.heap.size P pn pc al13E.kids
set_option maxRecDepth 100000 in
theorem al13_calls (w : World) (hW : ParW w) : Calls Tryz.prog 91 #[.string al13] w (Al13Post w) := by
  refine (readRule_any al13 (by decide) w hW).mono ?_
  rintro e w1 ⟨hb, d, ⟨A1, k1, c1⟩, ⟨A2, k2, c2⟩, rfl, ha⟩
  have hr := al13_read
  rw [← al13_list] at hr
  generalize readP al13.toList = y at *
  obtain ⟨y, at_, er⟩ := y
  simp only [Prod.mk.injEq] at hr
  obtain ⟨rfl, hbo⟩ := hr
  have hbd : SliceIs (Enc.lit d) w1 w1.heap.size A2 k2 c2 y.body := SliceIs.mono' ha.body (Nat.le_refl _) (kept_up _ _ _)
  have hl : y.body.length = 1 := by have := congrArg List.length hbo; simpa using this
  obtain rfl : k2 = 1 := hbd.1.symm.trans hl
  obtain ⟨b, o, x, a, p, q, rfl, hlt, hx, hla, e0, e1, e2, e3, e4, e5, e6, e7, e8, e9, -⟩ := hbd.lit_at (i := 0) (by omega)
  have hxl : x.l = al13E := by
    have h := congrArg (fun l => l[0]?) hbo
    simp only [List.getElem?_map, hx.out] at h
    exact Option.some.inj h
  simp only [Nat.zero_mul, Nat.add_zero] at e4 e5 e6 e7 e8 e9
  have hlk := hla.lk
  rw [hxl] at e4 e5 e6 e7 e8 hlk
  exact ⟨hb, y.head.rel, A1, k1, c1, b, o, c2, y.agg, y.col, y.pos, at_, d, p.A, p.n, p.c, rfl, hlt, e4, e5, e6, e7, e8, e9, hlk⟩
set_option maxRecDepth 100000 in
set_option maxHeartbeats 4000000 in
theorem alive13_any (w : World) (hW : ParW w) : Calls Tryz.prog 15 #[] w (RetBool true w) := by
  have HC := Lib.hid (al13_calls w hW)
  unfold al13 at HC
  have HL := Lib.hid hW.lex
  have hmm := @run_makeMap Tryz.prog
  have rn := run_eql_value ⟨1, 7, ⟨#[]⟩⟩ ⟨1, 7, ⟨#[]⟩⟩
  rw [GV.beq_self] at rn
  clear hW
  go_enter Tryz.func15, Tryz.ntmps15
  go_wp2_with fail
  refine HC.out.mono ?_
  rintro e w1 ⟨hb, rel, A1, k1, c1, b, o, c2, ag, co, pos, at_, d, P, pn, pc, rfl, hlt, h4, h5, h6, h7, h8, h9, hk⟩
  have hbA := belowA (Below.refl w1.heap.size w1) (.cells #[.string rel, .slice A1 k1 c1, .int .i64 ag, .int .i64 co, .slice (some ⟨b, o, none⟩) 1 c2, .int .i64 pos] 41)
  obtain ⟨w2, hup, hm2, hgr, hsz⟩ := (MapIs.made (w := w1.alloc (.cells #[.string rel, .slice A1 k1 c1, .int .i64 ag, .int .i64 co, .slice (some ⟨b, o, none⟩) 1 c2, .int .i64 pos] 41))).update (P := Tryz.prog) (t := 54) (e := 28) Tryz.underlying54 Tryz.underlying9 ⟨#[88]⟩ (GV.v ⟨1, 1, ⟨#[]⟩⟩)
  have hb2 : Below w1.heap.size w1 w2 := (belowA hbA (.map #[] 0)).grown hgr (by simp; omega) (by rintro _ ⟨rfl⟩; simp)
  have HE := evalTop_any al13E P pn pc d (.map (some (w1.alloc (.cells #[.string rel, .slice A1 k1 c1, .int .i64 ag, .int .i64 co, .slice (some ⟨b, o, none⟩) 1 c2, .int .i64 pos] 41)).heap.size)) al13F w2 (hk.keep hb2) (Nat.zero_le _) ⟨[((⟨#[88]⟩ : ByteArray), (⟨1, 1, ⟨#[]⟩⟩ : GV))], .inr ⟨_, rfl, hm2⟩, by simp, fun _ => rfl⟩ ((HL.out.on hb).on hb2)
  unfold TermErr at HE
  rw [al13_eval] at HE
  simp only [World.size_alloc] at HE
  have HEv : Hid (Calls Tryz.prog 92 #[.agg #[.int .i64 1, .string ⟨#[]⟩, .int .i64 0, .int .i64 0, .string ⟨#[]⟩, .slice P pn pc], .map (some (w1.heap.size + 1))] w2 (fun e w' => e = .returned (.tuple #[.agg #[.int .i64 1, .int .i64 7, .string ⟨#[]⟩], .nilIface]) ∧ Below w2.heap.size w2 w')) := HE
  have HB := Lib.hid (hb.trans (hb2.mono hb.size))
  obtain ⟨g4, g5, g6, g7, g8, g9⟩ : w2.cell? ⟨b, o + 4, none⟩ = some (.int .i64 1) ∧ w2.cell? ⟨b, o + 5, none⟩ = some (.string ⟨#[]⟩) ∧ w2.cell? ⟨b, o + 6, none⟩ = some (.int .i64 0) ∧ w2.cell? ⟨b, o + 7, none⟩ = some (.int .i64 0) ∧ w2.cell? ⟨b, o + 8, none⟩ = some (.string ⟨#[]⟩) ∧ w2.cell? ⟨b, o + 9, none⟩ = some (.slice P pn pc) :=
    ⟨below_cell hb2 h4, below_cell hb2 h5, below_cell hb2 h6, below_cell hb2 h7, below_cell hb2 h8, below_cell hb2 h9⟩
  clear hb hm2 hgr hb2 HE hk HC hbA
  simp only [World.size_alloc] at hup
  go_wp2_with fail
  refine HEv.out.mono ?_
  rintro e w3 ⟨rfl, hb3⟩
  have HB3 := Lib.hid (below_next HB.out hb3)
  clear hb3
  go_wp2_with fail
  go_ret
  exact ⟨rfl, belowA HB3.out _⟩
end Go.Proofs.YtgabkmibfhmkmaaGreatDoor

namespace Go.Proofs.YtgabkmibfhmkmaaGreatDoor
open Go.RowKit
def BoolPost (b : Bool → Prop) (w : World) (e : Ending) (w' : World) : Prop := ∃ r, e = .returned (.bool r) ∧ b r ∧ Below w.heap.size w w'
theorem BoolPost.mk {b : Bool → Prop} {w w' : World} (r : Bool) (hb : b r) (hw : Below w.heap.size w w') : BoolPost b w (.returned (.bool r)) w' := ⟨r, rfl, hb, hw⟩
set_option maxRecDepth 100000 in
set_option maxHeartbeats 400000 in
theorem long13_any (A : Option Addr) (n c : Nat) (l : List GTold) (w : World) (hl : SliceIs Enc.told w w.heap.size A n c l) :
    Calls Tryz.prog 17 #[.slice A n c] w (BoolPost (fun r => r = false → n ≤ 31) w) := by
  have hn := hl.bound
  go_enter Tryz.func17, Tryz.ntmps17
  go_wp2
  go_loopw [3, 4, 5, 8] (fun t _ _ i wr => ∃ k m : Nat, k ≤ n ∧ i = .int .i64 k ∧ t = .int .i64 m ∧ m ≤ 1500 ∧ k ≤ 31 ∧ Below w.heap.size w wr) (fun _ _ _ i _ => n - (intOf i).toNat)
  case atStart => exact ⟨0, 0, by omega, rfl, rfl, by omega, by omega, Below.refl _ _⟩
  case round =>
    obtain ⟨k, m, hk, rfl, rfl, hm, hk31, hbw⟩ := hrel
    by_cases hlt : k < n
    · obtain ⟨b, o, s, rfl, hb, hx, hc, hc1, hc2, hc3, hs, ⟨_, _, hs2⟩⟩ := (hl.below hbw).told_at hlt
      have hs2 := reachN_le hs2
      clear hl
      by_cases h1 : 30 < k
      · go_wp2
        go_ret
        exact BoolPost.mk _ (by simp) (hbw.alloc hbw.size _)
      · by_cases h2 : 1500 < m + (s.x.size + s.v.s.size)
        · go_wp2
          go_ret
          exact BoolPost.mk _ (by simp) (hbw.alloc hbw.size _)
        · go_wp2
          go_roundw
          case rel => exact ⟨k + 1, m + (s.x.size + s.v.s.size), by omega, by go_num, by go_num, by omega, by omega, (hbw.alloc hbw.size _)⟩
          case measure => simp [intOf]; omega
    · go_wp2
      go_ret
      exact BoolPost.mk _ (fun _ => by omega) hbw
end Go.Proofs.YtgabkmibfhmkmaaGreatDoor

namespace Go.Proofs.YtgabkmibfhmkmaaGreatDoor
open Go.RowKit
theorem fitsZ : fits 0 := by unfold fits; decide
/-- a rule whose body is one literal -/
def ruleL (l : GLit) : GRule := ⟨⟨⟨#[]⟩, []⟩, 0, 0, [l], 0⟩
theorem one_lit {d : Nat} {W : World} {b : Nat} {T : TypeId} {x : GLit} {a p q : Hd} (hrow : W.heap[b]? = some (.cells (litC x a p q).toArray T (0, 0))) (hx : LitAt d W W.heap.size x a p q) :
    SliceIs (Enc.lit d) W W.heap.size (some ⟨b, 0, none⟩) 1 1 [x] := by
  refine ⟨rfl, by omega, by simp [maxLen], by simp [reachN], .inr ⟨b, 0, rfl, (Array.getElem?_eq_some_iff.1 hrow).1, fun i e hi => ?_⟩⟩
  match i, hi with
  | 0, hi =>
    simp at hi; subst hi
    refine ⟨litC x a p q, ⟨a, p, q, rfl, hx⟩, fun j v hj => ?_⟩
    show W.cell? ⟨b, 0 + 0 * 17 + j, none⟩ = some v
    rw [cell_of_row _ _ _ _ _ _ hrow]
    simp only [Nat.zero_mul, Nat.zero_add, List.getElem?_toArray]
    exact hj
  | i + 1, hi => simp at hi
theorem ruleL_at {d : Nat} {W : World} {b : Nat} {T : TypeId} {x : GLit} {a p q : Hd} (hrow : W.heap[b]? = some (.cells (litC x a p q).toArray T (0, 0))) (hx : LitAt d W W.heap.size x a p q) : RuleAt d W W.heap.size (ruleL x) ⟨none, 0, 0⟩ ⟨some ⟨b, 0, none⟩, 1, 1⟩ :=
  ⟨Nat.zero_le _, SliceIs.nil, fitsZ, fitsZ, one_lit hrow hx, fitsZ⟩
end Go.Proofs.YtgabkmibfhmkmaaGreatDoor

namespace Go.Proofs.YtgabkmibfhmkmaaGreatDoor
open Go.RowKit
def solveT (f : ByteArray → Option GV) (x : GLit) : Option (ByteArray × GV) × Bool × Int := if cmpB3 x = true then solveS f x.op x.l x.r else (none, false, 2)
theorem unset_alone {f : ByteArray → Option GV} {e : GExp} (h : aloneS f e = true) : unsetS f e = e.t.x ∧ e.t.x.toList.isEmpty = false ∧ (e.t.x.toList == ([] : List UInt8)) = false := by
  obtain ⟨-, h2, -⟩ := aloneS_val h
  have h3 : ¬ e.t.x.toList = [] := fun h => h2 (str_empty.1 h)
  exact ⟨by simp [unsetS, h], by simpa using h3, by simpa using h3⟩
theorem unset_none {f : ByteArray → Option GV} {e : GExp} (h : aloneS f e = false) : unsetS f e = ⟨#[]⟩ := by simp [unsetS, h]
end Go.Proofs.YtgabkmibfhmkmaaGreatDoor

namespace Go.Proofs.YtgabkmibfhmkmaaGreatDoor
open Go.RowKit
set_option maxRecDepth 100000 in
set_option maxHeartbeats 8000000 in
theorem asolveF_any (d : Nat) (x : GLit) (A : Option Addr) (n c : Nat) (P : Option Addr) (pn pc : Nat) (Q : Option Addr) (qn qc : Nat) (m : Value) (f : ByteArray → Option GV) (w : World) (h : LitAt d w w.heap.size x ⟨A, n, c⟩ ⟨P, pn, pc⟩ ⟨Q, qn, qc⟩) (hm : EnvIs w m f) (hL : LexW w) (hc : cmpB3 x = false) : Calls Tryz.prog 21 #[.agg #[.int .i64 x.k, .string x.atom.rel, .slice A n c, .int .i64 x.op, .int .i64 x.l.op, .string x.l.t.x, .int .i64 x.l.t.v.k, .int .i64 x.l.t.v.n, .string x.l.t.v.s, .slice P pn pc, .int .i64 x.r.op, .string x.r.t.x, .int .i64 x.r.t.v.k, .int .i64 x.r.t.v.n, .string x.r.t.v.s, .slice Q qn qc, .int .i64 x.pos], m] w (SolveP f (solveT f x) w) := by
  have mixed : Tryz.prog.follows .mixedOrders = true := by kernel_rfl
  have hba : Below w.heap.size w (w.alloc (.cells #[.int .i64 x.k, .string x.atom.rel, .slice A n c, .int .i64 x.op, .int .i64 x.l.op, .string x.l.t.x, .int .i64 x.l.t.v.k, .int .i64 x.l.t.v.n, .string x.l.t.v.s, .slice P pn pc, .int .i64 x.r.op, .string x.r.t.x, .int .i64 x.r.t.v.k, .int .i64 x.r.t.v.n, .string x.r.t.v.s, .slice Q qn qc, .int .i64 x.pos] 35)) := belowA (Below.refl _ _) _
  have hrb : (w.alloc (.cells #[.int .i64 x.k, .string x.atom.rel, .slice A n c, .int .i64 x.op, .int .i64 x.l.op, .string x.l.t.x, .int .i64 x.l.t.v.k, .int .i64 x.l.t.v.n, .string x.l.t.v.s, .slice P pn pc, .int .i64 x.r.op, .string x.r.t.x, .int .i64 x.r.t.v.k, .int .i64 x.r.t.v.n, .string x.r.t.v.s, .slice Q qn qc, .int .i64 x.pos] 35)).heap[w.heap.size]? = some (.cells #[.int .i64 x.k, .string x.atom.rel, .slice A n c, .int .i64 x.op, .int .i64 x.l.op, .string x.l.t.x, .int .i64 x.l.t.v.k, .int .i64 x.l.t.v.n, .string x.l.t.v.s, .slice P pn pc, .int .i64 x.r.op, .string x.r.t.x, .int .i64 x.r.t.v.k, .int .i64 x.r.t.v.n, .string x.r.t.v.s, .slice Q qn qc, .int .i64 x.pos] 35 (0, 0)) := heapNew rfl
  have HC := Lib.hid (compares_any d x A n c P pn pc Q qn qc _ (h.keep hba) (hL.on hba))
  have HU1 := Lib.hid (fun (W : World) (hb : Below w.heap.size w W) => unset_any x.l P pn pc m f W (hm.below hb))
  have HU2 := Lib.hid (fun (W : World) (hb : Below w.heap.size w W) => unset_any x.r Q qn qc m f W (hm.below hb))
  have HS1 := Lib.hid (fun (hr : rightE 20 x.r = true) (W : World) (hb : Below w.heap.size w W) => aset_any m f x.l.t.x x.r Q qn qc d W hr (h.keep hb).rk (hm.below hb))
  have HS2 := Lib.hid (fun (hr : rightE 20 x.l = true) (W : World) (hb : Below w.heap.size w W) => aset_any m f x.r.t.x x.l P pn pc d W hr (h.keep hb).lk (hm.below hb))
  have HT := Lib.hid (fun (W : World) (hb : Below w.heap.size w W) => atest_any d x A n c P pn pc Q qn qc m f W (h.keep hb) (hm.below hb) (hL.on hb))
  have HM := Lib.hid (fun (W : World) (hb : Below w.heap.size w W) => copy_any m f W (hm.below hb))
  have HB := Lib.hid hba
  have HF : Hid (∀ W, Below (w.alloc (.cells #[.int .i64 x.k, .string x.atom.rel, .slice A n c, .int .i64 x.op, .int .i64 x.l.op, .string x.l.t.x, .int .i64 x.l.t.v.k, .int .i64 x.l.t.v.n, .string x.l.t.v.s, .slice P pn pc, .int .i64 x.r.op, .string x.r.t.x, .int .i64 x.r.t.v.k, .int .i64 x.r.t.v.n, .string x.r.t.v.s, .slice Q qn qc, .int .i64 x.pos] 35)).heap.size (w.alloc (.cells #[.int .i64 x.k, .string x.atom.rel, .slice A n c, .int .i64 x.op, .int .i64 x.l.op, .string x.l.t.x, .int .i64 x.l.t.v.k, .int .i64 x.l.t.v.n, .string x.l.t.v.s, .slice P pn pc, .int .i64 x.r.op, .string x.r.t.x, .int .i64 x.r.t.v.k, .int .i64 x.r.t.v.n, .string x.r.t.v.s, .slice Q qn qc, .int .i64 x.pos] 35)) W → W.heap[w.heap.size]? = some (.cells #[.int .i64 x.k, .string x.atom.rel, .slice A n c, .int .i64 x.op, .int .i64 x.l.op, .string x.l.t.x, .int .i64 x.l.t.v.k, .int .i64 x.l.t.v.n, .string x.l.t.v.s, .slice P pn pc, .int .i64 x.r.op, .string x.r.t.x, .int .i64 x.r.t.v.k, .int .i64 x.r.t.v.n, .string x.r.t.v.s, .slice Q qn qc, .int .i64 x.pos] 35 (0, 0))) := fun W hb => (hb.block _ (Array.getElem?_eq_some_iff.1 hrb).1).trans hrb
  obtain ⟨f0, f1, f2, f3, f4, f5, f6, f7, f8, f9, f10, f11, f12, f13, f14, f15, f16⟩ := facts17 hrb
  obtain ⟨R, HR⟩ : ∃ R, Hid (R = solveT f x) := ⟨_, rfl⟩
  rw [← HR.out]
  clear h hm hL hba hrb
  generalize hwb : (w.alloc (.cells #[.int .i64 x.k, .string x.atom.rel, .slice A n c, .int .i64 x.op, .int .i64 x.l.op, .string x.l.t.x, .int .i64 x.l.t.v.k, .int .i64 x.l.t.v.n, .string x.l.t.v.s, .slice P pn pc, .int .i64 x.r.op, .string x.r.t.x, .int .i64 x.r.t.v.k, .int .i64 x.r.t.v.n, .string x.r.t.v.s, .slice Q qn qc, .int .i64 x.pos] 35)) = wb at *
  have HE : Hid (R = (none, false, 2)) := by show _ = _; rw [HR.out]; unfold solveT; rw [hc]; rfl
  rw [hc] at HC
  clear hc HR HU1 HU2 HS1 HS2 HT HM
  go_enter Tryz.func21, Tryz.ntmps21
  go_wp2_with fail
  try simp only [hwb]
  clear hwb
  go_wp2_with fail
  refine HC.out.mono ?_
  rintro e w1 ⟨rfl, hb1⟩
  have HB1 := Lib.hid (below_next HB.out hb1)
  clear hb1
  go_wp2_with fail
  exact bodyPost_ret (v := .tuple #[.map none, .bool false, .iface 66 (.int .i64 2)]) (by simp [results, Tryz.results21, go_sem]) rfl ⟨HB1.out, .inr (by rw [HE.out]; exact ⟨rfl, rfl⟩)⟩
end Go.Proofs.YtgabkmibfhmkmaaGreatDoor
