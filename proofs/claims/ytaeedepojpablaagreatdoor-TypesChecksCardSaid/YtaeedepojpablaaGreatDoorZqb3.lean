/- My own texts TVar, TRight, Drawn, ExpTerms, TSmall, PushR, CpExp, TSize, as far as this claim needs them. -/
import Derived.Test.YtaeedepojpablaaGreatDoorZq10
import Derived.Test.YtaeedepojpablaaGreatDoorZqb2
set_option linter.unusedVariables false
set_option linter.unusedSimpArgs false
set_option maxRecDepth 1000000
set_option maxHeartbeats 16000000
namespace Go.Proofs.YtaeedepojpablaaGreatDoor
open Go.RowKit
theorem refSingle_any (s : ByteArray) (k : Int) (w : World) : Calls Tryz.prog 69 #[.string s, .int .i64 k] w (RetBool (singleB k s) w) := by
 have HL := hZ9 (refAll_any s w); obtain ⟨B, HB⟩ : ∃ B, Hid (B = singleB k s) := ⟨_, rfl⟩
 rw [← HB.out]; go_enter Tryz.func69, Tryz.ntmps69
 go_wp2_with fail
 refine HL.out.mono ?_; rintro e w1 ⟨hb, ⟨h4, rfl⟩ | ⟨h4, ⟨p, hp, rfl⟩ | ⟨hn, A, c, rfl, hA⟩⟩⟩
 ·have HE : Hid (B = false) := by show _ = _; rw [HB.out]; exact single_long h4
  have Hb := hZ9 hb; clear h4 hb HB; go_wp2_with fail
  go_ret; exact ⟨by rw [HE.out]; rfl, Hb.out⟩
 ·have HE : Hid (B = false) := by show _ = _; rw [HB.out]; exact single_bad hp
  have Hb := hZ9 hb; clear h4 hb HB hp; go_wp2_with fail
  go_ret; exact ⟨by rw [HE.out]; rfl, Hb.out⟩
 ·by_cases h1 : (lexS s.toList).1.length = 1
  ·obtain ⟨q, hq⟩ := one_of h1; have HE : Hid (B = (decide (q.k = k) && decide (q.t = s.toList))) := by show _ = _; rw [HB.out]; exact single_one h4 hq hn
   rw [hq] at hA; obtain ⟨b, o, x, rfl, hbB, hx, x0, x1, x2, f0, f1, f2⟩ := hA.tok_at (i := 0) (by simp); obtain rfl : x = q := by have := hx.out; simp at this; exact this.symm
   have Hb := hZ9 hb; rw [h1]; simp only [Nat.zero_mul, Nat.add_zero] at x0 x1 x2; have e1 : (bytes x.t).toList = x.t := toList_mk _; clear h4 hb HB h1 hq hn hA hx f0 f1 f2; by_cases hk : x.k = k
   ·have k0 : (x.k == k) = true := by simp [hk]
    by_cases ht : x.t = s.toList
    ·have t0 : (x.t == s.toList) = true := by simp [ht]
     have HE3 : Hid (B = true) := by show _ = _; rw [HE.out]; simp [hk, ht]
     clear hk ht HE; go_wp2_with fail
     go_ret; exact ⟨by rw [HE3.out]; rfl, Hb.out⟩
    ·have t0 : (x.t == s.toList) = false := by simp [ht]
     have HE3 : Hid (B = false) := by show _ = _; rw [HE.out]; simp [ht]
     clear hk ht HE; go_wp2_with fail
     go_ret; exact ⟨by rw [HE3.out]; rfl, Hb.out⟩
   ·have k0 : (x.k == k) = false := by simp [hk]
    have HE3 : Hid (B = false) := by show _ = _; rw [HE.out]; simp [hk]
    clear hk HE; go_wp2_with fail
    go_ret; exact ⟨by rw [HE3.out]; rfl, Hb.out⟩
  ·have HE : Hid (B = false) := by show _ = _; rw [HB.out]; exact single_many h1
   have Hb := hZ9 hb; have q0 : ((((lexS s.toList).1.length : Nat) : Int) == 1) = false := by simp; omega
   clear h4 hb HB h1 hn hA; go_wp2_with fail
   go_ret; exact ⟨by rw [HE.out]; rfl, Hb.out⟩
theorem refVariable_any (s : ByteArray) (w : World) : Calls Tryz.prog 142 #[.string s] w (RetBool (singleB 3 s) w) := by
 have HL := hZ9 (refSingle_any s 3 w); go_enter Tryz.func142, Tryz.ntmps142
 go_wp2_with fail
 refine HL.out.mono ?_; rintro e w1 ⟨rfl, hb⟩; go_wp2_with fail
 go_ret; exact ⟨rfl, hb⟩
theorem refNamed_any (s : ByteArray) (w : World) : Calls Tryz.prog 38 #[.string s] w (RetBool (singleB 2 s) w) := by
 have HL := hZ9 (refSingle_any s 2 w); go_enter Tryz.func38, Tryz.ntmps38
 go_wp2_with fail
 refine HL.out.mono ?_; rintro e w1 ⟨rfl, hb⟩; go_wp2_with fail
 go_ret; exact ⟨rfl, hb⟩
end Go.Proofs.YtaeedepojpablaaGreatDoor

namespace Go.Proofs.YtaeedepojpablaaGreatDoor
open Go.RowKit
theorem refTright_any (t : GTold) (hv : t.v.ok) (w : World) : Calls Tryz.prog 106 #[toldV t] w (RetBool (rightT t) w) := by
 obtain ⟨B, HB⟩ : ∃ B, Hid (B = rightT t) := ⟨_, rfl⟩
 rw [← HB.out]; have hrb : (w.alloc (.cells #[.string t.x, .int .i64 t.v.k, .int .i64 t.v.n, .string t.v.s] 102)).heap[w.heap.size]? = some (.cells #[.string t.x, .int .i64 t.v.k, .int .i64 t.v.n, .string t.v.s] 102 (0, 0)) := heapNew rfl; have hba : Below w.heap.size w (w.alloc (.cells #[.string t.x, .int .i64 t.v.k, .int .i64 t.v.n, .string t.v.s] 102)) := belowA (Below.refl _ _) _; have HR := hZ9 (fun W => refRight_any t.v hv W); have HV := hZ9 (fun W => refVariable_any t.x W); generalize hwb : w.alloc (.cells #[.string t.x, .int .i64 t.v.k, .int .i64 t.v.n, .string t.v.s] 102) = wb at *; obtain ⟨b0, b1, b2, b3⟩ := facts4 hrb; have Hlt := hZ9 (glt hrb); by_cases h0 : t.x.size = 0
 ·have e0 : ((t.x.size : Int) == 0) = true := by simp [h0]
  have HE : Hid (B = rightB t.v) := by show _ = _; rw [HB.out]; simp [rightT, h0]
  clear h0 HB; go_enter Tryz.func106, Tryz.ntmps106
  go_wp2_with fail
  try simp only [hwb]
  go_wp2_with fail
  refine (HR.out _).mono ?_; rintro e w1 ⟨rfl, hb⟩; have Hb := hZ9 hb; clear hb; go_wp2_with fail
  go_ret; exact ⟨by rw [HE.out]; rfl, below_next hba Hb.out⟩
 ·have e0 : ((t.x.size : Int) == 0) = false := by rw [beq_eq_false_iff_ne]; omega
  have HE : Hid (B = (singleB 3 t.x && decide (t.v = gv0))) := by show _ = _; rw [HB.out]; simp [rightT, h0]
  clear h0 HB; go_enter Tryz.func106, Tryz.ntmps106
  go_wp2_with fail
  try simp only [hwb]
  go_wp2_with fail
  refine (HV.out _).mono ?_; rintro e w1 ⟨rfl, hb⟩; have Hb := hZ9 hb; obtain ⟨c0, c1, c2, c3⟩ := facts4 ((hb.block _ Hlt.out).trans hrb); clear hb; cases hs : singleB 3 t.x with
  | false =>
    have HE2 : Hid (B = false) := by show _ = _; rw [HE.out, hs]; rfl
    clear HE hs; go_wp2_with fail
    go_ret; exact ⟨by rw [HE2.out]; rfl, below_next hba Hb.out⟩
  | true =>
    have HE2 : Hid (B = decide (t.v = gv0)) := by show _ = _; rw [HE.out, hs]; rfl
    clear HE hs; go_wp2_with fail
    all_goals
     go_ret; refine ⟨?_, below_next hba Hb.out⟩; have hE := HE2.out; clear HE2 Hb HR HV c0 c1 c2 c3 b0 b1 b2 b3 hwb hrb hba Hlt; simp_all [gv_zero]
end Go.Proofs.YtaeedepojpablaaGreatDoor

namespace Go.Proofs.YtaeedepojpablaaGreatDoor
open Go.RowKit
section
variable {P : Program} {ops : Array Oper} {Q : Exit → Act → World → Prop}
theorem op_alloc {P : Program} {o : Oper} {a : Act} {w : World} {K : Act → World → Prop} {Q : Exit → Act → World → Prop} (ty : TypeId) (ho : o.op = .alloc ty) (zs : Array Value) (n : Nat) (hi : (P.info? ty).map (fun i => (i.zero, i.size)) = some (some (.agg zs), n))
 (h : K (a.put o.dst (.pointer (some ⟨w.heap.size, 0, none⟩))) (w.alloc (.cells zs ty))) : o.wp P a w K Q := by
 obtain ⟨i, hi1, hi2⟩ := Option.map_eq_some_iff.1 hi; injection hi2 with h1 h2
 have hzv : (zeroValue ty).run P w = .ok (.agg zs) w := by simp [zeroValue, typeInfo, hi1, h1]
 unfold Oper.wp execOp; simp [ho, go_sem, hzv]
 exact h
end
end Go.Proofs.YtaeedepojpablaaGreatDoor

namespace Go.Proofs.YtaeedepojpablaaGreatDoor
open Go.RowKit
def KeepsT (T : TypeId) (w w' : World) : Prop := ∀ (b : Nat) (cs : Array Value) (t : TypeId) (fr : Nat × Nat), w.heap[b]? = some (Obj.cells cs t fr) → t ≠ T → w'.heap[b]? = some (Obj.cells cs t fr)
theorem KeepsT.refl (T : TypeId) (w : World) : KeepsT T w w := fun _ _ _ _ h _ => h
theorem KeepsT.trans {T : TypeId} {w w1 w2 : World} (h : KeepsT T w w1) (k : KeepsT T w1 w2) : KeepsT T w w2 := fun b cs t fr hb ht => k b cs t fr (h b cs t fr hb ht) ht
theorem KeepsT.of_below {T : TypeId} {w w' : World} (h : Below w.heap.size w w') : KeepsT T w w' := fun b _ _ _ hb _ => (h.block b (glt hb)).trans hb
theorem term5_info : (Tryz.prog.info? 102).map (fun i => (i.zero, i.size, i.bytes)) = some (some (.agg #[.string ⟨#[]⟩, .int .i64 0, .int .i64 0, .string ⟨#[]⟩]), 4, 48) := by kernel_rfl
theorem term5_push {W : World} {base : Nat} {A : Option Addr} {c k : Nat} {xs : List GTold} (hown : W.ownsRow base 102 4 (.slice A k c) k (xs.flatMap GTold.cells)) (q : GTold) (hn : k + 1 ≤ 10000000) (hb : base ≤ W.heap.size) :
 ∃ A' c' w', (∀ ty, (Builtin.append_ #[60, 60] ty #[.slice A k c, .slice (some ⟨W.heap.size, 0, none⟩) 1 1]).run Tryz.prog (W.alloc (.cells #[.string q.x, .int .i64 q.v.k, .int .i64 q.v.n, .string q.v.s] 102)) = .ok (.slice A' (k + 1) c') w') ∧
   w'.ownsRow base 102 4 (.slice A' (k + 1) c') (k + 1) ((xs ++ [q]).flatMap GTold.cells) ∧ Below base W w' ∧ KeepsT 102 W w' := by
 have ho : (W.alloc (.cells #[.string q.x, .int .i64 q.v.k, .int .i64 q.v.n, .string q.v.s] 102)).ownsRow base 102 4 (.slice A k c) k (xs.flatMap GTold.cells) := own_below hown (belowA (Below.refl _ _) _)
 obtain ⟨v', w', h1, h2, h3, h4⟩ := run_push_at (P := Tryz.prog) (ty := 60) (W.alloc (.cells #[.string q.x, .int .i64 q.v.k, .int .i64 q.v.n, .string q.v.s] 102)) (base := base) Tryz.underlying60 term5_info rfl (by decide) ho W.heap.size (GTold.cells q) rfl (heapNew rfl) (by intro u hu; simp [GTold.cells] at hu; rcases hu with rfl | rfl | rfl | rfl <;> rfl)
  (by simp [maxLen]; omega) (by omega) (by simp; omega)
 obtain ⟨A', c', rfl⟩ := own_form h2; refine ⟨A', c', w', fun _ => h1, ?_, ?_, ?_⟩
 ·rw [List.flatMap_append]; simpa using h2
 ·exact ((Below.refl base W).alloc hb _).trans h4
 ·have k1 : KeepsT 102 W (W.alloc (.cells #[.string q.x, .int .i64 q.v.k, .int .i64 q.v.n, .string q.v.s] 102)) := KeepsT.of_below (belowA (Below.refl _ _) _); refine k1.trans ?_; intro b cs t fr hbb ht; refine ((grown_out h3).block b (glt hbb) (fun hbo => ?_)).trans hbb; obtain ⟨cur, hc⟩ := own_type ho (b := b) (by simpa using hbo); rw [hc] at hbb; injection hbb with hbb; injection hbb with _ h5 _; exact ht h5.symm
end Go.Proofs.YtaeedepojpablaaGreatDoor

namespace Go.Proofs.YtaeedepojpablaaGreatDoor
open Go.RowKit
mutual
/-- no node has many kids -/
def narE : GExp → Prop
 | .mk _ _ ks => ks.length ≤ 1500 ∧ narL ks
def narL : List GExp → Prop
 | [] => True
 | k :: ks => narE k ∧ narL ks
end
def Nar (e : GExp) : Prop := narE e
theorem narL_mem : ∀ {ks : List GExp}, narL ks → ∀ k ∈ ks, Nar k
 | [], _, k, hk => by cases hk
 | q :: ks, h, k, hk => by
   rw [narL] at h; rcases List.mem_cons.1 hk with rfl | hk
   ·exact h.1
   ·exact narL_mem h.2 k hk
theorem Nar.len {e : GExp} (h : Nar e) : e.kids.length ≤ 1500 := by
 cases e with
 | mk o t ks => unfold Nar at h; rw [narE] at h; exact h.1
theorem Nar.kids {e : GExp} (h : Nar e) : ∀ k ∈ e.kids, Nar k := by
 cases e with
 | mk o t ks => unfold Nar at h; rw [narE] at h; exact narL_mem h.2
end Go.Proofs.YtaeedepojpablaaGreatDoor

namespace Go.Proofs.YtaeedepojpablaaGreatDoor
open Go.RowKit
section
variable {P : Program}
theorem below_nextR {w W w1 : World} (h : Below w.heap.size w W) (h' : Below W.heap.size W w1) : Below w.heap.size w w1 := h.trans (h'.mono h.size)
abbrev pushOps (T sT xT f tb tx fld d0 d1 d2 d3 d4 d5 d6 : Nat) (y0 y1 y2 y3 y4 y5 y6 y7 : TypeId) (p : String) : Array Oper := #[
 { dst := some d0, op := .fieldAddr T (.tmp tb) fld, type := y0, pos := p, after := #[], guard := none },
 { dst := some d1, op := .load sT (.tmp d0), type := y1, pos := p, after := #[⟨0, .data⟩], guard := none },
 { dst := some d2, op := .load xT (.tmp tx), type := y2, pos := p, after := #[], guard := none },
 { dst := some d3, op := .call { callee := .value (.func f), args := #[.tmp d2], argTypes := #[xT] }, type := y3, pos := p, after := #[⟨2, .data⟩], guard := none },
 { dst := some d4, op := .buildSlice sT 1 #[(0, .tmp d3)], type := y4, pos := p, after := #[⟨3, .data⟩], guard := none },
 { dst := some d5, op := .call { callee := .builtin .append, args := #[.tmp d1, .tmp d4], argTypes := #[sT, sT] }, type := y5, pos := p, after := #[⟨1, .data⟩, ⟨4, .data⟩, ⟨3, .chain⟩], guard := none },
 { dst := some d6, op := .fieldAddr T (.tmp tb) fld, type := y6, pos := p, after := #[⟨0, .phase⟩, ⟨1, .phase⟩, ⟨2, .phase⟩, ⟨3, .phase⟩, ⟨4, .phase⟩, ⟨5, .phase⟩], guard := none },
 { dst := none, op := .store sT (.tmp d6) (.tmp d5), type := y7, pos := p, after := #[⟨6, .data⟩, ⟨5, .data⟩, ⟨5, .chain⟩, ⟨0, .phase⟩, ⟨1, .phase⟩, ⟨2, .phase⟩, ⟨3, .phase⟩, ⟨4, .phase⟩, ⟨5, .phase⟩], guard := none }]
def pushF (base eT size k g q : Nat) (S : List Nat) (A : Option Addr) (c : Nat) (xs ecs : List Value) (Res : List Value → World → Prop) (Res2 : List Nat → List Value → World → Prop) (w0 : World) (i : Nat) (v : Value) (W : World) : Prop := match i with
 | 0 => v = .pointer (some ⟨g, q, none⟩)
 | 1 => v = .slice A k c
 | 2 => v = .agg ecs.toArray
 | 3 => ∃ vcs : List Value, v = .agg vcs.toArray ∧ vcs.length = size ∧ (∀ u ∈ vcs, u.oneCell' = true) ∧ Res vcs W ∧ w0.heap.size ≤ W.heap.size
 | 4 => ∃ (vcs : List Value) (b : Nat), v = .slice (some ⟨b, 0, none⟩) 1 1 ∧ vcs.length = size ∧ (∀ u ∈ vcs, u.oneCell' = true) ∧ Res vcs W ∧ W.heap[b]? = some (.cells vcs.toArray eT (0, 0)) ∧ w0.heap.size ≤ b
 | 5 => ∃ (vcs : List Value) (A' : Option Addr) (c' : Nat), v = .slice A' (k + 1) c' ∧ vcs.length = size ∧ Res2 (Value.slice A' (k + 1) c').ownBlock.toList vcs W ∧ W.ownsRow base eT size (.slice A' (k + 1) c') (k + 1) (xs ++ vcs) ∧ (∀ b, (Value.slice A' (k + 1) c').ownBlock = some b → b ∈ S ∨ w0.heap.size ≤ b)
 | 6 => v = .pointer (some ⟨g, q, none⟩)
 | _ => True
structure PushG (T xT g x : Nat) (S : List Nat) (cs : Array Value) (ecs : List Value) (w0 W : World) : Prop where
 g : W.heap[g]? = some (.cells cs T (0, 0))
 x : W.heap[x]? = some (.cells ecs.toArray xT (0, 0))
 out : Out S w0 W
theorem PushG.keep {T xT g x : Nat} {S : List Nat} {cs : Array Value} {ecs : List Value} {w0 W W' : World} (h : PushG T xT g x S cs ecs w0 W) (hb : Below W.heap.size W W') : PushG T xT g x S cs ecs w0 W' :=
 ⟨(hb.block _ (glt h.g)).trans h.g, (hb.block _ (glt h.x)).trans h.x, h.out.trans (Out.of_below hb []) (fun _ h _ => by cases h)⟩
theorem pushF_keep {base eT size k g q : Nat} {S : List Nat} {A : Option Addr} {c : Nat} {xs ecs : List Value} {Res : List Value → World → Prop} {Res2 : List Nat → List Value → World → Prop} {w0 : World} (hRes : ∀ vcs W W', Res vcs W → Below W.heap.size W W' → Res vcs W') (hResB : ∀ S vcs W W', Res2 S vcs W → Below W.heap.size W W' → Res2 S vcs W') {i : Nat} {v : Value} {W W' : World}
 (h : pushF base eT size k g q S A c xs ecs Res Res2 w0 i v W) (hb : Below W.heap.size W W') : pushF base eT size k g q S A c xs ecs Res Res2 w0 i v W' := by
 match i, h with
 | 0, h => exact h
 | 1, h => exact h
 | 2, h => exact h
 | 3, ⟨vcs, h1, h2, h3, h4, h5⟩ => exact ⟨vcs, h1, h2, h3, hRes _ _ _ h4 hb, Nat.le_trans h5 hb.size⟩
 | 4, ⟨vcs, b, h1, h2, h3, h4, h5, h6⟩ => exact ⟨vcs, b, h1, h2, h3, hRes _ _ _ h4 hb, (hb.block _ (glt h5)).trans h5, h6⟩
 | 5, ⟨vcs, A', c', h1, h2, h3, h4, h5⟩ => exact ⟨vcs, A', c', h1, h2, hResB _ _ _ _ h3 hb, own_below h4 hb, h5⟩
 | 6, h => exact h
 | _ + 7, _ => exact trivial
theorem push_region {id : Nat} {a : Act} {w : World} {Q : Exit → Act → World → Prop} {T sT xT f tb tx fld d0 d1 d2 d3 d4 d5 d6 : Nat} {y0 y1 y2 y3 y4 y5 y6 y7 : TypeId} {p : String} (n : Nat) (hm : P.follows .mixedOrders = true)
 (hn : a.tmps.size = n) (hd : a.defers = []) (hok : drawnOk (pushOps T sT xT f tb tx fld d0 d1 d2 d3 d4 d5 d6 y0 y1 y2 y3 y4 y5 y6 y7 p) 7 n = true)
 (htb : ((pushOps T sT xT f tb tx fld d0 d1 d2 d3 d4 d5 d6 y0 y1 y2 y3 y4 y5 y6 y7 p).toList.take 7).all (fun o => !decide (o.dst = some tb)) = true) (htx : ((pushOps T sT xT f tb tx fld d0 d1 d2 d3 d4 d5 d6 y0 y1 y2 y3 y4 y5 y6 y7 p).toList.take 7).all (fun o => !decide (o.dst = some tx)) = true)
 (g x q base eT size bytes k : Nat) (z : Value) (A : Option Addr) (c : Nat) (xs ecs : List Value) (cs : Array Value) (Res : List Value → World → Prop) (Res2 : List Nat → List Value → World → Prop) (ds : TypeDesc)
 (hb : a.tmps[tb]? = some (.pointer (some ⟨g, 0, none⟩))) (hx : a.tmps[tx]? = some (.pointer (some ⟨x, 0, none⟩))) (hg0 : w.heap[g]? = some (.cells cs T (0, 0))) (hx0 : w.heap[x]? = some (.cells ecs.toArray xT (0, 0)))
 (hcq : cs[q]? = some (.slice A k c)) (hfld : ∀ w : World, (Instr.fieldAt T (.pointer (some ⟨g, 0, none⟩)) fld).run P w = .ok (.pointer (some ⟨g, q, none⟩)) w)
 (huS : P.underlying sT = some (.slice eT)) (hiS : (P.info? sT).map (·.size) = some 1) (huX : P.underlying xT = some ds) (hdX : ds.isRow = true) (hiX : (P.info? xT).map (·.size) = some ecs.length)
 (hi : (P.info? eT).map (fun i => (i.zero, i.size, i.bytes)) = some (some z, size, bytes)) (hzs : z.cells.size = size) (hsz : 0 < size) (hs24 : size ≤ 2 ^ 24)
 (hown : w.ownsRow base eT size (.slice A k c) k xs) (hT : g ∉ (Value.slice A k c).ownBlock.toList) (hX : x ∉ (Value.slice A k c).ownBlock.toList) (h63 : k + 1 ≤ maxLen) (hbytes : (k + 1) * bytes ≤ 140737488355328) (hbase : base ≤ w.heap.size)
 (fn : Func) (hfn : P.funcs[f]? = some fn) (hbd : fn.body.isSome = true) (hng : (fn.name == "runtime.NumGoroutine") = false)
 (hRes : ∀ vcs W W', Res vcs W → Below W.heap.size W W' → Res vcs W') (hResB : ∀ S vcs W W', Res2 S vcs W → Below W.heap.size W W' → Res2 S vcs W') (hRes3 : ∀ S vcs W W', Res vcs W → w.heap.size ≤ W.heap.size → Out (Value.slice A k c).ownBlock.toList W W' → (∀ b ∈ S, b ∈ (Value.slice A k c).ownBlock.toList ∨ W.heap.size ≤ b) → Res2 S vcs W')
 (hRes2 : ∀ vcs W W', Res vcs W → w.heap.size ≤ W.heap.size → Out (Value.slice A k c).ownBlock.toList W W' → Res vcs W')
 (hcall : ∀ W, Below w.heap.size w W → Calls P f #[.agg ecs.toArray] W (fun r w' => ∃ vcs : List Value, r = .returned (.agg vcs.toArray) ∧ vcs.length = size ∧ (∀ u ∈ vcs, u.oneCell' = true) ∧ Res vcs w' ∧ Below W.heap.size W w'))
 (hQ : ∀ (u : Nat → Value) (W : World) (vcs : List Value) (A' : Option Addr) (c' : Nat),
  vcs.length = size → Res2 (Value.slice A' (k + 1) c').ownBlock.toList vcs W → W.ownsRow base eT size (.slice A' (k + 1) c') (k + 1) (xs ++ vcs) → (∀ b, (Value.slice A' (k + 1) c').ownBlock = some b → b ∈ (Value.slice A k c).ownBlock.toList ∨ w.heap.size ≤ b) → Out (Value.slice A k c).ownBlock.toList w W →
  W.heap[g]? = some (.cells cs T (0, 0)) → Q .normal ([d0, d1, d2, d3, d4, d5, d6].foldl (fun x d => x.put (some d) (u d)) a) (W.setCell ⟨g, q, none⟩ (.slice A' (k + 1) c'))) :
 (Code.region id (pushOps T sT xT f tb tx fld d0 d1 d2 d3 d4 d5 d6 y0 y1 y2 y3 y4 y5 y6 y7 p) true).wp P Q a w := by
 have hw0 : Below w.heap.size w w.drew := below_drewN w 1 _; have hown0 : w.drew.ownsRow base eT size (.slice A k c) k xs := own_below hown hw0; have hG0 : PushG T xT g x (Value.slice A k c).ownBlock.toList cs ecs w w.drew := ⟨hg0, hx0, Out.of_below hw0 _⟩
 refine drawn hm 7 n (fun j W => PushG T xT g x (Value.slice A k c).ownBlock.toList cs ecs w W ∧ (j = 5 → W.ownsRow base eT size (.slice A k c) k xs) ∧ (j = 3 → Below w.heap.size w W)) (pushF base eT size k g q (Value.slice A k c).ownBlock.toList A c xs ecs Res Res2 w)
  (fun j W W' => if j = 5 then Out (Value.slice A k c).ownBlock.toList W W' ∧ g ∉ (Value.slice A k c).ownBlock.toList ∧ x ∉ (Value.slice A k c).ownBlock.toList else Below W.heap.size W W') hn hok hd (fun j _ => ⟨hG0, fun _ => hown0, fun _ => hw0⟩) ?_ ?_ ?_ ?_
 ·intro i j v W W' hij hil hj hF hR; by_cases h5 : j = 5
  ·subst h5; simp only [if_true] at hR; obtain ⟨hR, -, -⟩ := hR
   have hblk : ∀ b, w.heap.size ≤ b → b ∉ (Value.slice A k c).ownBlock.toList := fun b hb hmem => by
    have := (own_blk hown (b := b) (by simpa using hmem)).2; omega
   match i, hF with
   | 0, h => exact h
   | 1, h => exact h
   | 2, h => exact h
   | 3, ⟨vcs, h1, h2, h3, h4, h5⟩ => exact ⟨vcs, h1, h2, h3, hRes2 _ _ _ h4 h5 hR, Nat.le_trans h5 hR.size⟩
   | 4, ⟨vcs, b, h1, h2, h3, h4, h5, h6⟩ =>
     have hbl := (glt h5)
     exact ⟨vcs, b, h1, h2, h3, hRes2 _ _ _ h4 (by omega) hR, (hR.block _ hbl (hblk b h6)).trans h5, h6⟩
   | 5, _ => exact absurd rfl hij
   | 6, h => exact h
   | _ + 7, _ => exact trivial
  ·rw [if_neg h5] at hR; exact pushF_keep hRes hResB hF hR
 ·intro i j W W' hij hil hj hanc hG hR; by_cases h5 : i = 5
  ·subst h5; simp only [if_true] at hR; obtain ⟨hR, h1, h2⟩ := hR; refine ⟨⟨(hR.block _ (glt hG.1.g) h1).trans hG.1.g, (hR.block _ (glt hG.1.x) h2).trans hG.1.x, hG.1.out.trans hR (fun _ h _ => h)⟩, fun e => absurd e (Ne.symm hij), fun e => absurd (by subst e; simp [ancs, Region.binds]) hanc⟩
  ·rw [if_neg h5] at hR; exact ⟨hG.1.keep hR, fun e => own_below (hG.2.1 e) hR, fun e => below_nextR (hG.2.2 e) hR⟩
 ·intro i o a' W hil ho hd' hold hGi hGL hw; have hr1 := (hold tb htb).trans hb; have hr2 := (hold tx htx).trans hx; have hbw : ∀ W : World, Below W.heap.size W W := fun W => Below.refl _ W
  match i, hil, ho with
  | 0, _, ho =>
    injection ho with ho; subst ho
    exact op_val _ (by simp [execOp, Act.eval, hr1, hfld]) ⟨_, rfl, hbw _, rfl⟩
  | 1, _, ho =>
    injection ho with ho; subst ho
    obtain ⟨v0, h0, e0⟩ := hw 0 d0 rfl; obtain rfl : v0 = _ := e0; exact op_val _ (by simp [execOp, Act.eval, h0, run_load1 huS ((cell_of_row _ _ _ _ _ _ hGi.1.g).trans hcq)]) ⟨_, rfl, hbw _, rfl⟩
  | 2, _, ho =>
    injection ho with ho; subst ho
    exact wp_load_mid xT (.tmp tx) rfl _ _ (eval_tmp hr2) ecs ds (range_rowR hGi.1.x) huX hdX hiX ⟨_, rfl, hbw _, rfl⟩
  | 3, _, ho =>
    injection ho with ho; subst ho
    obtain ⟨v0, h0, e0⟩ := hw 2 d2 rfl; obtain rfl : v0 = _ := e0; refine op_call f _ rfl rfl #[.agg ecs.toArray] (by simp [Act.eval, h0]) fn hfn hbd hng ((hcall W (hGi.2.2 rfl)).mono ?_); rintro r w' ⟨vcs, rfl, e1, e2, e3, e4⟩; exact ⟨_, rfl, _, rfl, e4, vcs, rfl, e1, e2, e3, Nat.le_trans hGi.1.out.size e4.size⟩
  | 4, _, ho =>
    injection ho with ho; subst ho
    obtain ⟨v0, h0, vcs, e0, e1, e2, e3, -⟩ := hw 3 d3 rfl; obtain rfl : v0 = _ := e0; refine op_bslice sT eT 1 _ rfl size [.agg vcs.toArray] huS (by obtain ⟨i, hi1, hi2⟩ := Option.map_eq_some_iff.1 hi; rw [hi1]; simp at hi2 ⊢; simp [hi2]) hsz rfl (by decide) (by omega) (by simp [Act.eval, h0]) (by simp [Value.cells, e1]) ?_; simp only [List.flatMap_cons, List.flatMap_nil, List.append_nil, Value.cells]; exact ⟨_, rfl, belowA (Below.refl _ _) _, vcs, _, rfl, e1, e2, hRes _ _ _ e3 (belowA (Below.refl _ _) _), heapNew rfl, hGi.1.out.size⟩
  | 5, _, ho =>
    injection ho with ho; subst ho
    obtain ⟨v0, h0, e0⟩ := hw 1 d1 rfl; obtain rfl : v0 = _ := e0; obtain ⟨v1, h1, vcs, b, e1, e2, e3, e4, e5, e6⟩ := hw 4 d4 rfl; obtain rfl : v1 = _ := e1; obtain ⟨A', c', w', k1, k2, k3, k4⟩ := push_more (P := P) (ty := y5) W huS hi hzs hsz (hGi.2.1 rfl) b vcs e2 e5 e3 h63 hbytes (Nat.le_trans hbase hGi.1.out.size); refine op_append _ _ _ rfl _ _ (eval_tmp h0) (eval_tmp h1) k1 ⟨_, rfl, ?_, vcs, A', c', rfl, e2, hRes3 _ _ _ _ e4 hGi.1.out.size k3 (fun b hb => (k4 b (by simpa using hb)).imp (fun h => by simp [h]) (fun h => h)), k2, fun b hb => ?_⟩
    ·simp only [if_true]; exact ⟨k3, hT, hX⟩
    ·rcases k4 b hb with h | h
     ·exact .inl (by simp [h])
     ·exact .inr (Nat.le_trans hGi.1.out.size h)
  | 6, _, ho =>
    injection ho with ho; subst ho
    exact op_val _ (by simp [execOp, Act.eval, hr1, hfld]) ⟨_, rfl, hbw _, rfl⟩
  | n + 7, hil, _ => omega
 ·intro o a' W ho hd' hs hold hGL hw; obtain ⟨v0, h0, e0⟩ := hw 6 d6 (by decide) rfl; obtain ⟨v1, h1, vcs, A', c', e1, e2, e3, e4, e5⟩ := hw 5 d5 (by decide) rfl; obtain rfl : v0 = _ := e0; obtain rfl : v1 = _ := e1; injection ho with ho; subst ho
  have hqs : q < cs.size := (glt hcq)
  have hrun : (execOp a'.eval { dst := none, op := .store sT (.tmp d6) (.tmp d5), type := y7, pos := p, after := #[⟨6, .data⟩, ⟨5, .data⟩, ⟨5, .chain⟩, ⟨0, .phase⟩, ⟨1, .phase⟩, ⟨2, .phase⟩, ⟨3, .phase⟩, ⟨4, .phase⟩, ⟨5, .phase⟩], guard := none }).run P W = .ok .skip (W.setCell ⟨g, q, none⟩ (.slice A' (k + 1) c')) := by
   simp [execOp, Act.eval, h0, h1, run_store1 (A := A') (n := k + 1) (c := c') hiS hGL.1.g hqs]
  obtain ⟨u, hu, -⟩ := frame_of (a := a) (a' := a') [d0, d1, d2, d3, d4, d5, d6] (by rw [hs, hn]) (by rw [hd', hd]) (fun t ht => hold t (by simp at ht; simp [Ne.symm ht.1, Ne.symm ht.2.1, Ne.symm ht.2.2.1, Ne.symm ht.2.2.2.1, Ne.symm ht.2.2.2.2.1, Ne.symm ht.2.2.2.2.2.1, Ne.symm ht.2.2.2.2.2.2])); refine op_skip hrun ?_; have hq := hQ u W vcs A' c' e2 e3 e4 e5 hGL.1.out hGL.1.g; rw [← hu] at hq; exact hq
end
section
variable {α : Type} {E : Enc α}
theorem Rows.push {b1 eT : Nat} {W0 W : World} {A A' : Option Addr} {k c c' : Nat} {L : List (α × List Value)} {vcs : List Value} {x : α} (h : Rows E b1 eT W0 A k c L) (hb : b1 ≤ W0.heap.size)
 (hown : W.ownsRow b1 eT E.sz (.slice A' (k + 1) c') (k + 1) (L.flatMap (·.2) ++ vcs)) (hblk : ∀ b, (Value.slice A' (k + 1) c').ownBlock = some b → b ∈ (Value.slice A k c).ownBlock.toList ∨ W0.heap.size ≤ b) (ho : Out (Value.slice A k c).ownBlock.toList W0 W)
 (hx : E.ok (sans W (List.range W0.heap.size ++ (Value.slice A' (k + 1) c').ownBlock.toList)) W.heap.size vcs x) : Rows E b1 eT W A' (k + 1) c' (L ++ [(x, vcs)]) := by
 refine ⟨by simpa using hown, by simp [h.len], fun p hp => ?_⟩; rcases List.mem_append.1 hp with hp | hp
 ·refine E.mono ho.size (ho.kept (fun b hb _ => List.mem_append_right _ hb) (fun b hb hl => ?_)) (h.far p hp); rcases List.mem_append.1 hb with hb | hb
  ·exact List.mem_append_left _ hb
  ·rcases hblk b (by simpa using hb) with h1 | h1
   ·exact List.mem_append_right _ h1
   ·omega
 ·obtain rfl : p = (x, vcs) := by simpa using hp
  refine E.mono (Nat.le_refl _) ((Out.refl [] W).kept (fun _ h _ => by cases h) (fun b hb' _ => ?_)) hx; rcases List.mem_append.1 hb' with hb' | hb'
  ·exact List.mem_append_left _ (List.mem_range.2 (by have := List.mem_range.1 hb'; omega))
  ·exact List.mem_append_right _ hb'
end
end Go.Proofs.YtaeedepojpablaaGreatDoor

namespace Go.Proofs.YtaeedepojpablaaGreatDoor
open Go.RowKit
def CopyExp (d : Nat) (e : GExp) (w : World) (r : Ending) (w' : World) : Prop :=
 ∃ (A : Option Addr) (c : Nat), r = .returned (expV e A e.kids.length c) ∧ SliceFar (Enc.exp d) w' (List.range w.heap.size) A e.kids.length c e.kids ∧ Below w.heap.size w w'
theorem copyExp_any : ∀ (d : Nat) (e : GExp) (A : Option Addr) (n c : Nat) (w : World), SliceIs (Enc.exp d) w w.heap.size A n c e.kids → Nar e → fits e.op → e.t.x.size ≤ reachN → e.t.v.ok →
 Calls Tryz.prog 91 #[expV e A n c] w (CopyExp d e w) := by
 intro d; induction d using Nat.strongRecOn with
 | ind d ih =>
   intro e A n c w hk hsm hop hx hv; have mixed : Tryz.prog.follows .mixedOrders = true := by kernel_rfl
   have IH := hZ9 ih; have hn := hk.bound; have HK := hZ9 hk; have Hlen := hZ9 hk.1; have HSm := hZ9 hsm; obtain ⟨P, HP⟩ : ∃ P : Ending → World → Prop, Hid (P = CopyExp d e w) := ⟨_, rfl⟩
   rw [← HP.out]; have hrb : (w.alloc (.cells #[.int .i64 e.op, .string e.t.x, .int .i64 e.t.v.k, .int .i64 e.t.v.n, .string e.t.v.s, .slice A n c] 78)).heap[w.heap.size]? = some (.cells #[.int .i64 e.op, .string e.t.x, .int .i64 e.t.v.k, .int .i64 e.t.v.n, .string e.t.v.s, .slice A n c] 78 (0, 0)) := heapNew rfl; obtain ⟨b0, b1, b2, b3, b4, b5⟩ := facts6 hrb; have hr2 : (((w.alloc (.cells (expC e A n c).toArray 78)).alloc (.cells zeC.toArray 105)).alloc (.cells (expC e none 0 0).toArray 105)).heap[w.heap.size + 2]? = some (.cells (expC e none 0 0).toArray 105 (0, 0)) := heapNew (by simp); have hr1 : (((w.alloc (.cells (expC e A n c).toArray 78)).alloc (.cells zeC.toArray 105)).alloc (.cells (expC e none 0 0).toArray 105)).heap[w.heap.size + 1]? = some (.cells zeC.toArray 105 (0, 0)) := heapOld (heapNew (by simp)); have hbw : Below w.heap.size w (((w.alloc (.cells (expC e A n c).toArray 78)).alloc (.cells zeC.toArray 105)).alloc (.cells (expC e none 0 0).toArray 105)) := belowA (belowA (belowA (Below.refl _ _) _) _) _; have hzw : (((w.alloc (.cells (expC e A n c).toArray 78)).alloc (.cells zeC.toArray 105)).alloc (.cells (expC e none 0 0).toArray 105)).heap.size = w.heap.size + 3 := by simp
   clear ih hk hsm hrb; go_enter Tryz.func91, Tryz.ntmps91
   go_wp2_with fail
   try simp only [Nat.add_assoc, Nat.reduceAdd]
   generalize hw3 : ((w.alloc _).alloc _).alloc _ = w3; rw [hw3] at hr2 hr1 hbw hzw; have HZ := hZ9 hzw; clear hzw b0 b1 b2 b3 b4 b5 hw3; go_loopw [14] (fun i wr => ∃ (j c' : Nat) (A' : Option Addr) (L : List (GExp × List Value)), j ≤ n ∧ i = .int .i64 j ∧ Hid (L.map (·.1) = e.kids.take j) ∧ Hid (Rows (Enc.exp d) (w.heap.size + 3) 105 wr A' j c' L) ∧ wr.heap[w.heap.size + 2]? = some (.cells (expC e A' j c').toArray 105 (0, 0)) ∧ wr.heap[w.heap.size + 1]? = some (.cells zeC.toArray 105 (0, 0)) ∧ Below w.heap.size w wr ∧ w.heap.size + 3 ≤ wr.heap.size) (fun i _ => n - (intOf i).toNat)
   case atStart => exact ⟨0, 0, none, [], by omega, rfl, rfl, Rows.nil _ _ _, hr2, hr1, hbw, by have := HZ.out; omega⟩
   case round =>
    obtain ⟨j, c', A', L, hj, rfl, HL, HR, hg, hg1, hbr, hzr⟩ := hrel; have i0 : (0 : Int) ≤ (j : Int) := by omega
    by_cases hlt : j < n
    ·have i1 : (j : Int) < (n : Int) := by omega
     obtain ⟨b, o, k, Ak, nk, ck, d', rfl, hb, hk', hd, x0, x1, x2, x3, x4, x5, f0, f1, f2, hkk⟩ := (HK.out.below hbr).exp_at hlt; have hkm := hZ9 (List.mem_of_getElem? hk'.out); have HT : Hid (e.kids.take (j + 1) = e.kids.take j ++ [k]) := by show _ = _; rw [List.take_add_one, hk'.out]; rfl
     have hba : Below wr.heap.size wr (wr.alloc (.cells (expC k Ak nk ck).toArray 78)) := belowA (Below.refl _ _) _; have HC := hZ9 (fun (W : World) (h : Below (wr.alloc (.cells (expC k Ak nk ck).toArray 78)).heap.size (wr.alloc (.cells (expC k Ak nk ck).toArray 78)) W) => IH.out d' (by omega) k Ak nk ck W ((hkk.mono' (Nat.le_trans hbr.size hba.size) (Kept.of fun bb hbb => hba.block bb (by have := hbr.size; omega))).mono' h.size (Kept.of h.block)) (HSm.out.kids k hkm.out) f0 f1 f2); have hn1 : j + 1 ≤ 1500 := by have := HSm.out.len; have := Hlen.out; omega
     have hdd := hZ9 hd; have hx2 : (wr.alloc (.cells (expC k Ak nk ck).toArray 78)).heap[wr.heap.size]? = some (.cells (expC k Ak nk ck).toArray 78 (0, 0)) := heapNew rfl; have hgA := heapOld (o := .cells (expC k Ak nk ck).toArray 78) hg; have hg1A := heapOld (o := .cells (expC k Ak nk ck).toArray 78) hg1; have HRA := hZ9 (HR.out.out (Out.of_below hba []) (fun _ h _ => by cases h)); have hbA := below_next hbr hba; have HzA := hZ9 hba.size
     have HoG : Hid (w.heap.size + 2 ∉ (Value.slice A' j c').ownBlock.toList) := fun hm => by
      have := (own_blk HR.out.own (b := w.heap.size + 2) (by simpa using hm)).1; omega
     have HoX : Hid (wr.heap.size ∉ (Value.slice A' j c').ownBlock.toList) := fun hm => by
      have := (own_blk HR.out.own (b := wr.heap.size) (by simpa using hm)).2; omega
     have HO : Hid ((wr.alloc (.cells (expC k Ak nk ck).toArray 78)).ownsRow (w.heap.size + 3) 105 6 (.slice A' j c') j (L.flatMap (·.2))) := by
      have := HRA.out.own; rw [Enc.exp_sz] at this; exact this
     clear hk' hd hba hkk HR hg hg1; go_wp2_with fail
     try simp only [Nat.add_assoc, Nat.reduceAdd]
     refine push_region (n := 27) mixed rfl rfl (by kernel_rfl) (by kernel_rfl) (by kernel_rfl) (w.heap.size + 2) wr.heap.size 5 (w.heap.size + 3) 105 6 80 j (.agg zeC.toArray) A' c' (L.flatMap (·.2)) (expC k Ak nk ck) (expC e A' j c').toArray
      (fun vcs W => (Enc.exp d).ok (sans W (List.range (wr.heap.size + 1))) W.heap.size vcs k) (fun S vcs W => (Enc.exp d).ok (sans W (List.range (wr.heap.size + 1) ++ S)) W.heap.size vcs k) _
      rfl rfl hgA hx2 rfl (fun w => by simp [go_sem]) Tryz.underlying103 (by kernel_rfl) Tryz.underlying78 rfl (by kernel_rfl) (by kernel_rfl) rfl (by decide) (by decide) HO.out HoG.out HoX.out (by simp [maxLen]; omega) (by omega) (by simp; omega) _ Tryz.func91 (by kernel_rfl) (by kernel_rfl) ?_ ?_ ?_ ?_ ?_ ?_
     ·intro vcs W W' h hb; exact (Enc.exp d).mono hb.size ((Out.of_below hb []).kept (fun _ h _ => by cases h) (fun _ h _ => h)) h
     ·intro S vcs W W' h hb; exact (Enc.exp d).mono hb.size ((Out.of_below hb []).kept (fun _ h _ => by cases h) (fun _ h _ => h)) h
     ·intro S vcs W W' h hz ho hS; refine (Enc.exp d).mono ho.size (ho.kept (T := List.range (wr.heap.size + 1)) (fun b hb _ => ?_) (fun b hb hl => ?_)) h
      ·have := (own_blk HO.out (b := b) (by simpa using hb)).2; simp at this
       exact List.mem_range.2 this
      ·rcases List.mem_append.1 hb with hb | hb
       ·exact hb
       ·rcases hS b hb with h1 | h1
        ·have := (own_blk HO.out (b := b) (by simpa using h1)).2; simp at this
         exact List.mem_range.2 this
        ·omega
     ·intro vcs W W' h hz ho; refine (Enc.exp d).mono ho.size (ho.kept (T := List.range (wr.heap.size + 1)) (fun b hb _ => ?_) (fun b hb hl => hb)) h; have := (own_blk HO.out (b := b) (by simpa using hb)).2; simp at this
      exact List.mem_range.2 this
     ·intro W hb; refine (HC.out W hb).mono ?_; rintro r w' ⟨A2, c2, rfl, hs, hb2⟩; refine ⟨expC k A2 k.kids.length c2, rfl, rfl, by simp [Value.oneCell'], ?_, hb2⟩; have hd2 := hdd.out; subst hd2; refine ⟨A2, k.kids.length, c2, rfl, f0, f1, f2, SliceIs.mono' hs (Nat.le_refl _) ((Out.refl [] w').kept (fun _ h _ => by cases h) (fun b hb' _ => List.mem_range.2 ?_))⟩; have h1 := List.mem_range.1 hb'; have h2 := hb.size; simp at h2
      omega
     ·intro u W vcs A2 c2 hl hfar hown hblk ho hgW; have hsA : (wr.alloc (.cells (expC k Ak nk ck).toArray 78)).heap.size = wr.heap.size + 1 := by simp
      have hR2 := HRA.out.push (by rw [hsA]; omega) (by rw [Enc.exp_sz]; exact hown) hblk ho (by rw [hsA]; exact hfar); have HR2 := hZ9 (hR2.out (set_out W (w.heap.size + 2) 5 (.slice A2 (j + 1) c2)) (fun b hb _ => by simp at hb; omega)); have HL2 : Hid ((L ++ [(k, vcs)]).map (·.1) = e.kids.take (j + 1)) := by show _ = _; rw [HT.out, List.map_append, HL.out]; rfl
      have hG2 : (W.setCell ⟨w.heap.size + 2, 5, none⟩ (.slice A2 (j + 1) c2)).heap[w.heap.size + 2]? = some (.cells (expC e A2 (j + 1) c2).toArray 105 (0, 0)) := by
       simp [World.setCell, Array.getElem?_modify, hgW]
      have hG1 : (W.setCell ⟨w.heap.size + 2, 5, none⟩ (.slice A2 (j + 1) c2)).heap[w.heap.size + 1]? = some (.cells zeC.toArray 105 (0, 0)) :=
       (World.heap_setCells_other' (by omega)).trans ((ho.block _ (glt hg1A) (fun hm => by
        have := (own_blk HO.out (b := w.heap.size + 1) (by simpa using hm)).1
        omega)).trans hg1A)
      have hzz : wr.heap.size + 1 ≤ W.heap.size := by rw [← hsA]; exact ho.size
      have hB2 : Below w.heap.size w (W.setCell ⟨w.heap.size + 2, 5, none⟩ (.slice A2 (j + 1) c2)) :=
       (hbA.trans (ho.below (B := w.heap.size) (fun b hb => by
        have := (own_blk HO.out (b := b) (by simpa using hb)).1
        omega) (by rw [hsA]; omega))).setCell (by show w.heap.size ≤ w.heap.size + 2; omega) _
      have hzs : (W.setCell ⟨w.heap.size + 2, 5, none⟩ (.slice A2 (j + 1) c2)).heap.size = W.heap.size := World.size_setCell'; have HZ2 := hZ9 hzs; clear hR2 hgW hfar hown hblk ho hsA hgA hg1A hx2 hzs; simp only [List.foldl_cons, List.foldl_nil, Act.put, List.setIfInBounds_toArray, List.set_cons_zero, List.set_cons_succ]; generalize W.setCell ⟨w.heap.size + 2, 5, none⟩ (.slice A2 (j + 1) c2) = W2 at *; go_wp2_with fail
      go_roundw
      case rel => exact ⟨j + 1, c2, A2, _, by omega, by go_num, HL2, HR2, hG2, hG1, hB2, by rw [HZ2.out]; omega⟩
      case measure => simp [intOf]; omega
    ·have i1 : ¬ (j : Int) < (n : Int) := by omega
     have hjn : j = n := by omega
     subst hjn; have hll := Hlen.out; obtain ⟨c0, c1, c2, c3, c4, c5⟩ := facts6 hg; have hS := setRow_at (cs' := (expC e A' j c').toArray) hg1; obtain ⟨s0, s1, s2, s3, s4, s5⟩ := facts6 hS; have hbS : Below w.heap.size w (wr.setRow (w.heap.size + 1) (expC e A' j c').toArray) := ⟨hbr.os, hbr.tape, hbr.output, by rw [setRow_size]; exact hbr.size, fun x hx => (setRow_ne (by omega)).trans (hbr.block x hx)⟩
     have hoS : Out [w.heap.size + 1] wr (wr.setRow (w.heap.size + 1) (expC e A' j c').toArray) := ⟨rfl, rfl, rfl, by rw [setRow_size]; exact Nat.le_refl _, fun x _ hx => setRow_ne (by simpa using hx)⟩
     have hR3 := HR.out.out hoS (fun b hb _ => by simp at hb; omega); have hR2 := hR3.is (base := w.heap.size) (by simpa [reachN] using hn) (by omega); rw [HL.out, List.take_of_length_le (by omega)] at hR2
     have hpost : P (.returned (expV e A' j c')) (wr.setRow (w.heap.size + 1) (expC e A' j c').toArray) := by
      rw [HP.out]; exact ⟨A', c', by rw [hll], by rw [hll]; exact hR2, hbS⟩
     have HPo := hZ9 hpost; clear hR2 hR3 HR HL hll hpost hoS hbS hS HP; go_wp2_with (refine wpList_store_rowTo rfl 105 (.tmp 2) (.tmp 26) rfl rfl (w.heap.size + 1) (expC e A' j c').toArray rfl rfl 105 zeC.toArray hg1 (by kernel_rfl) rfl (by simp [Value.oneCell']) ?_)
     refine bodyPost_ret (v := expV e A' j c') ?_ rfl HPo.out; simp [results, Tryz.results91, go_sem, s0, s1, s2, s3, s4, s5]
end Go.Proofs.YtaeedepojpablaaGreatDoor

namespace Go.Proofs.YtaeedepojpablaaGreatDoor
open Go.RowKit
structure NarLit (x : GLit) : Prop where
 args : x.atom.args.length ≤ 1500
 l : Nar x.l
 r : Nar x.r
structure NarRule (x : GRule) : Prop where
 args : x.head.args.length ≤ 1500
 body : x.body.length ≤ 1500
 lits : ∀ y ∈ x.body, NarLit y
structure NarProg (p : GProg) : Prop where
 decls : p.decls.length ≤ 1500
 kinds : ∀ x ∈ p.decls, x.kinds.length ≤ 1500
 rules : p.rules.length ≤ 1500
 each : ∀ x ∈ p.rules, NarRule x
end Go.Proofs.YtaeedepojpablaaGreatDoor
