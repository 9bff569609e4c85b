/- My own texts ShowQ, ShowOne, ShowAl, ShowSz, BoxJ, as far as this claim needs them. -/
import Derived.Test.YtgabkmibfhmkmaaGreatDoorZs6
import Derived.Test.YtgabkmibfhmkmaaGreatDoorZs7
import Derived.Test.YtgabkmibfhmkmaaGreatDoorZs11
import Derived.Test.YtgabkmibfhmkmaaGreatDoorZs14
import Derived.Test.YtgabkmibfhmkmaaGreatDoorZs15
set_option linter.unusedVariables false
set_option linter.unusedSimpArgs false
namespace Go.Proofs.YtgabkmibfhmkmaaGreatDoor
open Go.RowKit
/-- a text, or an error -/
def ShP (r : Bool) (s : List UInt8) (w : World) (e : Ending) (w' : World) : Prop := e = .returned (.tuple #[.string (if r then bytes s else ⟨#[]⟩), if r then .nilIface else .iface 66 (.int .i64 2)]) ∧ Below w.heap.size w w'
set_option maxRecDepth 100000 in
theorem is2_any (w : World) : Calls Tryz.prog 25 #[.iface 66 (.int .i64 2), .int .i64 2] w (RetBool true w) := by
  have hn := Lib.hid (num_any 2 w)
  simp only [errV, if_neg (show ¬ (2 : Int) = 0 by decide)] at hn
  go_enter Tryz.func25, Tryz.ntmps25
  go_wp2_with fail
  refine hn.out.mono ?_
  rintro e w1 ⟨rfl, hb1⟩
  go_wp2_with fail
  go_ret
  exact ⟨rfl, hb1⟩
set_option maxRecDepth 100000 in
set_option maxHeartbeats 2000000 in
theorem askedExp_any (d : Nat) (x : GExp) (A : Option Addr) (n c : Nat) (w : World) (hk : SliceIs (Enc.exp d) w w.heap.size A n c x.kids) (hx : x.t.x.size ≤ reachN) (hv : x.t.v.ok) (hL : LexW w) (hS : ShowW w) (hlen : rightE 20 x = true → (expS 20 x).length ≤ 1000000000000) :
    Calls Tryz.prog 113 #[.agg #[.int .i64 x.op, .string x.t.x, .int .i64 x.t.v.k, .int .i64 x.t.v.n, .string x.t.v.s, .slice A n c], .func (.func 114) #[] #[], .func (.func 115) #[] #[]] w (ShP (rightE 20 x) (expS 20 x) w) := by
  have HR := Lib.hid (fun (V : World) (hb : Below w.heap.size w V) => rightExp_any x A n c d V (hk.keep hb) hx (hL.on hb))
  have HT := Lib.hid (fun (hr : rightE 20 x = true) (V : World) (hb : Below w.heap.size w V) => exp2_any 20 x A n c d V hr (hk.keep hb) hv.2.1 (hS.on hb) (hlen hr))
  have hrb : (w.alloc (.cells #[.int .i64 x.op, .string x.t.x, .int .i64 x.t.v.k, .int .i64 x.t.v.n, .string x.t.v.s, .slice A n c] 33)).heap[w.heap.size]? = some (.cells #[.int .i64 x.op, .string x.t.x, .int .i64 x.t.v.k, .int .i64 x.t.v.n, .string x.t.v.s, .slice A n c] 33 (0, 0)) := heapNew rfl
  have hba : Below w.heap.size w (w.alloc (.cells #[.int .i64 x.op, .string x.t.x, .int .i64 x.t.v.k, .int .i64 x.t.v.n, .string x.t.v.s, .slice A n c] 33)) := belowA (Below.refl _ _) _
  obtain ⟨f0, f1, f2, f3, f4, f5⟩ := facts6 hrb
  have Hrb := Lib.hid hrb
  clear hrb hL hS hlen
  generalize hr : rightE 20 x = r at *
  have HTr := Lib.hid (fun (h : r = true) => HT.out h)
  clear HT hr
  generalize expS 20 x = s at *
  generalize hwb : (w.alloc (.cells #[.int .i64 x.op, .string x.t.x, .int .i64 x.t.v.k, .int .i64 x.t.v.n, .string x.t.v.s, .slice A n c] 33)) = wb at *
  have HB0 := Lib.hid hba
  clear hba
  go_enter Tryz.func113, Tryz.ntmps113
  go_wp2_with fail
  try simp only [hwb]
  clear hwb
  go_wp2_with fail
  refine (HR.out _ HB0.out).mono ?_
  rintro e1 w1 ⟨rfl, hb1⟩
  have HB1 := Lib.hid (below_next HB0.out hb1)
  obtain ⟨g0, g1, g2, g3, g4, g5⟩ := facts6 ((hb1.block _ (Array.getElem?_eq_some_iff.1 Hrb.out).1).trans Hrb.out)
  clear hb1 f0 f1 f2 f3 f4 f5
  cases r with
  | false =>
    go_wp2_with fail
    go_ret2
    exact ⟨rfl, HB1.out⟩
  | true =>
    go_wp2_with fail
    refine (HTr.out (by simp) _ HB1.out).mono ?_
    rintro e2 w2 ⟨rfl, hb2⟩
    go_wp2_with fail
    go_ret2
    exact ⟨rfl, below_next HB1.out hb2⟩
set_option maxRecDepth 100000 in
set_option maxHeartbeats 2000000 in
theorem topExp_any (d : Nat) (x : GExp) (A : Option Addr) (n c : Nat) (w : World) (hk : SliceIs (Enc.exp d) w w.heap.size A n c x.kids) (hx : x.t.x.size ≤ reachN) (hv : x.t.v.ok) (hL : LexW w) (hS : ShowW w) (hlen : rightE 20 x = true → (expS 20 x).length ≤ 1000000000000) :
    Calls Tryz.prog 34 #[.agg #[.int .i64 x.op, .string x.t.x, .int .i64 x.t.v.k, .int .i64 x.t.v.n, .string x.t.v.s, .slice A n c]] w (ShP (rightE 20 x) (expS 20 x) w) := by
  have hba : Below w.heap.size w (w.alloc (.cells #[.int .i64 x.op, .string x.t.x, .int .i64 x.t.v.k, .int .i64 x.t.v.n, .string x.t.v.s, .slice A n c] 33)) := belowA (Below.refl _ _) _
  have hrb : (w.alloc (.cells #[.int .i64 x.op, .string x.t.x, .int .i64 x.t.v.k, .int .i64 x.t.v.n, .string x.t.v.s, .slice A n c] 33)).heap[w.heap.size]? = some (.cells #[.int .i64 x.op, .string x.t.x, .int .i64 x.t.v.k, .int .i64 x.t.v.n, .string x.t.v.s, .slice A n c] 33 (0, 0)) := heapNew rfl
  obtain ⟨f0, f1, f2, f3, f4, f5⟩ := facts6 hrb
  have HC := Lib.hid (askedExp_any d x A n c _ (hk.keep hba) hx hv (hL.on hba) (hS.on hba) hlen)
  have HB0 := Lib.hid hba
  clear hk hL hS hlen hrb hba
  generalize rightE 20 x = r at *
  generalize expS 20 x = s at *
  generalize hwb : (w.alloc (.cells #[.int .i64 x.op, .string x.t.x, .int .i64 x.t.v.k, .int .i64 x.t.v.n, .string x.t.v.s, .slice A n c] 33)) = wb at *
  go_enter Tryz.func34, Tryz.ntmps34
  go_wp2_with fail
  try simp only [hwb]
  clear hwb
  go_wp2_with fail
  refine HC.out.mono ?_
  rintro e1 w1 ⟨rfl, hb1⟩
  cases r <;>
  · go_wp2_with fail
    go_ret2
    exact ⟨rfl, below_next HB0.out hb1⟩
set_option maxRecDepth 100000 in
set_option maxHeartbeats 2000000 in
theorem cloExp_any (d : Nat) (x : GExp) (A : Option Addr) (n c : Nat) (h : Nat) (w : World) (hk : SliceIs (Enc.exp d) w w.heap.size A n c x.kids) (hx : x.t.x.size ≤ reachN) (hv : x.t.v.ok) (hr : rightE 20 x = true) (hlen : (expS 20 x).length ≤ 1000000000000) (hrow : w.heap[h]? = some (.cells #[.int .i64 x.op, .string x.t.x, .int .i64 x.t.v.k, .int .i64 x.t.v.n, .string x.t.v.s, .slice A n c] 49 (0, 0))) :
    Calls Tryz.prog 43 #[.pointer (some ⟨h, 0, none⟩)] w (RetV (.string (bytes (expS 20 x))) w) := by
  have HC := Lib.hid (fun (V : World) (hb : Below w.heap.size w V) => refExp2_any 20 x A n c d V hr (hk.keep hb) hv hx hlen)
  obtain ⟨f0, f1, f2, f3, f4, f5⟩ := facts6 hrow
  clear hk hr hlen hrow
  generalize expS 20 x = s at *
  go_enter Tryz.func43, Tryz.ntmps43
  go_wp2_with fail
  refine (HC.out _ (Below.refl _ _)).mono ?_
  rintro e1 w1 ⟨rfl, hb1⟩
  go_wp2_with fail
  go_ret
  exact ⟨rfl, hb1⟩
set_option maxRecDepth 100000 in
set_option maxHeartbeats 2000000 in
theorem askedRule_any (d : Nat) (x : GRule) (A : Option Addr) (n c : Nat) (B : Option Addr) (m e : Nat) (w : World) (hk : RuleAt d w w.heap.size x ⟨A, n, c⟩ ⟨B, m, e⟩) (hL : LexW w) (hS : ShowW w) (hlen : rightRule x = true → (ruleS x).length ≤ 1000000000000) :
    Calls Tryz.prog 108 #[.agg #[.string x.head.rel, .slice A n c, .int .i64 x.agg, .int .i64 x.col, .slice B m e, .int .i64 x.pos], .func (.func 60) #[] #[], .func (.func 109) #[] #[]] w (ShP (rightRule x) (ruleS x) w) := by
  have HR := Lib.hid (fun (V : World) (hb : Below w.heap.size w V) => rightRule_any d x ⟨A, n, c⟩ ⟨B, m, e⟩ V (hk.keep hb) (hL.on hb))
  have HT := Lib.hid (fun (hr : rightRule x = true) (V : World) (hb : Below w.heap.size w V) => rule2_any d x A n c B m e V (hk.keep hb) hr (hS.on hb) (hlen hr))
  have hrb : (w.alloc (.cells #[.string x.head.rel, .slice A n c, .int .i64 x.agg, .int .i64 x.col, .slice B m e, .int .i64 x.pos] 41)).heap[w.heap.size]? = some (.cells #[.string x.head.rel, .slice A n c, .int .i64 x.agg, .int .i64 x.col, .slice B m e, .int .i64 x.pos] 41 (0, 0)) := heapNew rfl
  have hba : Below w.heap.size w (w.alloc (.cells #[.string x.head.rel, .slice A n c, .int .i64 x.agg, .int .i64 x.col, .slice B m e, .int .i64 x.pos] 41)) := belowA (Below.refl _ _) _
  obtain ⟨f0, f1, f2, f3, f4, f5⟩ := facts6 hrb
  have Hrb := Lib.hid hrb
  clear hrb hL hS hlen
  generalize hr : rightRule x = r at *
  have HTr := Lib.hid (fun (h : r = true) => HT.out h)
  clear HT hr
  generalize ruleS x = s at *
  generalize hwb : (w.alloc (.cells #[.string x.head.rel, .slice A n c, .int .i64 x.agg, .int .i64 x.col, .slice B m e, .int .i64 x.pos] 41)) = wb at *
  have HB0 := Lib.hid hba
  clear hba
  go_enter Tryz.func108, Tryz.ntmps108
  go_wp2_with fail
  try simp only [hwb]
  clear hwb
  go_wp2_with fail
  refine (HR.out _ HB0.out).mono ?_
  rintro e1 w1 ⟨rfl, hb1⟩
  have HB1 := Lib.hid (below_next HB0.out hb1)
  obtain ⟨g0, g1, g2, g3, g4, g5⟩ := facts6 ((hb1.block _ (Array.getElem?_eq_some_iff.1 Hrb.out).1).trans Hrb.out)
  clear hb1 f0 f1 f2 f3 f4 f5
  cases r with
  | false =>
    go_wp2_with fail
    go_ret2
    exact ⟨rfl, HB1.out⟩
  | true =>
    go_wp2_with fail
    refine (HTr.out (by simp) _ HB1.out).mono ?_
    rintro e2 w2 ⟨rfl, hb2⟩
    go_wp2_with fail
    go_ret2
    exact ⟨rfl, below_next HB1.out hb2⟩
set_option maxRecDepth 100000 in
set_option maxHeartbeats 2000000 in
theorem topRule_any (d : Nat) (x : GRule) (A : Option Addr) (n c : Nat) (B : Option Addr) (m e : Nat) (w : World) (hk : RuleAt d w w.heap.size x ⟨A, n, c⟩ ⟨B, m, e⟩) (hL : LexW w) (hS : ShowW w) (hlen : rightRule x = true → (ruleS x).length ≤ 1000000000000) :
    Calls Tryz.prog 32 #[.agg #[.string x.head.rel, .slice A n c, .int .i64 x.agg, .int .i64 x.col, .slice B m e, .int .i64 x.pos]] w (ShP (rightRule x) (ruleS x) w) := by
  have hba : Below w.heap.size w (w.alloc (.cells #[.string x.head.rel, .slice A n c, .int .i64 x.agg, .int .i64 x.col, .slice B m e, .int .i64 x.pos] 41)) := belowA (Below.refl _ _) _
  have hrb : (w.alloc (.cells #[.string x.head.rel, .slice A n c, .int .i64 x.agg, .int .i64 x.col, .slice B m e, .int .i64 x.pos] 41)).heap[w.heap.size]? = some (.cells #[.string x.head.rel, .slice A n c, .int .i64 x.agg, .int .i64 x.col, .slice B m e, .int .i64 x.pos] 41 (0, 0)) := heapNew rfl
  obtain ⟨f0, f1, f2, f3, f4, f5⟩ := facts6 hrb
  have HC := Lib.hid (askedRule_any d x A n c B m e _ (hk.keep hba) (hL.on hba) (hS.on hba) hlen)
  have HB0 := Lib.hid hba
  clear hk hL hS hlen hrb hba
  generalize rightRule x = r at *
  generalize ruleS x = s at *
  generalize hwb : (w.alloc (.cells #[.string x.head.rel, .slice A n c, .int .i64 x.agg, .int .i64 x.col, .slice B m e, .int .i64 x.pos] 41)) = wb at *
  go_enter Tryz.func32, Tryz.ntmps32
  go_wp2_with fail
  try simp only [hwb]
  clear hwb
  go_wp2_with fail
  refine HC.out.mono ?_
  rintro e1 w1 ⟨rfl, hb1⟩
  cases r <;>
  · go_wp2_with fail
    go_ret2
    exact ⟨rfl, below_next HB0.out hb1⟩
set_option maxRecDepth 100000 in
set_option maxHeartbeats 2000000 in
theorem cloRule_any (d : Nat) (x : GRule) (A : Option Addr) (n c : Nat) (B : Option Addr) (m e : Nat) (h : Nat) (w : World) (hk : RuleAt d w w.heap.size x ⟨A, n, c⟩ ⟨B, m, e⟩) (hr : rightRule x = true) (hlen : (ruleS x).length ≤ 1000000000000) (hrow : w.heap[h]? = some (.cells #[.string x.head.rel, .slice A n c, .int .i64 x.agg, .int .i64 x.col, .slice B m e, .int .i64 x.pos] 75 (0, 0))) :
    Calls Tryz.prog 37 #[.pointer (some ⟨h, 0, none⟩)] w (RetV (.string (bytes (ruleS x))) w) := by
  have HC := Lib.hid (fun (V : World) (hb : Below w.heap.size w V) => refRule_any d x A n c B m e V (hk.keep hb) hr hlen)
  obtain ⟨f0, f1, f2, f3, f4, f5⟩ := facts6 hrow
  clear hk hr hlen hrow
  generalize ruleS x = s at *
  go_enter Tryz.func37, Tryz.ntmps37
  go_wp2_with fail
  refine (HC.out _ (Below.refl _ _)).mono ?_
  rintro e1 w1 ⟨rfl, hb1⟩
  go_wp2_with fail
  go_ret
  exact ⟨rfl, hb1⟩
set_option maxRecDepth 100000 in
set_option maxHeartbeats 2000000 in
theorem askedLiteral_any (d : Nat) (x : GLit) (A : Option Addr) (n c : Nat) (P : Option Addr) (pn pc : Nat) (Q : Option Addr) (qn qc : Nat) (w : World) (hk : LitAt d w w.heap.size x ⟨A, n, c⟩ ⟨P, pn, pc⟩ ⟨Q, qn, qc⟩) (hL : LexW w) (hS : ShowW w) (hlen : rightLit x = true → (litS x).length ≤ 1000000000000) :
    Calls Tryz.prog 110 #[.agg #[.int .i64 x.k, .string x.atom.rel, .slice A n c, .int .i64 x.op, .int .i64 x.l.op, .string x.l.t.x, .int .i64 x.l.t.v.k, .int .i64 x.l.t.v.n, .string x.l.t.v.s, .slice P pn pc, .int .i64 x.r.op, .string x.r.t.x, .int .i64 x.r.t.v.k, .int .i64 x.r.t.v.n, .string x.r.t.v.s, .slice Q qn qc, .int .i64 x.pos], .func (.func 111) #[] #[], .func (.func 112) #[] #[]] w (ShP (rightLit x) (litS x) w) := by
  have HR := Lib.hid (fun (V : World) (hb : Below w.heap.size w V) => rightLit_any d x ⟨A, n, c⟩ ⟨P, pn, pc⟩ ⟨Q, qn, qc⟩ V (hk.keep hb) (hL.on hb))
  have HT := Lib.hid (fun (hr : rightLit x = true) (V : World) (hb : Below w.heap.size w V) => literal_any d x A n c P pn pc Q qn qc V (hk.keep hb) hr (hS.on hb) (hlen hr))
  have hrb : (w.alloc (.cells #[.int .i64 x.k, .string x.atom.rel, .slice A n c, .int .i64 x.op, .int .i64 x.l.op, .string x.l.t.x, .int .i64 x.l.t.v.k, .int .i64 x.l.t.v.n, .string x.l.t.v.s, .slice P pn pc, .int .i64 x.r.op, .string x.r.t.x, .int .i64 x.r.t.v.k, .int .i64 x.r.t.v.n, .string x.r.t.v.s, .slice Q qn qc, .int .i64 x.pos] 35)).heap[w.heap.size]? = some (.cells #[.int .i64 x.k, .string x.atom.rel, .slice A n c, .int .i64 x.op, .int .i64 x.l.op, .string x.l.t.x, .int .i64 x.l.t.v.k, .int .i64 x.l.t.v.n, .string x.l.t.v.s, .slice P pn pc, .int .i64 x.r.op, .string x.r.t.x, .int .i64 x.r.t.v.k, .int .i64 x.r.t.v.n, .string x.r.t.v.s, .slice Q qn qc, .int .i64 x.pos] 35 (0, 0)) := heapNew rfl
  have hba : Below w.heap.size w (w.alloc (.cells #[.int .i64 x.k, .string x.atom.rel, .slice A n c, .int .i64 x.op, .int .i64 x.l.op, .string x.l.t.x, .int .i64 x.l.t.v.k, .int .i64 x.l.t.v.n, .string x.l.t.v.s, .slice P pn pc, .int .i64 x.r.op, .string x.r.t.x, .int .i64 x.r.t.v.k, .int .i64 x.r.t.v.n, .string x.r.t.v.s, .slice Q qn qc, .int .i64 x.pos] 35)) := belowA (Below.refl _ _) _
  obtain ⟨f0, f1, f2, f3, f4, f5, f6, f7, f8, f9, f10, f11, f12, f13, f14, f15, f16⟩ := facts17 hrb
  have Hrb := Lib.hid hrb
  clear hrb hL hS hlen
  generalize hr : rightLit x = r at *
  have HTr := Lib.hid (fun (h : r = true) => HT.out h)
  clear HT hr
  generalize litS x = s at *
  generalize hwb : (w.alloc (.cells #[.int .i64 x.k, .string x.atom.rel, .slice A n c, .int .i64 x.op, .int .i64 x.l.op, .string x.l.t.x, .int .i64 x.l.t.v.k, .int .i64 x.l.t.v.n, .string x.l.t.v.s, .slice P pn pc, .int .i64 x.r.op, .string x.r.t.x, .int .i64 x.r.t.v.k, .int .i64 x.r.t.v.n, .string x.r.t.v.s, .slice Q qn qc, .int .i64 x.pos] 35)) = wb at *
  have HB0 := Lib.hid hba
  clear hba
  go_enter Tryz.func110, Tryz.ntmps110
  go_wp2_with fail
  try simp only [hwb]
  clear hwb
  go_wp2_with fail
  refine (HR.out _ HB0.out).mono ?_
  rintro e1 w1 ⟨rfl, hb1⟩
  have HB1 := Lib.hid (below_next HB0.out hb1)
  obtain ⟨g0, g1, g2, g3, g4, g5, g6, g7, g8, g9, g10, g11, g12, g13, g14, g15, g16⟩ := facts17 ((hb1.block _ (Array.getElem?_eq_some_iff.1 Hrb.out).1).trans Hrb.out)
  clear hb1 f0 f1 f2 f3 f4 f5 f6 f7 f8 f9 f10 f11 f12 f13 f14 f15 f16
  cases r with
  | false =>
    go_wp2_with fail
    go_ret2
    exact ⟨rfl, HB1.out⟩
  | true =>
    go_wp2_with fail
    refine (HTr.out (by simp) _ HB1.out).mono ?_
    rintro e2 w2 ⟨rfl, hb2⟩
    go_wp2_with fail
    go_ret2
    exact ⟨rfl, below_next HB1.out hb2⟩
set_option maxRecDepth 100000 in
set_option maxHeartbeats 2000000 in
theorem topLiteral_any (d : Nat) (x : GLit) (A : Option Addr) (n c : Nat) (P : Option Addr) (pn pc : Nat) (Q : Option Addr) (qn qc : Nat) (w : World) (hk : LitAt d w w.heap.size x ⟨A, n, c⟩ ⟨P, pn, pc⟩ ⟨Q, qn, qc⟩) (hL : LexW w) (hS : ShowW w) (hlen : rightLit x = true → (litS x).length ≤ 1000000000000) :
    Calls Tryz.prog 33 #[.agg #[.int .i64 x.k, .string x.atom.rel, .slice A n c, .int .i64 x.op, .int .i64 x.l.op, .string x.l.t.x, .int .i64 x.l.t.v.k, .int .i64 x.l.t.v.n, .string x.l.t.v.s, .slice P pn pc, .int .i64 x.r.op, .string x.r.t.x, .int .i64 x.r.t.v.k, .int .i64 x.r.t.v.n, .string x.r.t.v.s, .slice Q qn qc, .int .i64 x.pos]] w (ShP (rightLit x) (litS x) w) := by
  have hba : Below w.heap.size w (w.alloc (.cells #[.int .i64 x.k, .string x.atom.rel, .slice A n c, .int .i64 x.op, .int .i64 x.l.op, .string x.l.t.x, .int .i64 x.l.t.v.k, .int .i64 x.l.t.v.n, .string x.l.t.v.s, .slice P pn pc, .int .i64 x.r.op, .string x.r.t.x, .int .i64 x.r.t.v.k, .int .i64 x.r.t.v.n, .string x.r.t.v.s, .slice Q qn qc, .int .i64 x.pos] 35)) := belowA (Below.refl _ _) _
  have hrb : (w.alloc (.cells #[.int .i64 x.k, .string x.atom.rel, .slice A n c, .int .i64 x.op, .int .i64 x.l.op, .string x.l.t.x, .int .i64 x.l.t.v.k, .int .i64 x.l.t.v.n, .string x.l.t.v.s, .slice P pn pc, .int .i64 x.r.op, .string x.r.t.x, .int .i64 x.r.t.v.k, .int .i64 x.r.t.v.n, .string x.r.t.v.s, .slice Q qn qc, .int .i64 x.pos] 35)).heap[w.heap.size]? = some (.cells #[.int .i64 x.k, .string x.atom.rel, .slice A n c, .int .i64 x.op, .int .i64 x.l.op, .string x.l.t.x, .int .i64 x.l.t.v.k, .int .i64 x.l.t.v.n, .string x.l.t.v.s, .slice P pn pc, .int .i64 x.r.op, .string x.r.t.x, .int .i64 x.r.t.v.k, .int .i64 x.r.t.v.n, .string x.r.t.v.s, .slice Q qn qc, .int .i64 x.pos] 35 (0, 0)) := heapNew rfl
  obtain ⟨f0, f1, f2, f3, f4, f5, f6, f7, f8, f9, f10, f11, f12, f13, f14, f15, f16⟩ := facts17 hrb
  have HC := Lib.hid (askedLiteral_any d x A n c P pn pc Q qn qc _ (hk.keep hba) (hL.on hba) (hS.on hba) hlen)
  have HB0 := Lib.hid hba
  clear hk hL hS hlen hrb hba
  generalize rightLit x = r at *
  generalize litS x = s at *
  generalize hwb : (w.alloc (.cells #[.int .i64 x.k, .string x.atom.rel, .slice A n c, .int .i64 x.op, .int .i64 x.l.op, .string x.l.t.x, .int .i64 x.l.t.v.k, .int .i64 x.l.t.v.n, .string x.l.t.v.s, .slice P pn pc, .int .i64 x.r.op, .string x.r.t.x, .int .i64 x.r.t.v.k, .int .i64 x.r.t.v.n, .string x.r.t.v.s, .slice Q qn qc, .int .i64 x.pos] 35)) = wb at *
  go_enter Tryz.func33, Tryz.ntmps33
  go_wp2_with fail
  try simp only [hwb]
  clear hwb
  go_wp2_with fail
  refine HC.out.mono ?_
  rintro e1 w1 ⟨rfl, hb1⟩
  cases r <;>
  · go_wp2_with fail
    go_ret2
    exact ⟨rfl, below_next HB0.out hb1⟩
set_option maxRecDepth 100000 in
set_option maxHeartbeats 2000000 in
theorem cloLiteral_any (d : Nat) (x : GLit) (A : Option Addr) (n c : Nat) (P : Option Addr) (pn pc : Nat) (Q : Option Addr) (qn qc : Nat) (h : Nat) (w : World) (hk : LitAt d w w.heap.size x ⟨A, n, c⟩ ⟨P, pn, pc⟩ ⟨Q, qn, qc⟩) (hr : rightLit x = true) (hlen : (litS x).length ≤ 1000000000000) (hrow : w.heap[h]? = some (.cells #[.int .i64 x.k, .string x.atom.rel, .slice A n c, .int .i64 x.op, .int .i64 x.l.op, .string x.l.t.x, .int .i64 x.l.t.v.k, .int .i64 x.l.t.v.n, .string x.l.t.v.s, .slice P pn pc, .int .i64 x.r.op, .string x.r.t.x, .int .i64 x.r.t.v.k, .int .i64 x.r.t.v.n, .string x.r.t.v.s, .slice Q qn qc, .int .i64 x.pos] 51 (0, 0))) :
    Calls Tryz.prog 40 #[.pointer (some ⟨h, 0, none⟩)] w (RetV (.string (bytes (litS x))) w) := by
  have HC := Lib.hid (fun (V : World) (hb : Below w.heap.size w V) => refLiteral_any d x A n c P pn pc Q qn qc V (hk.keep hb) hr hlen)
  obtain ⟨f0, f1, f2, f3, f4, f5, f6, f7, f8, f9, f10, f11, f12, f13, f14, f15, f16⟩ := facts17 hrow
  clear hk hr hlen hrow
  generalize litS x = s at *
  go_enter Tryz.func40, Tryz.ntmps40
  go_wp2_with fail
  refine (HC.out _ (Below.refl _ _)).mono ?_
  rintro e1 w1 ⟨rfl, hb1⟩
  go_wp2_with fail
  go_ret
  exact ⟨rfl, hb1⟩
end Go.Proofs.YtgabkmibfhmkmaaGreatDoor

namespace Go.Proofs.YtgabkmibfhmkmaaGreatDoor
open Go.RowKit
set_option maxRecDepth 100000 in
set_option maxHeartbeats 2000000 in
theorem oneRule_any (r : Bool) (s : List UInt8) (g : Nat) (w : World) (hc : r = true → ∀ V, Below w.heap.size w V → Calls Tryz.prog 37 #[.pointer (some ⟨g, 0, none⟩)] V (RetV (.string (bytes s)) V)) :
    Calls Tryz.prog 35 #[.string (if r then bytes s else ⟨#[]⟩), if r then .nilIface else .iface 66 (.int .i64 2), .bool r, .func (.func 37) #[] #[.pointer (some ⟨g, 0, none⟩)]] w (RetBool true w) := by
  cases r with
  | false =>
    simp only [Bool.false_eq_true, if_false]
    have HI := Lib.hid (is2_any w)
    clear hc
    go_enter Tryz.func35, Tryz.ntmps35
    go_wp2_with fail
    refine HI.out.mono ?_
    rintro e1 w1 ⟨rfl, hb1⟩
    go_wp2_with fail
    go_ret
    exact ⟨rfl, hb1⟩
  | true =>
    simp only [if_true]
    have HC := Lib.hid (hc rfl w (Below.refl _ _))
    have rs : ((bytes s).toList == (bytes s).toList) = true := by simp
    clear hc
    generalize bytes s = sb at *
    go_enter Tryz.func35, Tryz.ntmps35
    go_wp2_with fail
    refine HC.out.mono ?_
    rintro e1 w1 ⟨rfl, hb1⟩
    go_wp2_with fail
    go_ret
    exact ⟨rfl, hb1⟩
set_option maxRecDepth 100000 in
set_option maxHeartbeats 2000000 in
theorem oneLiteral_any (r : Bool) (s : List UInt8) (g : Nat) (w : World) (hc : r = true → ∀ V, Below w.heap.size w V → Calls Tryz.prog 40 #[.pointer (some ⟨g, 0, none⟩)] V (RetV (.string (bytes s)) V)) :
    Calls Tryz.prog 35 #[.string (if r then bytes s else ⟨#[]⟩), if r then .nilIface else .iface 66 (.int .i64 2), .bool r, .func (.func 40) #[] #[.pointer (some ⟨g, 0, none⟩)]] w (RetBool true w) := by
  cases r with
  | false =>
    simp only [Bool.false_eq_true, if_false]
    have HI := Lib.hid (is2_any w)
    clear hc
    go_enter Tryz.func35, Tryz.ntmps35
    go_wp2_with fail
    refine HI.out.mono ?_
    rintro e1 w1 ⟨rfl, hb1⟩
    go_wp2_with fail
    go_ret
    exact ⟨rfl, hb1⟩
  | true =>
    simp only [if_true]
    have HC := Lib.hid (hc rfl w (Below.refl _ _))
    have rs : ((bytes s).toList == (bytes s).toList) = true := by simp
    clear hc
    generalize bytes s = sb at *
    go_enter Tryz.func35, Tryz.ntmps35
    go_wp2_with fail
    refine HC.out.mono ?_
    rintro e1 w1 ⟨rfl, hb1⟩
    go_wp2_with fail
    go_ret
    exact ⟨rfl, hb1⟩
set_option maxRecDepth 100000 in
set_option maxHeartbeats 2000000 in
theorem oneExp_any (r : Bool) (s : List UInt8) (g : Nat) (w : World) (hc : r = true → ∀ V, Below w.heap.size w V → Calls Tryz.prog 43 #[.pointer (some ⟨g, 0, none⟩)] V (RetV (.string (bytes s)) V)) :
    Calls Tryz.prog 35 #[.string (if r then bytes s else ⟨#[]⟩), if r then .nilIface else .iface 66 (.int .i64 2), .bool r, .func (.func 43) #[] #[.pointer (some ⟨g, 0, none⟩)]] w (RetBool true w) := by
  cases r with
  | false =>
    simp only [Bool.false_eq_true, if_false]
    have HI := Lib.hid (is2_any w)
    clear hc
    go_enter Tryz.func35, Tryz.ntmps35
    go_wp2_with fail
    refine HI.out.mono ?_
    rintro e1 w1 ⟨rfl, hb1⟩
    go_wp2_with fail
    go_ret
    exact ⟨rfl, hb1⟩
  | true =>
    simp only [if_true]
    have HC := Lib.hid (hc rfl w (Below.refl _ _))
    have rs : ((bytes s).toList == (bytes s).toList) = true := by simp
    clear hc
    generalize bytes s = sb at *
    go_enter Tryz.func35, Tryz.ntmps35
    go_wp2_with fail
    refine HC.out.mono ?_
    rintro e1 w1 ⟨rfl, hb1⟩
    go_wp2_with fail
    go_ret
    exact ⟨rfl, hb1⟩
end Go.Proofs.YtgabkmibfhmkmaaGreatDoor

namespace Go.Proofs.YtgabkmibfhmkmaaGreatDoor
open Go.RowKit
set_option maxRecDepth 100000 in
theorem alV_any (s : ByteArray) (w : World) : Calls Tryz.prog 106 #[.string s] w (fun e w' => e = .returned (.agg #[.int .i64 0, .string s, .int .i64 0, .int .i64 0, .string ⟨#[]⟩, .slice none 0 0]) ∧ Below w.heap.size w w') := by
  go_enter Tryz.func106, Tryz.ntmps106
  go_wp2_with fail
  exact bodyPost_ret (v := .agg #[.int .i64 0, .string s, .int .i64 0, .int .i64 0, .string ⟨#[]⟩, .slice none 0 0]) (by simp [results, Tryz.results106, go_sem]) rfl ⟨rfl, belowA (Below.refl _ _) _⟩
set_option maxRecDepth 100000 in
theorem alN_any (k : Int) (w : World) : Calls Tryz.prog 107 #[.int .i64 k] w (fun e w' => e = .returned (.agg #[.int .i64 0, .string ⟨#[]⟩, .int .i64 1, .int .i64 k, .string ⟨#[]⟩, .slice none 0 0]) ∧ Below w.heap.size w w') := by
  go_enter Tryz.func107, Tryz.ntmps107
  go_wp2_with fail
  exact bodyPost_ret (v := .agg #[.int .i64 0, .string ⟨#[]⟩, .int .i64 1, .int .i64 k, .string ⟨#[]⟩, .slice none 0 0]) (by simp [results, Tryz.results107, go_sem]) rfl ⟨rfl, belowA (Below.refl _ _) _⟩
theorem fits0 : fits 0 := by unfold fits; decide
theorem fits1 : fits 1 := by unfold fits; decide
/-- an expression's cells at hand -/
structure ExpAt (d : Nat) (W : World) (x : GExp) (A : Option Addr) (n c : Nat) : Prop where
  fop : fits x.op
  fx : x.t.x.size ≤ reachN
  fv : x.t.v.ok
  kids : SliceIs (Enc.exp d) W W.heap.size A n c x.kids
theorem ExpAt.keep {d : Nat} {W W' : World} {x : GExp} {A : Option Addr} {n c : Nat} (h : ExpAt d W x A n c) (hb : Below W.heap.size W W') : ExpAt d W' x A n c := ⟨h.fop, h.fx, h.fv, h.kids.keep hb⟩
theorem pair_is {d : Nat} {W : World} {b : Nat} {T : TypeId} {x y : GExp} {A1 A2 : Option Addr} {n1 c1 n2 c2 : Nat} (hrow : W.heap[b]? = some (.cells (expC x A1 n1 c1 ++ expC y A2 n2 c2).toArray T (0, 0))) (hx : ExpAt d W x A1 n1 c1) (hy : ExpAt d W y A2 n2 c2) :
    SliceIs (Enc.exp (d + 1)) W W.heap.size (some ⟨b, 0, none⟩) 2 2 [x, y] := by
  refine ⟨rfl, by omega, by simp [maxLen], by simp [reachN], .inr ⟨b, 0, rfl, (Array.getElem?_eq_some_iff.1 hrow).1, fun i e hi => ?_⟩⟩
  match i, hi with
  | 0, hi =>
    simp at hi; subst hi
    refine ⟨expC x A1 n1 c1, ⟨A1, n1, c1, rfl, hx.fop, hx.fx, hx.fv, hx.kids⟩, fun j v hj => ?_⟩
    rw [Enc.exp_sz, cell_of_row _ _ _ _ _ _ hrow]
    have hl : j < 6 := (List.getElem?_eq_some_iff.1 hj).1
    simp only [Nat.zero_mul, Nat.zero_add, List.getElem?_toArray]
    rw [List.getElem?_append_left (show j < (expC x A1 n1 c1).length from hl)]
    exact hj
  | 1, hi =>
    simp at hi; subst hi
    refine ⟨expC y A2 n2 c2, ⟨A2, n2, c2, rfl, hy.fop, hy.fx, hy.fv, hy.kids⟩, fun j v hj => ?_⟩
    rw [Enc.exp_sz, cell_of_row _ _ _ _ _ _ hrow]
    simp only [Nat.one_mul, Nat.zero_add, List.getElem?_toArray]
    rw [List.getElem?_append_right (show (expC x A1 n1 c1).length ≤ 6 + j by show 6 ≤ 6 + j; omega)]
    rw [show 6 + j - (expC x A1 n1 c1).length = j by show 6 + j - 6 = j; omega]
    exact hj
  | i + 2, hi => simp at hi
def alX : GExp := .mk 0 ⟨⟨#[88]⟩, gv0⟩ []
def alY : GExp := .mk 0 ⟨⟨#[89]⟩, gv0⟩ []
def alN (k : Int) : GExp := .mk 0 ⟨⟨#[]⟩, ⟨1, k, ⟨#[]⟩⟩⟩ []
def alS : GExp := .mk 1 zT [alY, alN 1]
def alP : GExp := .mk 3 zT [alS, alN 2]
def alE : GExp := .mk 2 zT [alX, alP]
theorem alE_right : rightE 20 alE = true := by kernel_rfl
theorem alE_text : expS 20 alE = [88, 32, 45, 32, 40, 89, 32, 43, 32, 49, 41, 32, 42, 32, 50] := by kernel_rfl
theorem leaf_at {d : Nat} {W : World} {x : GExp} (h0 : x.kids = []) (h1 : fits x.op) (h2 : x.t.x.size ≤ reachN) (h3 : x.t.v.ok) : ExpAt d W x none 0 0 := ⟨h1, h2, h3, by rw [h0]; exact SliceIs.nil⟩
theorem gv0_ok : gv0.ok := ⟨by unfold fits; decide, by unfold fits; decide, Nat.zero_le _⟩
set_option maxRecDepth 100000 in
set_option maxHeartbeats 4000000 in
theorem alive7_any (w : World) (hL : LexW w) (hS : ShowW w) : Calls Tryz.prog 29 #[] w (RetBool true w) := by
  have HL := Lib.hid (fun (W : World) (hb : Below w.heap.size w W) => hL.on hb)
  have HS := Lib.hid (fun (W : World) (hb : Below w.heap.size w W) => hS.on hb)
  clear hL hS
  go_enter Tryz.func29, Tryz.ntmps29
  go_wp2_with fail
  refine (alV_any _ _).mono ?_
  rintro e w1 ⟨rfl, hb1⟩
  go_wp2_with fail
  refine (alV_any _ _).mono ?_
  rintro e w2 ⟨rfl, hb2⟩
  go_wp2_with fail
  refine (alN_any _ _).mono ?_
  rintro e w3 ⟨rfl, hb3⟩
  have HB3 := Lib.hid (below_next (below_next hb1 hb2) hb3)
  clear hb1 hb2 hb3
  go_wp2_with fail
  refine (alN_any _ _).mono ?_
  rintro e w4 ⟨rfl, hb4⟩
  have hr1 : (w3.alloc (.cells (expC alY none 0 0 ++ expC (alN 1) none 0 0).toArray 33)).heap[w3.heap.size]? = some (.cells (expC alY none 0 0 ++ expC (alN 1) none 0 0).toArray 33 (0, 0)) := heapNew rfl
  have HR1 := Lib.hid ((hb4.block _ (Array.getElem?_eq_some_iff.1 hr1).1).trans hr1)
  have HB4 := Lib.hid (below_next (below_next HB3.out (belowA (Below.refl _ _) _)) hb4)
  clear hb4 hr1
  go_wp2_with fail
  have b4 : Below w4.heap.size w4 ((w4.alloc (.cells (expC alS (some ⟨w3.heap.size, 0, none⟩) 2 2 ++ expC (alN 2) none 0 0).toArray 33)).alloc (.cells (expC alX none 0 0 ++ expC alP (some ⟨w4.heap.size, 0, none⟩) 2 2).toArray 33)) := belowA (belowA (Below.refl _ _) _) _
  have r1 := (b4.block _ (Array.getElem?_eq_some_iff.1 HR1.out).1).trans HR1.out
  have r2 : ((w4.alloc (.cells (expC alS (some ⟨w3.heap.size, 0, none⟩) 2 2 ++ expC (alN 2) none 0 0).toArray 33)).alloc (.cells (expC alX none 0 0 ++ expC alP (some ⟨w4.heap.size, 0, none⟩) 2 2).toArray 33)).heap[w4.heap.size]? = some (.cells (expC alS (some ⟨w3.heap.size, 0, none⟩) 2 2 ++ expC (alN 2) none 0 0).toArray 33 (0, 0)) := heapOld (heapNew rfl)
  have r3 : ((w4.alloc (.cells (expC alS (some ⟨w3.heap.size, 0, none⟩) 2 2 ++ expC (alN 2) none 0 0).toArray 33)).alloc (.cells (expC alX none 0 0 ++ expC alP (some ⟨w4.heap.size, 0, none⟩) 2 2).toArray 33)).heap[w4.heap.size + 1]? = some (.cells (expC alX none 0 0 ++ expC alP (some ⟨w4.heap.size, 0, none⟩) 2 2).toArray 33 (0, 0)) := heapNew (by simp)
  have z0 : (0 : Nat) ≤ reachN := Nat.zero_le _
  have lf : ∀ (d : Nat) (W : World) (k : Int), fits k → ExpAt d W (alN k) none 0 0 := fun d W k hk => leaf_at rfl fits0 z0 ⟨fits1, hk, z0⟩
  have lv : ∀ (d : Nat) (W : World) (s : ByteArray), s.size ≤ reachN → ExpAt d W (.mk 0 ⟨s, gv0⟩ []) none 0 0 := fun d W s hs => leaf_at rfl fits0 hs gv0_ok
  have s1 := pair_is r1 (lv 0 _ ⟨#[89]⟩ (by simp [reachN, ByteArray.size])) (lf 0 _ 1 (by unfold fits; decide))
  have s2 := pair_is r2 (x := alS) (y := alN 2) ⟨by unfold fits alS; decide, z0, gv0_ok, s1⟩ (lf 1 _ 2 (by unfold fits; decide))
  have s3 := pair_is r3 (x := alX) (y := alP) (lv 2 _ ⟨#[88]⟩ (by simp [reachN, ByteArray.size])) ⟨by unfold fits alP; decide, z0, gv0_ok, s2⟩
  have HC := Lib.hid (topExp_any 3 alE (some ⟨w4.heap.size + 1, 0, none⟩) 2 2 _ s3 z0 gv0_ok (HL.out _ (below_next HB4.out b4)) (HS.out _ (below_next HB4.out b4)) (fun _ => by rw [alE_text]; simp))
  unfold ShP at HC
  rw [alE_right, alE_text] at HC
  have HBe := Lib.hid (below_next HB4.out b4)
  clear r1 r2 r3 s1 s2 s3 lf lv z0 b4 HR1 HB4 HB3
  refine HC.out.mono ?_
  rintro e w5 ⟨rfl, hb5⟩
  have hB := below_next HBe.out hb5
  clear hb5 HBe HC
  simp only [if_true]
  have rs : ((bytes [88, 32, 45, 32, 40, 89, 32, 43, 32, 49, 41, 32, 42, 32, 50]).toList == [88, 32, 45, 32, 40, 89, 32, 43, 32, 49, 41, 32, 42, 32, 50]) = true := by rw [bytes_list]; simp
  go_wp2_with fail
  go_ret
  exact ⟨rfl, hB⟩
end Go.Proofs.YtgabkmibfhmkmaaGreatDoor

namespace Go.Proofs.YtgabkmibfhmkmaaGreatDoor
open Go.RowKit
theorem SliceIs.up {α : Type} {E E' : Enc α} {w : World} {B : Nat} {A : Option Addr} {n c : Nat} {l : List α} (hs : E'.sz = E.sz) (h : ∀ cs x, E.ok w B cs x → E'.ok w B cs x) (hl : SliceIs E w B A n c l) : SliceIs E' w B A n c l := by
  obtain ⟨h1, h2, h3, hr, h4⟩ := hl
  refine ⟨h1, h2, h3, hr, ?_⟩
  rcases h4 with h4 | ⟨b, o, hA, hb, hc⟩
  · exact .inl h4
  · refine .inr ⟨b, o, hA, hb, fun i x hx => ?_⟩
    obtain ⟨cs, hok, hcs⟩ := hc i x hx
    exact ⟨cs, h cs x hok, by rw [hs]; exact hcs⟩
theorem exp_up1 : ∀ (d : Nat) (w : World) (B : Nat) (cs : List Value) (x : GExp), (Enc.exp d).ok w B cs x → (Enc.exp (d + 1)).ok w B cs x
  | 0, _, _, _, _, h => h.elim
  | d + 1, w, B, cs, x, h => by
    obtain ⟨A, n, c, rfl, h1, h2, h3, h4⟩ := h
    exact ⟨A, n, c, rfl, h1, h2, h3, h4.up (by rw [Enc.exp_sz, Enc.exp_sz]) (fun cs x => exp_up1 d w B cs x)⟩
theorem exp_up {w : World} {B : Nat} {cs : List Value} {x : GExp} : ∀ (k d : Nat), (Enc.exp d).ok w B cs x → (Enc.exp (d + k)).ok w B cs x
  | 0, _, h => h
  | k + 1, d, h => exp_up1 (d + k) w B cs x (exp_up k d h)
theorem kids_up {d d' : Nat} {w : World} {B : Nat} {A : Option Addr} {n c : Nat} {l : List GExp} (hd : d ≤ d') (h : SliceIs (Enc.exp d) w B A n c l) : SliceIs (Enc.exp d') w B A n c l :=
  h.up (by rw [Enc.exp_sz, Enc.exp_sz]) (fun cs x hx => by
    have := exp_up (d' - d) d hx
    rwa [show d + (d' - d) = d' by omega] at this)
theorem LitAt.up {d d' : Nat} {w : World} {B : Nat} {x : GLit} {a p q : Hd} (hd : d ≤ d') (h : LitAt d w B x a p q) : LitAt d' w B x a p q :=
  ⟨h.k, h.op, h.pos, h.rel, h.args, h.lop, h.lx, h.lv, kids_up hd h.lk, h.rop, h.rx, h.rv, kids_up hd h.rk⟩
theorem two_lits {d : Nat} {W : World} {b : Nat} {T : TypeId} {x y : GLit} {a p q a' p' q' : Hd} (hrow : W.heap[b]? = some (.cells (litC x a p q ++ litC y a' p' q').toArray T (0, 0))) (hx : LitAt d W W.heap.size x a p q) (hy : LitAt d W W.heap.size y a' p' q') :
    SliceIs (Enc.lit d) W W.heap.size (some ⟨b, 0, none⟩) 2 2 [x, y] := by
  refine ⟨rfl, by omega, by simp [maxLen], by simp [reachN], .inr ⟨b, 0, rfl, (Array.getElem?_eq_some_iff.1 hrow).1, fun i e hi => ?_⟩⟩
  match i, hi with
  | 0, hi =>
    simp at hi; subst hi
    refine ⟨litC x a p q, ⟨a, p, q, rfl, hx⟩, fun j v hj => ?_⟩
    show W.cell? ⟨b, 0 + 0 * 17 + j, none⟩ = some v
    rw [cell_of_row _ _ _ _ _ _ hrow]
    have hl : j < 17 := (List.getElem?_eq_some_iff.1 hj).1
    simp only [Nat.zero_mul, Nat.zero_add, List.getElem?_toArray]
    rw [List.getElem?_append_left (show j < (litC x a p q).length from hl)]
    exact hj
  | 1, hi =>
    simp at hi; subst hi
    refine ⟨litC y a' p' q', ⟨a', p', q', rfl, hy⟩, fun j v hj => ?_⟩
    show W.cell? ⟨b, 0 + 1 * 17 + j, none⟩ = some v
    rw [cell_of_row _ _ _ _ _ _ hrow]
    simp only [Nat.one_mul, Nat.zero_add, List.getElem?_toArray]
    rw [List.getElem?_append_right (show (litC x a p q).length ≤ 17 + j by show 17 ≤ 17 + j; omega)]
    rw [show 17 + j - (litC x a p q).length = j by show 17 + j - 17 = j; omega]
    exact hj
  | i + 2, hi => simp at hi
def zE : GExp := .mk 0 zT []
/-- a literal that holds an expression alone -/
def litOf (x : GExp) : GLit := ⟨0, ⟨⟨#[]⟩, []⟩, 0, x, zE, 0⟩
/-- a rule whose body is two literals -/
def ruleOf (l m : GLit) : GRule := ⟨⟨⟨#[]⟩, []⟩, 0, 0, [l, m], 0⟩
theorem szOf_pos {l : GLit} {x : GExp} {v : Int} (h : 0 ≤ szR (ruleOf l (litOf x)) v) : (0 ≤ szLit l (v - 1) ∧ szLit l (v - 1) ≤ v) ∧ ∃ u : Int, u ≤ v ∧ 0 ≤ szE x u := by
  unfold szR ruleOf szA at h
  simp only [szT, szB] at h
  have e0 : ((⟨#[]⟩ : ByteArray).size / 50 : Nat) = 0 := rfl
  rw [e0] at h
  simp only [Int.ofNat_zero, Int.add_zero] at h
  split at h
  · omega
  · rename_i h1
    split at h
    · omega
    · rename_i h2
      have h3 := szLit_le l (v - 1)
      refine ⟨⟨by omega, by omega⟩, szA (litOf x).atom (szLit l (v - 1)), ?_, ?_⟩
      · have := szA_le (litOf x).atom (szLit l (v - 1)); omega
      · have h' : 0 ≤ szE zE (szE x (szA (litOf x).atom (szLit l (v - 1)))) := h
        have := szE_pos _ _ h'
        omega
end Go.Proofs.YtgabkmibfhmkmaaGreatDoor

namespace Go.Proofs.YtgabkmibfhmkmaaGreatDoor
open Go.RowKit
/-- a box: the allocating operation, the storing one (st: is it ahead of the region's last?), the call's; the slots of the box and of the call's value; type, zero cells; what is known of the value: it lies in blocks from lo to hi -/
structure BoxSpec where
  ia : Nat
  is : Nat
  ic : Nat
  d : Nat
  c : Nat
  st : Bool
  T : TypeId
  zs : Array Value
  P : Array Value → Nat → Nat → World → Prop
structure Apart (n : Nat) (sp : Nat → BoxSpec) : Prop where
  aa : ∀ k, k < n → ∀ j, j < n → k ≠ j → (sp k).ia ≠ (sp j).ia
  ac : ∀ k, k < n → ∀ j, j < n → (sp k).ia ≠ (sp j).ic
  ai : ∀ k, k < n → ∀ j, j < n → (sp k).ia ≠ (sp j).is
  cc : ∀ k, k < n → ∀ j, j < n → k ≠ j → (sp k).ic ≠ (sp j).ic
  ci : ∀ k, k < n → ∀ j, j < n → (sp k).ic ≠ (sp j).is
  ii : ∀ k, k < n → ∀ j, j < n → k ≠ j → (sp k).is ≠ (sp j).is
  dd : ∀ k, k < n → ∀ j, j < n → k ≠ j → (sp k).d ≠ (sp j).d
  dc : ∀ k, k < n → ∀ j, j < n → (sp k).d ≠ (sp j).c
  ee : ∀ k, k < n → ∀ j, j < n → k ≠ j → (sp k).c ≠ (sp j).c
/-- the word, its witnesses named -/
structure BoxAt (n : Nat) (sp : Nat → BoxSpec) (B : Nat) (l : Nat → Bool) (t : Array Value) (W : World) (g lo hi : Nat → Nat) (v : Nat → Array Value) : Prop where
  box : ∀ k, k < n → l (sp k).ia = true → t[(sp k).d]? = some (.pointer (some ⟨g k, 0, none⟩)) ∧ B ≤ g k ∧ g k < W.heap.size ∧ W.heap[g k]? = some (.cells (if (sp k).st && l (sp k).is then v k else (sp k).zs) (sp k).T (0, 0))
  two : ∀ k, k < n → ∀ j, j < n → k ≠ j → l (sp k).ia = true → l (sp j).ia = true → g k ≠ g j
  val : ∀ k, k < n → l (sp k).ic = true → t[(sp k).c]? = some (.agg (v k)) ∧ hi k ≤ W.heap.size ∧ (v k).size = (sp k).zs.size ∧ (sp k).P (v k) (lo k) (hi k) W
  far : ∀ k, k < n → ∀ j, j < n → l (sp k).ic = true → l (sp j).ia = true → ¬ (lo k ≤ g j ∧ g j < hi k)
  ord : ∀ k, k < n → (sp k).st = true → l (sp k).is = true → l (sp k).ia = true ∧ l (sp k).ic = true
def boxJ (n : Nat) (sp : Nat → BoxSpec) (B : Nat) (l : Nat → Bool) (t : Array Value) (W : World) : Prop := ∃ g lo hi v, BoxAt n sp B l t W g lo hi v
/-- what is known of a value stays while its blocks stay -/
def Firm (n : Nat) (sp : Nat → BoxSpec) : Prop := ∀ k, k < n → ∀ (v : Array Value) (lo hi : Nat) (W W' : World), (sp k).P v lo hi W → (∀ b, lo ≤ b → b < hi → W'.heap[b]? = W.heap[b]?) → (sp k).P v lo hi W'
section
variable {n : Nat} {sp : Nat → BoxSpec} {B : Nat} {l l' : Nat → Bool} {a : Act} {W W' : World}
theorem put_other {o : Option Tmp} {v : Value} {d : Nat} (hd : o ≠ some d) : (a.put o v).tmps[d]? = a.tmps[d]? := by
  cases o with
  | none => rfl
  | some q => simp only [Act.put]; exact Array.getElem?_setIfInBounds_ne (by intro e; exact hd (by rw [e]))
theorem boxJ_nil (t : Array Value) (hl : ∀ j, l j = false) : boxJ n sp B l t W :=
  ⟨fun _ => 0, fun _ => 0, fun _ => 0, fun _ => #[], ⟨(fun k _ h => absurd h (by simp [hl])), (fun k _ j _ _ h => absurd h (by simp [hl])), (fun k _ h => absurd h (by simp [hl])), (fun k _ j _ h => absurd h (by simp [hl])), (fun k _ _ h => absurd h (by simp [hl]))⟩⟩
theorem boxJ_val {o : Option Tmp} {v : Value} {i : Nat} (h : boxJ n sp B l a.tmps W) (hi : ∀ k, k < n → i ≠ (sp k).ia ∧ i ≠ (sp k).ic ∧ i ≠ (sp k).is) (ho : ∀ k, k < n → o ≠ some (sp k).d ∧ o ≠ some (sp k).c) (_ : l' i = true) (hl : ∀ j, j ≠ i → l' j = l j) : boxJ n sp B l' (a.put o v).tmps W := by
  obtain ⟨g, lo, hi', vv, h1, h2, h3, h4, h5⟩ := h
  have ea : ∀ k, k < n → l' (sp k).ia = l (sp k).ia := fun k hk => hl _ (Ne.symm (hi k hk).1)
  have ec : ∀ k, k < n → l' (sp k).ic = l (sp k).ic := fun k hk => hl _ (Ne.symm (hi k hk).2.1)
  have ei : ∀ k, k < n → l' (sp k).is = l (sp k).is := fun k hk => hl _ (Ne.symm (hi k hk).2.2)
  refine ⟨g, lo, hi', vv, fun k hk h => ?_, fun k hk j hj hkj h h' => ?_, fun k hk h => ?_, fun k hk j hj h h' => ?_, fun k hk hs h => ?_⟩
  · rw [ea k hk] at h; rw [ei k hk, put_other (ho k hk).1]; exact h1 k hk h
  · rw [ea k hk] at h; rw [ea j hj] at h'; exact h2 k hk j hj hkj h h'
  · rw [ec k hk] at h; rw [put_other (ho k hk).2]; exact h3 k hk h
  · rw [ec k hk] at h; rw [ea j hj] at h'; exact h4 k hk j hj h h'
  · rw [ei k hk] at h; rw [ea k hk, ec k hk]; exact h5 k hk hs h
theorem boxJ_call (hA : Apart n sp) (hF : Firm n sp) (h : boxJ n sp B l a.tmps W) {k : Nat} (hk : k < n) (hc : (sp k).c < a.tmps.size) (hof : l (sp k).ic = false) (hb : Below W.heap.size W W') {v : Array Value} (hv : v.size = (sp k).zs.size) (hP : (sp k).P v W.heap.size W'.heap.size W')
    (_ : l' (sp k).ic = true) (hl : ∀ j, j ≠ (sp k).ic → l' j = l j) : boxJ n sp B l' (a.put (some (sp k).c) (.agg v)).tmps W' := by
  obtain ⟨g, lo, hi, vv, h1, h2, h3, h4, h5⟩ := h
  have ea : ∀ j, j < n → l' (sp j).ia = l (sp j).ia := fun j hj => hl _ (hA.ac j hj k hk)
  have ei : ∀ j, j < n → l' (sp j).is = l (sp j).is := fun j hj => hl _ (Ne.symm (hA.ci k hk j hj))
  have ec : ∀ j, j < n → j ≠ k → l' (sp j).ic = l (sp j).ic := fun j hj hjk => hl _ (hA.cc j hj k hk hjk)
  have hs0 : ((sp k).st && l (sp k).is) = false := by
    cases e1 : (sp k).st
    · rfl
    · cases e2 : l (sp k).is
      · rfl
      · have := (h5 k hk e1 e2).2; rw [hof] at this; cases this
  refine ⟨g, fun j => if j = k then W.heap.size else lo j, fun j => if j = k then W'.heap.size else hi j, fun j => if j = k then v else vv j, fun j hj h => ?_, fun i hi' j hj hij h h' => ?_, fun j hj h => ?_, fun i hi' j hj h h' => ?_, fun j hj hs h => ?_⟩
  · rw [ea j hj] at h
    obtain ⟨k1, k2, k3, k4⟩ := h1 j hj h
    refine ⟨?_, k2, Nat.lt_of_lt_of_le k3 hb.size, ?_⟩
    · rw [put_other (by intro e; injection e with e; exact hA.dc j hj k hk e.symm)]; exact k1
    · rw [ei j hj]
      refine (hb.block _ k3).trans (k4.trans ?_)
      by_cases hjk : j = k
      · subst hjk; simp only [hs0, if_false, Bool.false_eq_true]
      · simp only [if_neg hjk]
  · rw [ea i hi'] at h; rw [ea j hj] at h'; exact h2 i hi' j hj hij h h'
  · by_cases hjk : j = k
    · subst hjk
      simp only [if_true]
      exact ⟨by simp [Act.put, hc], Nat.le_refl _, hv, hP⟩
    · rw [ec j hj hjk] at h
      obtain ⟨k1, k2, k3, k4⟩ := h3 j hj h
      simp only [if_neg hjk]
      refine ⟨?_, Nat.le_trans k2 hb.size, k3, hF j hj _ _ _ _ _ k4 (fun b _ hb' => hb.block b (by omega))⟩
      rw [put_other (by intro e; injection e with e; exact hA.ee k hk j hj (Ne.symm hjk) e)]; exact k1
  · rw [ea j hj] at h'
    by_cases hik : i = k
    · subst hik
      simp only [if_true]
      have := (h1 j hj h').2.2.1
      omega
    · rw [ec i hi' hik] at h
      simp only [if_neg hik]
      exact h4 i hi' j hj h h'
  · rw [ei j hj] at h
    obtain ⟨q1, q2⟩ := h5 j hj hs h
    rw [ea j hj]
    refine ⟨q1, ?_⟩
    by_cases hjk : j = k
    · subst hjk; assumption
    · rw [ec j hj hjk]; exact q2
theorem boxJ_alloc (hA : Apart n sp) (hF : Firm n sp) (h : boxJ n sp B l a.tmps W) {k : Nat} (hk : k < n) (hd : (sp k).d < a.tmps.size) (hB : B ≤ W.heap.size) (hof : l (sp k).ia = false)
    (_ : l' (sp k).ia = true) (hl : ∀ j, j ≠ (sp k).ia → l' j = l j) : boxJ n sp B l' (a.put (some (sp k).d) (.pointer (some ⟨W.heap.size, 0, none⟩))).tmps (W.alloc (.cells (sp k).zs (sp k).T)) := by
  obtain ⟨g, lo, hi, vv, h1, h2, h3, h4, h5⟩ := h
  have ea : ∀ j, j < n → j ≠ k → l' (sp j).ia = l (sp j).ia := fun j hj hjk => hl _ (hA.aa j hj k hk hjk)
  have ei : ∀ j, j < n → l' (sp j).is = l (sp j).is := fun j hj => hl _ (Ne.symm (hA.ai k hk j hj))
  have ec : ∀ j, j < n → l' (sp j).ic = l (sp j).ic := fun j hj => hl _ (Ne.symm (hA.ac k hk j hj))
  have hs0 : ((sp k).st && l (sp k).is) = false := by
    cases e1 : (sp k).st
    · rfl
    · cases e2 : l (sp k).is
      · rfl
      · have := (h5 k hk e1 e2).1; rw [hof] at this; cases this
  have hb : Below W.heap.size W (W.alloc (.cells (sp k).zs (sp k).T)) := belowA (Below.refl _ _) _
  refine ⟨fun j => if j = k then W.heap.size else g j, lo, hi, vv, fun j hj h => ?_, fun i hi' j hj hij h h' => ?_, fun j hj h => ?_, fun i hi' j hj h h' => ?_, fun j hj hs h => ?_⟩
  · by_cases hjk : j = k
    · subst hjk
      simp only [if_true]
      refine ⟨by simp [Act.put, hd], hB, by simp, ?_⟩
      rw [ei j hj, hs0]
      exact heapNew rfl
    · rw [ea j hj hjk] at h
      obtain ⟨k1, k2, k3, k4⟩ := h1 j hj h
      simp only [if_neg hjk]
      refine ⟨?_, k2, Nat.lt_of_lt_of_le k3 hb.size, ?_⟩
      · rw [put_other (by intro e; injection e with e; exact hA.dd k hk j hj (Ne.symm hjk) e)]; exact k1
      · rw [ei j hj]; exact (hb.block _ k3).trans k4
  · by_cases hik : i = k
    · subst hik
      have hjk : j ≠ i := Ne.symm hij
      rw [ea j hj hjk] at h'
      simp only [if_true, if_neg hjk]
      have := (h1 j hj h').2.2.1
      omega
    · by_cases hjk : j = k
      · subst hjk
        rw [ea i hi' hik] at h
        simp only [if_true, if_neg hik]
        have := (h1 i hi' h).2.2.1
        omega
      · rw [ea i hi' hik] at h; rw [ea j hj hjk] at h'
        simp only [if_neg hik, if_neg hjk]
        exact h2 i hi' j hj hij h h'
  · rw [ec j hj] at h
    obtain ⟨k1, k2, k3, k4⟩ := h3 j hj h
    refine ⟨?_, Nat.le_trans k2 hb.size, k3, hF j hj _ _ _ _ _ k4 (fun b _ hb' => hb.block b (by omega))⟩
    rw [put_other (by intro e; injection e with e; exact hA.dc k hk j hj e)]; exact k1
  · rw [ec i hi'] at h
    by_cases hjk : j = k
    · subst hjk
      simp only [if_true]
      have := (h3 i hi' h).2.1
      omega
    · rw [ea j hj hjk] at h'
      simp only [if_neg hjk]
      exact h4 i hi' j hj h h'
  · rw [ei j hj] at h
    obtain ⟨q1, q2⟩ := h5 j hj hs h
    rw [ec j hj]
    refine ⟨?_, q2⟩
    by_cases hjk : j = k
    · subst hjk; assumption
    · rw [ea j hj hjk]; exact q1
/-- a box that is filled: the row ahead, and the word behind -/
theorem boxJ_store (hA : Apart n sp) (hF : Firm n sp) (h : boxJ n sp B l a.tmps W) {k : Nat} (hk : k < n) (hst : (sp k).st = true) (ha : l (sp k).ia = true) (hc : l (sp k).ic = true) (hof : l (sp k).is = false) :
    ∃ (g : Nat) (v : Array Value), a.tmps[(sp k).d]? = some (.pointer (some ⟨g, 0, none⟩)) ∧ a.tmps[(sp k).c]? = some (.agg v) ∧ B ≤ g ∧ v.size = (sp k).zs.size ∧ W.heap[g]? = some (.cells (sp k).zs (sp k).T (0, 0)) ∧ (∃ lo hi, (sp k).P v lo hi W) ∧
      ∀ (u : Value) (l' : Nat → Bool), l' (sp k).is = true → (∀ j, j ≠ (sp k).is → l' j = l j) → boxJ n sp B l' (a.put none u).tmps (W.setRow g v) := by
  obtain ⟨g, lo, hi, vv, h1, h2, h3, h4, h5⟩ := h
  obtain ⟨b1, b2, b3, b4⟩ := h1 k hk ha
  obtain ⟨v1, v2, v3, v4⟩ := h3 k hk hc
  rw [hof, Bool.and_false] at b4
  refine ⟨g k, vv k, b1, v1, b2, v3, b4, ⟨_, _, v4⟩, fun u l' hl1 hl => ?_⟩
  have ea : ∀ j, j < n → l' (sp j).ia = l (sp j).ia := fun j hj => hl _ (hA.ai j hj k hk)
  have ec : ∀ j, j < n → l' (sp j).ic = l (sp j).ic := fun j hj => hl _ (hA.ci j hj k hk)
  have ei : ∀ j, j < n → j ≠ k → l' (sp j).is = l (sp j).is := fun j hj hjk => hl _ (hA.ii j hj k hk hjk)
  refine ⟨g, lo, hi, vv, fun j hj h => ?_, fun i hi' j hj hij h h' => ?_, fun j hj h => ?_, fun i hi' j hj h h' => ?_, fun j hj hs h => ?_⟩
  · rw [ea j hj] at h
    obtain ⟨k1, k2, k3, k4⟩ := h1 j hj h
    refine ⟨k1, k2, by rw [setRow_size]; exact k3, ?_⟩
    by_cases hjk : j = k
    · subst hjk
      rw [hl1, hst]
      exact setRow_at b4
    · rw [ei j hj hjk, setRow_ne (h2 j hj k hk hjk h ha)]; exact k4
  · rw [ea i hi'] at h; rw [ea j hj] at h'; exact h2 i hi' j hj hij h h'
  · rw [ec j hj] at h
    obtain ⟨k1, k2, k3, k4⟩ := h3 j hj h
    have := h4 j hj k hk h ha
    refine ⟨k1, by rw [setRow_size]; exact k2, k3, hF j hj _ _ _ _ _ k4 (fun b hb1 hb2 => setRow_ne (fun e => this ⟨e ▸ hb1, e ▸ hb2⟩))⟩
  · rw [ec i hi'] at h; rw [ea j hj] at h'; exact h4 i hi' j hj h h'
  · by_cases hjk : j = k
    · subst hjk
      rw [ea j hj, ec j hj]; exact ⟨ha, hc⟩
    · rw [ei j hj hjk] at h
      rw [ea j hj, ec j hj]; exact h5 j hj hs h
end
end Go.Proofs.YtgabkmibfhmkmaaGreatDoor
