/- Merged by my own program of: ShowRR, ShowQ, ShowOne, ShowAl, ShowSz, BoxJ, CpLit, CpRule. -/
import Derived.Test.YtplekbpmfaghbaaGreatDoorMt2
import Derived.Test.YtplekbpmfaghbaaGreatDoorTSize
import Derived.Test.YtplekbpmfaghbaaGreatDoorMt1
import Derived.Test.YtplekbpmfaghbaaGreatDoorTwoJ
import Derived.Test.YtplekbpmfaghbaaGreatDoorPgm
/- The document's Rule: a text. -/
namespace Go.Proofs.YtplekbpmfaghbaaGreatDoor
open Go.RowKit

def bodyS (l : List GLit) (k : Nat) : List UInt8 := if k = 0 then [] else [32, 58, 45, 32] ++ Lib.join ((l.take k).map litS) sep2
theorem bodyS_step {l : List GLit} {k : Nat} {y : GLit} (h : l[k]? = some y) : bodyS l (k + 1) = bodyS l k ++ (if k = 0 then [32, 58, 45, 32] else sep2) ++ litS y := by
  unfold bodyS
  rw [if_neg (by omega), List.take_add_one, h]
  simp only [Option.toList_some, List.map_append, List.map_cons, List.map_nil]
  by_cases hk : k = 0
  · subst hk
    simp only [List.take_zero, List.map_nil, List.nil_append, if_true, join_one]
  · rw [if_neg hk, if_neg hk, join_snoc]
    · simp only [List.append_assoc]
    · intro e
      have h1 := congrArg List.length e
      have hkl : k < l.length := (List.getElem?_eq_some_iff.1 h).1
      rw [List.length_map, List.length_take] at h1
      simp only [List.length_nil] at h1
      omega
theorem bodyS_grow {l : List GLit} : ∀ (d k : Nat), k + d ≤ l.length → (bodyS l k).length ≤ (bodyS l (k + d)).length
  | 0, k, _ => Nat.le_refl _
  | d + 1, k, h => by
    have h1 := bodyS_grow (l := l) d k (by omega)
    have h2 := bodyS_step (List.getElem?_eq_getElem (l := l) (i := k + d) (by omega))
    rw [show k + (d + 1) = k + d + 1 from rfl, h2]
    simp only [List.length_append]
    omega
theorem bodyS_full (l : List GLit) : bodyS l l.length = (if l = [] then [] else [32, 58, 45, 32] ++ Lib.join (l.map litS) sep2) := by
  unfold bodyS
  by_cases h : l = []
  · subst h; rfl
  · rw [if_neg h, if_neg (fun e => h (List.eq_nil_of_length_eq_zero e)), List.take_length]

set_option maxRecDepth 100000 in
set_option maxHeartbeats 8000000 in
theorem refRule_any (d : Nat) (x : GRule) (A : Option Addr) (an ac : Nat) (B : Option Addr) (bn bc : Nat) (w : World) (h : RuleAt d w w.heap.size x ⟨A, an, ac⟩ ⟨B, bn, bc⟩) (hr : rightRule x = true) (hlen : (ruleS x).length ≤ 1000000000) :
    Calls Tryz.prog 23 #[.agg #[.string x.head.rel, .slice A an ac, .int .i64 x.agg, .int .i64 x.col, .slice B bn bc, .int .i64 x.pos]] w (RetV (.string (bytes (ruleS x))) w) := by
  have mixed : Tryz.prog.follows .mixedOrders = true := by kernel_rfl
  obtain ⟨S, HS⟩ : ∃ S, Hid (S = ruleS x) := ⟨_, rfl⟩
  rw [← HS.out] at hlen ⊢
  obtain ⟨⟨g, hg, hg4⟩, h6, h8, hall⟩ := rightRule_parts hr
  have Hlb : Hid (x.body.length = bn) := h.body.1
  have HE : Hid (S = atomS x.head (g : Int) x.col ++ bodyS x.body bn ++ [46]) := by show _ = _; rw [HS.out, ← hg, ← Hlb.out, bodyS_full]; rfl
  rw [hg]
  have hrb : (w.alloc (.cells #[.string x.head.rel, .slice A an ac, .int .i64 (g : Int), .int .i64 x.col, .slice B bn bc, .int .i64 x.pos] 46)).heap[w.heap.size]? = some (.cells #[.string x.head.rel, .slice A an ac, .int .i64 (g : Int), .int .i64 x.col, .slice B bn bc, .int .i64 x.pos] 46 (0, 0)) := heapNew rfl
  have hba : Below w.heap.size w (w.alloc (.cells #[.string x.head.rel, .slice A an ac, .int .i64 (g : Int), .int .i64 x.col, .slice B bn bc, .int .i64 x.pos] 46)) := belowA (Below.refl _ _) _
  have HH := Lib.hid (h.keep hba)
  have Hba := Lib.hid hba
  have hbn := h.body.bound
  dsimp only at hbn
  have hb8 : bn ≤ 8 := by have h1 := Hlb.out; omega
  have Hrb := Lib.hid hrb
  have Hall := Lib.hid hall
  obtain ⟨f0, f1, f2, f3, f4, f5⟩ := facts6 hrb
  clear h hr hrb hba hall hg HS
  have hl0 := hlen
  rw [HE.out] at hl0
  simp only [List.length_append, List.length_cons, List.length_nil] at hl0
  have HL0 := Lib.hid hl0
  have hla : (atomS x.head (g : Int) x.col).length ≤ 1000000000 := by omega
  generalize hwb : (w.alloc (.cells #[.string x.head.rel, .slice A an ac, .int .i64 (g : Int), .int .i64 x.col, .slice B bn bc, .int .i64 x.pos] 46)) = wb at *
  have HC1 := Lib.hid (refAtom_any g x.col x.head A an ac wb HH.out.args hg4 hla)
  have HS0 : Hid (bytes (atomS x.head (g : Int) x.col) = bytes (atomS x.head (g : Int) x.col ++ bodyS x.body 0)) := by show _ = _; unfold bodyS; simp
  go_enter Tryz.func23, Tryz.ntmps23
  go_wp2_with fail
  try simp only [hwb]
  clear hwb
  go_wp2_with fail
  refine HC1.out.mono ?_
  rintro r wN ⟨rfl, hb1⟩
  have HB1 := Lib.hid hb1
  clear HC1 hb1 f0 f1 f2 f3 f4 f5 hl0 hla
  go_wp2_with fail
  go_loopw [3, 4] (fun v i wr => ∃ (k : Nat) (s : ByteArray), k ≤ bn ∧ v = .string s ∧ i = .int .i64 k ∧ Hid (s = bytes (atomS x.head (g : Int) x.col ++ bodyS x.body k)) ∧ Hid (Below wb.heap.size wb wr)) (fun _ i _ => bn - (intOf i).toNat)
  case atStart => exact ⟨0, _, by omega, rfl, rfl, HS0, HB1.out⟩
  case round =>
    clear HS0
    obtain ⟨k, s, hk, rfl, rfl, Hs, HBr⟩ := hrel
    have i0 : (0 : Int) ≤ (k : Int) := by omega
    have hrX := (HBr.out.block _ (Array.getElem?_eq_some_iff.1 Hrb.out).1).trans Hrb.out
    have f4 : wr.cell? ⟨w.heap.size, 4, none⟩ = some (.slice B bn bc) := (cell_of_row _ _ 4 _ _ _ hrX).trans rfl
    have hss : s.size ≤ 1000000000 := by
      have h1 := bodyS_grow (l := x.body) (bn - k) k (by have := Hlb.out; omega)
      rw [show k + (bn - k) = bn by omega] at h1
      have h2 := HL0.out
      have h4 := congrArg ByteArray.size Hs.out
      rw [bytes_size, List.length_append] at h4
      omega
    by_cases hlt : k < bn
    · have i1 : (k : Int) < (bn : Int) := by omega
      obtain ⟨bb, o, y, a', p', q', hA, hbb, hy, hly, Hr⟩ := (HH.out.keep HBr.out).body.lit_range hlt
      try simp only at hA
      subst hA
      obtain ⟨A1, n1, c1⟩ := a'
      obtain ⟨A2, n2, c2⟩ := p'
      obtain ⟨A3, n3, c3⟩ := q'
      have hym := List.mem_of_getElem? hy.out
      have hst := bodyS_step hy.out
      have hyl : (litS y).length ≤ 1000000000 := by
        have h1 := bodyS_grow (l := x.body) (bn - (k + 1)) (k + 1) (by have := Hlb.out; omega)
        rw [show k + 1 + (bn - (k + 1)) = bn by omega, hst] at h1
        simp only [List.length_append] at h1
        have h2 := HL0.out
        omega
      have HC := Lib.hid (refLiteral_any d y A1 n1 c1 A2 n2 c2 A3 n3 c3 wr hly (Hall.out y hym) hyl)
      obtain ⟨s1, Hs1⟩ : ∃ s1, Hid (s1 = s ++ bytes (if k = 0 then [32, 58, 45, 32] else sep2)) := ⟨_, rfl⟩
      have hs1s : s1.size ≤ 1000000004 := by
        have h4 := congrArg ByteArray.size Hs1.out
        rw [ByteArray.size_append, bytes_size] at h4
        split at h4
        · simp only [List.length_cons, List.length_nil] at h4; omega
        · have : sep2.length = 2 := rfl
          omega
      have HNx : Hid (s1 ++ bytes (litS y) = bytes (atomS x.head (g : Int) x.col ++ bodyS x.body (k + 1))) := by
        show _ = _
        rw [hst, Hs1.out, Hs.out, bytes_app, bytes_app]
        simp only [List.append_assoc]
      have e3 : (bytes (litS y)).size = (litS y).length := rfl
      clear hy hly hst hym Hs
      go_upto_if 20 with fail
      go_cut [3] (fun v W => v = .string s1 ∧ W = wr)
      case first =>
        by_cases hk0 : k = 0
        · have i2 : ((k : Int) == 0) = true := by simp [hk0]
          have HS1 : Hid (s1 = s ++ ⟨#[32, 58, 45, 32]⟩) := by show _ = _; rw [Hs1.out, if_pos hk0]; rfl
          have hz1 : ¬ (9223372036854775807 < s.size + 4) := by omega
          have hz3 : ¬ (9223372036854775803 < s.size) := by omega
          clear hk0 Hs1
          go_wp2_with fail
          go_meet
          exact ⟨by rw [HS1.out], rfl⟩
        · have i2 : ((k : Int) == 0) = false := by simp [hk0]
          have HS1 : Hid (s1 = s ++ ⟨#[44, 32]⟩) := by show _ = _; rw [Hs1.out, if_neg hk0]; rfl
          have hz1 : ¬ (9223372036854775807 < s.size + 2) := by omega
          have hz3 : ¬ (9223372036854775805 < s.size) := by omega
          clear hk0 Hs1
          go_wp2_with fail
          go_meet
          exact ⟨by rw [HS1.out], rfl⟩
      case rest =>
        obtain ⟨rfl, rfl⟩ := hcut
        clear Hs1 hss
        generalize bytes (litS y) = sl at *
        have hz1 : ¬ (9223372036854775807 < s1.size + sl.size) := by omega
        go_wp2_with (refine wpList_load_mid rfl 53 (.tmp 29) rfl bb (o + k * 17) rfl (litC y ⟨A1, n1, c1⟩ ⟨A2, n2, c2⟩ ⟨A3, n3, c3⟩) _ Hr.out Tryz.underlying53 rfl (lit5_size _ _ _ _) ?_)
        refine HC.out.mono ?_
        rintro r w2 ⟨rfl, hq2⟩
        have HBn := Lib.hid (below_next HBr.out hq2)
        clear hq2 HC Hr f4
        go_wp2_with fail
        go_roundw
        case rel => exact ⟨k + 1, _, by omega, rfl, by go_num, HNx, HBn⟩
        case measure => simp [intOf]; omega
    · have i1 : ¬ (k : Int) < (bn : Int) := by omega
      have hkn : k = bn := by omega
      have HSE : Hid (bytes S = s ++ ⟨#[46]⟩) := by
        show _ = s ++ bytes [46]
        have h1 := Hs.out
        rw [hkn] at h1
        rw [HE.out, h1, bytes_app]
      have HBn := Lib.hid (below_next Hba.out HBr.out)
      have hz1 : ¬ (9223372036854775807 < s.size + 1) := by omega
      have hz3 : ¬ (9223372036854775806 < s.size) := by omega
      clear Hs
      go_wp2_with fail
      go_ret
      exact ⟨by rw [HSE.out]; rfl, HBn.out⟩
end Go.Proofs.YtplekbpmfaghbaaGreatDoor

/- show.asked at three types, show.Rule, Literal, Exp; the document's texts as closures; law07.one. -/
namespace Go.Proofs.YtplekbpmfaghbaaGreatDoor
open Go.RowKit

/-- a text, or an error -/
def ShP (r : Bool) (s : List UInt8) (w : World) (e : Ending) (w' : World) : Prop := e = .returned (.tuple #[.string (if r then bytes s else ⟨#[]⟩), if r then .nilIface else .iface 90 (.int .i64 2)]) ∧ Below w.heap.size w w'
set_option maxRecDepth 100000 in
theorem is2_any (w : World) : Calls Tryz.prog 36 #[.iface 90 (.int .i64 2), .int .i64 2] w (RetBool true w) := by
  have hn := Lib.hid (num_any 2 w)
  simp only [errV, if_neg (show ¬ (2 : Int) = 0 by decide)] at hn
  go_enter Tryz.func36, Tryz.ntmps36
  go_wp2_with fail
  refine hn.out.mono ?_
  rintro e w1 ⟨rfl, hb1⟩
  go_wp2_with fail
  go_ret
  exact ⟨rfl, hb1⟩

set_option maxRecDepth 100000 in
set_option maxHeartbeats 2000000 in
theorem askedExp_any (d : Nat) (x : GExp) (A : Option Addr) (n c : Nat) (w : World) (hk : SliceIs (Enc.exp d) w w.heap.size A n c x.kids) (hx : x.t.x.size ≤ reachN) (hv : x.t.v.ok) (hL : LexW w) (hS : ShowW w) (hlen : rightE 20 x = true → (expS 20 x).length ≤ 1000000000) :
    Calls Tryz.prog 72 #[.agg #[.int .i64 x.op, .string x.t.x, .int .i64 x.t.v.k, .int .i64 x.t.v.n, .string x.t.v.s, .slice A n c], .func (.func 73) #[] #[], .func (.func 74) #[] #[]] w (ShP (rightE 20 x) (expS 20 x) w) := by
  have HR := Lib.hid (fun (V : World) (hb : Below w.heap.size w V) => rightExp_any x A n c d V (hk.keep hb) hx (hL.on hb))
  have HT := Lib.hid (fun (hr : rightE 20 x = true) (V : World) (hb : Below w.heap.size w V) => exp2_any 20 x A n c d V hr (hk.keep hb) hv.2.1 (hS.on hb) (hlen hr))
  have hrb : (w.alloc (.cells #[.int .i64 x.op, .string x.t.x, .int .i64 x.t.v.k, .int .i64 x.t.v.n, .string x.t.v.s, .slice A n c] 36)).heap[w.heap.size]? = some (.cells #[.int .i64 x.op, .string x.t.x, .int .i64 x.t.v.k, .int .i64 x.t.v.n, .string x.t.v.s, .slice A n c] 36 (0, 0)) := heapNew rfl
  have hba : Below w.heap.size w (w.alloc (.cells #[.int .i64 x.op, .string x.t.x, .int .i64 x.t.v.k, .int .i64 x.t.v.n, .string x.t.v.s, .slice A n c] 36)) := belowA (Below.refl _ _) _
  obtain ⟨f0, f1, f2, f3, f4, f5⟩ := facts6 hrb
  have Hrb := Lib.hid hrb
  clear hrb hL hS hlen
  generalize hr : rightE 20 x = r at *
  have HTr := Lib.hid (fun (h : r = true) => HT.out h)
  clear HT hr
  generalize expS 20 x = s at *
  generalize hwb : (w.alloc (.cells #[.int .i64 x.op, .string x.t.x, .int .i64 x.t.v.k, .int .i64 x.t.v.n, .string x.t.v.s, .slice A n c] 36)) = wb at *
  have HB0 := Lib.hid hba
  clear hba
  go_enter Tryz.func72, Tryz.ntmps72
  go_wp2_with fail
  try simp only [hwb]
  clear hwb
  go_wp2_with fail
  refine (HR.out _ HB0.out).mono ?_
  rintro e1 w1 ⟨rfl, hb1⟩
  have HB1 := Lib.hid (below_next HB0.out hb1)
  obtain ⟨g0, g1, g2, g3, g4, g5⟩ := facts6 ((hb1.block _ (Array.getElem?_eq_some_iff.1 Hrb.out).1).trans Hrb.out)
  clear hb1 f0 f1 f2 f3 f4 f5
  cases r with
  | false =>
    go_wp2_with fail
    go_ret2
    exact ⟨rfl, HB1.out⟩
  | true =>
    go_wp2_with fail
    refine (HTr.out (by simp) _ HB1.out).mono ?_
    rintro e2 w2 ⟨rfl, hb2⟩
    go_wp2_with fail
    go_ret2
    exact ⟨rfl, below_next HB1.out hb2⟩
set_option maxRecDepth 100000 in
set_option maxHeartbeats 2000000 in
theorem topExp_any (d : Nat) (x : GExp) (A : Option Addr) (n c : Nat) (w : World) (hk : SliceIs (Enc.exp d) w w.heap.size A n c x.kids) (hx : x.t.x.size ≤ reachN) (hv : x.t.v.ok) (hL : LexW w) (hS : ShowW w) (hlen : rightE 20 x = true → (expS 20 x).length ≤ 1000000000) :
    Calls Tryz.prog 19 #[.agg #[.int .i64 x.op, .string x.t.x, .int .i64 x.t.v.k, .int .i64 x.t.v.n, .string x.t.v.s, .slice A n c]] w (ShP (rightE 20 x) (expS 20 x) w) := by
  have hba : Below w.heap.size w (w.alloc (.cells #[.int .i64 x.op, .string x.t.x, .int .i64 x.t.v.k, .int .i64 x.t.v.n, .string x.t.v.s, .slice A n c] 36)) := belowA (Below.refl _ _) _
  have hrb : (w.alloc (.cells #[.int .i64 x.op, .string x.t.x, .int .i64 x.t.v.k, .int .i64 x.t.v.n, .string x.t.v.s, .slice A n c] 36)).heap[w.heap.size]? = some (.cells #[.int .i64 x.op, .string x.t.x, .int .i64 x.t.v.k, .int .i64 x.t.v.n, .string x.t.v.s, .slice A n c] 36 (0, 0)) := heapNew rfl
  obtain ⟨f0, f1, f2, f3, f4, f5⟩ := facts6 hrb
  have HC := Lib.hid (askedExp_any d x A n c _ (hk.keep hba) hx hv (hL.on hba) (hS.on hba) hlen)
  have HB0 := Lib.hid hba
  clear hk hL hS hlen hrb hba
  generalize rightE 20 x = r at *
  generalize expS 20 x = s at *
  generalize hwb : (w.alloc (.cells #[.int .i64 x.op, .string x.t.x, .int .i64 x.t.v.k, .int .i64 x.t.v.n, .string x.t.v.s, .slice A n c] 36)) = wb at *
  go_enter Tryz.func19, Tryz.ntmps19
  go_wp2_with fail
  try simp only [hwb]
  clear hwb
  go_wp2_with fail
  refine HC.out.mono ?_
  rintro e1 w1 ⟨rfl, hb1⟩
  cases r <;>
  · go_wp2_with fail
    go_ret2
    exact ⟨rfl, below_next HB0.out hb1⟩

set_option maxRecDepth 100000 in
set_option maxHeartbeats 2000000 in
theorem cloExp_any (d : Nat) (x : GExp) (A : Option Addr) (n c : Nat) (h : Nat) (w : World) (hk : SliceIs (Enc.exp d) w w.heap.size A n c x.kids) (hx : x.t.x.size ≤ reachN) (hv : x.t.v.ok) (hr : rightE 20 x = true) (hlen : (expS 20 x).length ≤ 1000000000) (hrow : w.heap[h]? = some (.cells #[.int .i64 x.op, .string x.t.x, .int .i64 x.t.v.k, .int .i64 x.t.v.n, .string x.t.v.s, .slice A n c] 51 (0, 0))) :
    Calls Tryz.prog 28 #[.pointer (some ⟨h, 0, none⟩)] w (RetV (.string (bytes (expS 20 x))) w) := by
  have HC := Lib.hid (fun (V : World) (hb : Below w.heap.size w V) => refExp2_any 20 x A n c d V hr (hk.keep hb) hv hx hlen)
  obtain ⟨f0, f1, f2, f3, f4, f5⟩ := facts6 hrow
  clear hk hr hlen hrow
  generalize expS 20 x = s at *
  go_enter Tryz.func28, Tryz.ntmps28
  go_wp2_with fail
  refine (HC.out _ (Below.refl _ _)).mono ?_
  rintro e1 w1 ⟨rfl, hb1⟩
  go_wp2_with fail
  go_ret
  exact ⟨rfl, hb1⟩

set_option maxRecDepth 100000 in
set_option maxHeartbeats 2000000 in
theorem askedRule_any (d : Nat) (x : GRule) (A : Option Addr) (n c : Nat) (B : Option Addr) (m e : Nat) (w : World) (hk : RuleAt d w w.heap.size x ⟨A, n, c⟩ ⟨B, m, e⟩) (hL : LexW w) (hS : ShowW w) (hlen : rightRule x = true → (ruleS x).length ≤ 1000000000) :
    Calls Tryz.prog 66 #[.agg #[.string x.head.rel, .slice A n c, .int .i64 x.agg, .int .i64 x.col, .slice B m e, .int .i64 x.pos], .func (.func 67) #[] #[], .func (.func 68) #[] #[]] w (ShP (rightRule x) (ruleS x) w) := by
  have HR := Lib.hid (fun (V : World) (hb : Below w.heap.size w V) => rightRule_any d x ⟨A, n, c⟩ ⟨B, m, e⟩ V (hk.keep hb) (hL.on hb))
  have HT := Lib.hid (fun (hr : rightRule x = true) (V : World) (hb : Below w.heap.size w V) => rule2_any d x A n c B m e V (hk.keep hb) hr (hS.on hb) (hlen hr))
  have hrb : (w.alloc (.cells #[.string x.head.rel, .slice A n c, .int .i64 x.agg, .int .i64 x.col, .slice B m e, .int .i64 x.pos] 27)).heap[w.heap.size]? = some (.cells #[.string x.head.rel, .slice A n c, .int .i64 x.agg, .int .i64 x.col, .slice B m e, .int .i64 x.pos] 27 (0, 0)) := heapNew rfl
  have hba : Below w.heap.size w (w.alloc (.cells #[.string x.head.rel, .slice A n c, .int .i64 x.agg, .int .i64 x.col, .slice B m e, .int .i64 x.pos] 27)) := belowA (Below.refl _ _) _
  obtain ⟨f0, f1, f2, f3, f4, f5⟩ := facts6 hrb
  have Hrb := Lib.hid hrb
  clear hrb hL hS hlen
  generalize hr : rightRule x = r at *
  have HTr := Lib.hid (fun (h : r = true) => HT.out h)
  clear HT hr
  generalize ruleS x = s at *
  generalize hwb : (w.alloc (.cells #[.string x.head.rel, .slice A n c, .int .i64 x.agg, .int .i64 x.col, .slice B m e, .int .i64 x.pos] 27)) = wb at *
  have HB0 := Lib.hid hba
  clear hba
  go_enter Tryz.func66, Tryz.ntmps66
  go_wp2_with fail
  try simp only [hwb]
  clear hwb
  go_wp2_with fail
  refine (HR.out _ HB0.out).mono ?_
  rintro e1 w1 ⟨rfl, hb1⟩
  have HB1 := Lib.hid (below_next HB0.out hb1)
  obtain ⟨g0, g1, g2, g3, g4, g5⟩ := facts6 ((hb1.block _ (Array.getElem?_eq_some_iff.1 Hrb.out).1).trans Hrb.out)
  clear hb1 f0 f1 f2 f3 f4 f5
  cases r with
  | false =>
    go_wp2_with fail
    go_ret2
    exact ⟨rfl, HB1.out⟩
  | true =>
    go_wp2_with fail
    refine (HTr.out (by simp) _ HB1.out).mono ?_
    rintro e2 w2 ⟨rfl, hb2⟩
    go_wp2_with fail
    go_ret2
    exact ⟨rfl, below_next HB1.out hb2⟩
set_option maxRecDepth 100000 in
set_option maxHeartbeats 2000000 in
theorem topRule_any (d : Nat) (x : GRule) (A : Option Addr) (n c : Nat) (B : Option Addr) (m e : Nat) (w : World) (hk : RuleAt d w w.heap.size x ⟨A, n, c⟩ ⟨B, m, e⟩) (hL : LexW w) (hS : ShowW w) (hlen : rightRule x = true → (ruleS x).length ≤ 1000000000) :
    Calls Tryz.prog 17 #[.agg #[.string x.head.rel, .slice A n c, .int .i64 x.agg, .int .i64 x.col, .slice B m e, .int .i64 x.pos]] w (ShP (rightRule x) (ruleS x) w) := by
  have hba : Below w.heap.size w (w.alloc (.cells #[.string x.head.rel, .slice A n c, .int .i64 x.agg, .int .i64 x.col, .slice B m e, .int .i64 x.pos] 27)) := belowA (Below.refl _ _) _
  have hrb : (w.alloc (.cells #[.string x.head.rel, .slice A n c, .int .i64 x.agg, .int .i64 x.col, .slice B m e, .int .i64 x.pos] 27)).heap[w.heap.size]? = some (.cells #[.string x.head.rel, .slice A n c, .int .i64 x.agg, .int .i64 x.col, .slice B m e, .int .i64 x.pos] 27 (0, 0)) := heapNew rfl
  obtain ⟨f0, f1, f2, f3, f4, f5⟩ := facts6 hrb
  have HC := Lib.hid (askedRule_any d x A n c B m e _ (hk.keep hba) (hL.on hba) (hS.on hba) hlen)
  have HB0 := Lib.hid hba
  clear hk hL hS hlen hrb hba
  generalize rightRule x = r at *
  generalize ruleS x = s at *
  generalize hwb : (w.alloc (.cells #[.string x.head.rel, .slice A n c, .int .i64 x.agg, .int .i64 x.col, .slice B m e, .int .i64 x.pos] 27)) = wb at *
  go_enter Tryz.func17, Tryz.ntmps17
  go_wp2_with fail
  try simp only [hwb]
  clear hwb
  go_wp2_with fail
  refine HC.out.mono ?_
  rintro e1 w1 ⟨rfl, hb1⟩
  cases r <;>
  · go_wp2_with fail
    go_ret2
    exact ⟨rfl, below_next HB0.out hb1⟩

set_option maxRecDepth 100000 in
set_option maxHeartbeats 2000000 in
theorem cloRule_any (d : Nat) (x : GRule) (A : Option Addr) (n c : Nat) (B : Option Addr) (m e : Nat) (h : Nat) (w : World) (hk : RuleAt d w w.heap.size x ⟨A, n, c⟩ ⟨B, m, e⟩) (hr : rightRule x = true) (hlen : (ruleS x).length ≤ 1000000000) (hrow : w.heap[h]? = some (.cells #[.string x.head.rel, .slice A n c, .int .i64 x.agg, .int .i64 x.col, .slice B m e, .int .i64 x.pos] 46 (0, 0))) :
    Calls Tryz.prog 22 #[.pointer (some ⟨h, 0, none⟩)] w (RetV (.string (bytes (ruleS x))) w) := by
  have HC := Lib.hid (fun (V : World) (hb : Below w.heap.size w V) => refRule_any d x A n c B m e V (hk.keep hb) hr hlen)
  obtain ⟨f0, f1, f2, f3, f4, f5⟩ := facts6 hrow
  clear hk hr hlen hrow
  generalize ruleS x = s at *
  go_enter Tryz.func22, Tryz.ntmps22
  go_wp2_with fail
  refine (HC.out _ (Below.refl _ _)).mono ?_
  rintro e1 w1 ⟨rfl, hb1⟩
  go_wp2_with fail
  go_ret
  exact ⟨rfl, hb1⟩

set_option maxRecDepth 100000 in
set_option maxHeartbeats 2000000 in
theorem askedLiteral_any (d : Nat) (x : GLit) (A : Option Addr) (n c : Nat) (P : Option Addr) (pn pc : Nat) (Q : Option Addr) (qn qc : Nat) (w : World) (hk : LitAt d w w.heap.size x ⟨A, n, c⟩ ⟨P, pn, pc⟩ ⟨Q, qn, qc⟩) (hL : LexW w) (hS : ShowW w) (hlen : rightLit x = true → (litS x).length ≤ 1000000000) :
    Calls Tryz.prog 69 #[.agg #[.int .i64 x.k, .string x.atom.rel, .slice A n c, .int .i64 x.op, .int .i64 x.l.op, .string x.l.t.x, .int .i64 x.l.t.v.k, .int .i64 x.l.t.v.n, .string x.l.t.v.s, .slice P pn pc, .int .i64 x.r.op, .string x.r.t.x, .int .i64 x.r.t.v.k, .int .i64 x.r.t.v.n, .string x.r.t.v.s, .slice Q qn qc, .int .i64 x.pos], .func (.func 70) #[] #[], .func (.func 71) #[] #[]] w (ShP (rightLit x) (litS x) w) := by
  have HR := Lib.hid (fun (V : World) (hb : Below w.heap.size w V) => rightLit_any d x ⟨A, n, c⟩ ⟨P, pn, pc⟩ ⟨Q, qn, qc⟩ V (hk.keep hb) (hL.on hb))
  have HT := Lib.hid (fun (hr : rightLit x = true) (V : World) (hb : Below w.heap.size w V) => literal_any d x A n c P pn pc Q qn qc V (hk.keep hb) hr (hS.on hb) (hlen hr))
  have hrb : (w.alloc (.cells #[.int .i64 x.k, .string x.atom.rel, .slice A n c, .int .i64 x.op, .int .i64 x.l.op, .string x.l.t.x, .int .i64 x.l.t.v.k, .int .i64 x.l.t.v.n, .string x.l.t.v.s, .slice P pn pc, .int .i64 x.r.op, .string x.r.t.x, .int .i64 x.r.t.v.k, .int .i64 x.r.t.v.n, .string x.r.t.v.s, .slice Q qn qc, .int .i64 x.pos] 38)).heap[w.heap.size]? = some (.cells #[.int .i64 x.k, .string x.atom.rel, .slice A n c, .int .i64 x.op, .int .i64 x.l.op, .string x.l.t.x, .int .i64 x.l.t.v.k, .int .i64 x.l.t.v.n, .string x.l.t.v.s, .slice P pn pc, .int .i64 x.r.op, .string x.r.t.x, .int .i64 x.r.t.v.k, .int .i64 x.r.t.v.n, .string x.r.t.v.s, .slice Q qn qc, .int .i64 x.pos] 38 (0, 0)) := heapNew rfl
  have hba : Below w.heap.size w (w.alloc (.cells #[.int .i64 x.k, .string x.atom.rel, .slice A n c, .int .i64 x.op, .int .i64 x.l.op, .string x.l.t.x, .int .i64 x.l.t.v.k, .int .i64 x.l.t.v.n, .string x.l.t.v.s, .slice P pn pc, .int .i64 x.r.op, .string x.r.t.x, .int .i64 x.r.t.v.k, .int .i64 x.r.t.v.n, .string x.r.t.v.s, .slice Q qn qc, .int .i64 x.pos] 38)) := belowA (Below.refl _ _) _
  obtain ⟨f0, f1, f2, f3, f4, f5, f6, f7, f8, f9, f10, f11, f12, f13, f14, f15, f16⟩ := facts17 hrb
  have Hrb := Lib.hid hrb
  clear hrb hL hS hlen
  generalize hr : rightLit x = r at *
  have HTr := Lib.hid (fun (h : r = true) => HT.out h)
  clear HT hr
  generalize litS x = s at *
  generalize hwb : (w.alloc (.cells #[.int .i64 x.k, .string x.atom.rel, .slice A n c, .int .i64 x.op, .int .i64 x.l.op, .string x.l.t.x, .int .i64 x.l.t.v.k, .int .i64 x.l.t.v.n, .string x.l.t.v.s, .slice P pn pc, .int .i64 x.r.op, .string x.r.t.x, .int .i64 x.r.t.v.k, .int .i64 x.r.t.v.n, .string x.r.t.v.s, .slice Q qn qc, .int .i64 x.pos] 38)) = wb at *
  have HB0 := Lib.hid hba
  clear hba
  go_enter Tryz.func69, Tryz.ntmps69
  go_wp2_with fail
  try simp only [hwb]
  clear hwb
  go_wp2_with fail
  refine (HR.out _ HB0.out).mono ?_
  rintro e1 w1 ⟨rfl, hb1⟩
  have HB1 := Lib.hid (below_next HB0.out hb1)
  obtain ⟨g0, g1, g2, g3, g4, g5, g6, g7, g8, g9, g10, g11, g12, g13, g14, g15, g16⟩ := facts17 ((hb1.block _ (Array.getElem?_eq_some_iff.1 Hrb.out).1).trans Hrb.out)
  clear hb1 f0 f1 f2 f3 f4 f5 f6 f7 f8 f9 f10 f11 f12 f13 f14 f15 f16
  cases r with
  | false =>
    go_wp2_with fail
    go_ret2
    exact ⟨rfl, HB1.out⟩
  | true =>
    go_wp2_with fail
    refine (HTr.out (by simp) _ HB1.out).mono ?_
    rintro e2 w2 ⟨rfl, hb2⟩
    go_wp2_with fail
    go_ret2
    exact ⟨rfl, below_next HB1.out hb2⟩
set_option maxRecDepth 100000 in
set_option maxHeartbeats 2000000 in
theorem topLiteral_any (d : Nat) (x : GLit) (A : Option Addr) (n c : Nat) (P : Option Addr) (pn pc : Nat) (Q : Option Addr) (qn qc : Nat) (w : World) (hk : LitAt d w w.heap.size x ⟨A, n, c⟩ ⟨P, pn, pc⟩ ⟨Q, qn, qc⟩) (hL : LexW w) (hS : ShowW w) (hlen : rightLit x = true → (litS x).length ≤ 1000000000) :
    Calls Tryz.prog 18 #[.agg #[.int .i64 x.k, .string x.atom.rel, .slice A n c, .int .i64 x.op, .int .i64 x.l.op, .string x.l.t.x, .int .i64 x.l.t.v.k, .int .i64 x.l.t.v.n, .string x.l.t.v.s, .slice P pn pc, .int .i64 x.r.op, .string x.r.t.x, .int .i64 x.r.t.v.k, .int .i64 x.r.t.v.n, .string x.r.t.v.s, .slice Q qn qc, .int .i64 x.pos]] w (ShP (rightLit x) (litS x) w) := by
  have hba : Below w.heap.size w (w.alloc (.cells #[.int .i64 x.k, .string x.atom.rel, .slice A n c, .int .i64 x.op, .int .i64 x.l.op, .string x.l.t.x, .int .i64 x.l.t.v.k, .int .i64 x.l.t.v.n, .string x.l.t.v.s, .slice P pn pc, .int .i64 x.r.op, .string x.r.t.x, .int .i64 x.r.t.v.k, .int .i64 x.r.t.v.n, .string x.r.t.v.s, .slice Q qn qc, .int .i64 x.pos] 38)) := belowA (Below.refl _ _) _
  have hrb : (w.alloc (.cells #[.int .i64 x.k, .string x.atom.rel, .slice A n c, .int .i64 x.op, .int .i64 x.l.op, .string x.l.t.x, .int .i64 x.l.t.v.k, .int .i64 x.l.t.v.n, .string x.l.t.v.s, .slice P pn pc, .int .i64 x.r.op, .string x.r.t.x, .int .i64 x.r.t.v.k, .int .i64 x.r.t.v.n, .string x.r.t.v.s, .slice Q qn qc, .int .i64 x.pos] 38)).heap[w.heap.size]? = some (.cells #[.int .i64 x.k, .string x.atom.rel, .slice A n c, .int .i64 x.op, .int .i64 x.l.op, .string x.l.t.x, .int .i64 x.l.t.v.k, .int .i64 x.l.t.v.n, .string x.l.t.v.s, .slice P pn pc, .int .i64 x.r.op, .string x.r.t.x, .int .i64 x.r.t.v.k, .int .i64 x.r.t.v.n, .string x.r.t.v.s, .slice Q qn qc, .int .i64 x.pos] 38 (0, 0)) := heapNew rfl
  obtain ⟨f0, f1, f2, f3, f4, f5, f6, f7, f8, f9, f10, f11, f12, f13, f14, f15, f16⟩ := facts17 hrb
  have HC := Lib.hid (askedLiteral_any d x A n c P pn pc Q qn qc _ (hk.keep hba) (hL.on hba) (hS.on hba) hlen)
  have HB0 := Lib.hid hba
  clear hk hL hS hlen hrb hba
  generalize rightLit x = r at *
  generalize litS x = s at *
  generalize hwb : (w.alloc (.cells #[.int .i64 x.k, .string x.atom.rel, .slice A n c, .int .i64 x.op, .int .i64 x.l.op, .string x.l.t.x, .int .i64 x.l.t.v.k, .int .i64 x.l.t.v.n, .string x.l.t.v.s, .slice P pn pc, .int .i64 x.r.op, .string x.r.t.x, .int .i64 x.r.t.v.k, .int .i64 x.r.t.v.n, .string x.r.t.v.s, .slice Q qn qc, .int .i64 x.pos] 38)) = wb at *
  go_enter Tryz.func18, Tryz.ntmps18
  go_wp2_with fail
  try simp only [hwb]
  clear hwb
  go_wp2_with fail
  refine HC.out.mono ?_
  rintro e1 w1 ⟨rfl, hb1⟩
  cases r <;>
  · go_wp2_with fail
    go_ret2
    exact ⟨rfl, below_next HB0.out hb1⟩

set_option maxRecDepth 100000 in
set_option maxHeartbeats 2000000 in
theorem cloLiteral_any (d : Nat) (x : GLit) (A : Option Addr) (n c : Nat) (P : Option Addr) (pn pc : Nat) (Q : Option Addr) (qn qc : Nat) (h : Nat) (w : World) (hk : LitAt d w w.heap.size x ⟨A, n, c⟩ ⟨P, pn, pc⟩ ⟨Q, qn, qc⟩) (hr : rightLit x = true) (hlen : (litS x).length ≤ 1000000000) (hrow : w.heap[h]? = some (.cells #[.int .i64 x.k, .string x.atom.rel, .slice A n c, .int .i64 x.op, .int .i64 x.l.op, .string x.l.t.x, .int .i64 x.l.t.v.k, .int .i64 x.l.t.v.n, .string x.l.t.v.s, .slice P pn pc, .int .i64 x.r.op, .string x.r.t.x, .int .i64 x.r.t.v.k, .int .i64 x.r.t.v.n, .string x.r.t.v.s, .slice Q qn qc, .int .i64 x.pos] 53 (0, 0))) :
    Calls Tryz.prog 25 #[.pointer (some ⟨h, 0, none⟩)] w (RetV (.string (bytes (litS x))) w) := by
  have HC := Lib.hid (fun (V : World) (hb : Below w.heap.size w V) => refLiteral_any d x A n c P pn pc Q qn qc V (hk.keep hb) hr hlen)
  obtain ⟨f0, f1, f2, f3, f4, f5, f6, f7, f8, f9, f10, f11, f12, f13, f14, f15, f16⟩ := facts17 hrow
  clear hk hr hlen hrow
  generalize litS x = s at *
  go_enter Tryz.func25, Tryz.ntmps25
  go_wp2_with fail
  refine (HC.out _ (Below.refl _ _)).mono ?_
  rintro e1 w1 ⟨rfl, hb1⟩
  go_wp2_with fail
  go_ret
  exact ⟨rfl, hb1⟩

end Go.Proofs.YtplekbpmfaghbaaGreatDoor

/- corollarylaw07.one: is what is shown the document's? At the walk's three closures. -/
namespace Go.Proofs.YtplekbpmfaghbaaGreatDoor
open Go.RowKit

set_option maxRecDepth 100000 in
set_option maxHeartbeats 2000000 in
theorem oneRule_any (r : Bool) (s : List UInt8) (g : Nat) (w : World) (hc : r = true → ∀ V, Below w.heap.size w V → Calls Tryz.prog 22 #[.pointer (some ⟨g, 0, none⟩)] V (RetV (.string (bytes s)) V)) :
    Calls Tryz.prog 20 #[.string (if r then bytes s else ⟨#[]⟩), if r then .nilIface else .iface 90 (.int .i64 2), .bool r, .func (.func 22) #[] #[.pointer (some ⟨g, 0, none⟩)]] w (RetBool true w) := by
  cases r with
  | false =>
    simp only [Bool.false_eq_true, if_false]
    have HI := Lib.hid (is2_any w)
    clear hc
    go_enter Tryz.func20, Tryz.ntmps20
    go_wp2_with fail
    refine HI.out.mono ?_
    rintro e1 w1 ⟨rfl, hb1⟩
    go_wp2_with fail
    go_ret
    exact ⟨rfl, hb1⟩
  | true =>
    simp only [if_true]
    have HC := Lib.hid (hc rfl w (Below.refl _ _))
    have rs : ((bytes s).toList == (bytes s).toList) = true := by simp
    clear hc
    generalize bytes s = sb at *
    go_enter Tryz.func20, Tryz.ntmps20
    go_wp2_with fail
    refine HC.out.mono ?_
    rintro e1 w1 ⟨rfl, hb1⟩
    go_wp2_with fail
    go_ret
    exact ⟨rfl, hb1⟩
set_option maxRecDepth 100000 in
set_option maxHeartbeats 2000000 in
theorem oneLiteral_any (r : Bool) (s : List UInt8) (g : Nat) (w : World) (hc : r = true → ∀ V, Below w.heap.size w V → Calls Tryz.prog 25 #[.pointer (some ⟨g, 0, none⟩)] V (RetV (.string (bytes s)) V)) :
    Calls Tryz.prog 20 #[.string (if r then bytes s else ⟨#[]⟩), if r then .nilIface else .iface 90 (.int .i64 2), .bool r, .func (.func 25) #[] #[.pointer (some ⟨g, 0, none⟩)]] w (RetBool true w) := by
  cases r with
  | false =>
    simp only [Bool.false_eq_true, if_false]
    have HI := Lib.hid (is2_any w)
    clear hc
    go_enter Tryz.func20, Tryz.ntmps20
    go_wp2_with fail
    refine HI.out.mono ?_
    rintro e1 w1 ⟨rfl, hb1⟩
    go_wp2_with fail
    go_ret
    exact ⟨rfl, hb1⟩
  | true =>
    simp only [if_true]
    have HC := Lib.hid (hc rfl w (Below.refl _ _))
    have rs : ((bytes s).toList == (bytes s).toList) = true := by simp
    clear hc
    generalize bytes s = sb at *
    go_enter Tryz.func20, Tryz.ntmps20
    go_wp2_with fail
    refine HC.out.mono ?_
    rintro e1 w1 ⟨rfl, hb1⟩
    go_wp2_with fail
    go_ret
    exact ⟨rfl, hb1⟩
set_option maxRecDepth 100000 in
set_option maxHeartbeats 2000000 in
theorem oneExp_any (r : Bool) (s : List UInt8) (g : Nat) (w : World) (hc : r = true → ∀ V, Below w.heap.size w V → Calls Tryz.prog 28 #[.pointer (some ⟨g, 0, none⟩)] V (RetV (.string (bytes s)) V)) :
    Calls Tryz.prog 20 #[.string (if r then bytes s else ⟨#[]⟩), if r then .nilIface else .iface 90 (.int .i64 2), .bool r, .func (.func 28) #[] #[.pointer (some ⟨g, 0, none⟩)]] w (RetBool true w) := by
  cases r with
  | false =>
    simp only [Bool.false_eq_true, if_false]
    have HI := Lib.hid (is2_any w)
    clear hc
    go_enter Tryz.func20, Tryz.ntmps20
    go_wp2_with fail
    refine HI.out.mono ?_
    rintro e1 w1 ⟨rfl, hb1⟩
    go_wp2_with fail
    go_ret
    exact ⟨rfl, hb1⟩
  | true =>
    simp only [if_true]
    have HC := Lib.hid (hc rfl w (Below.refl _ _))
    have rs : ((bytes s).toList == (bytes s).toList) = true := by simp
    clear hc
    generalize bytes s = sb at *
    go_enter Tryz.func20, Tryz.ntmps20
    go_wp2_with fail
    refine HC.out.mono ?_
    rintro e1 w1 ⟨rfl, hb1⟩
    go_wp2_with fail
    go_ret
    exact ⟨rfl, hb1⟩
end Go.Proofs.YtplekbpmfaghbaaGreatDoor

/- corollarylaw07.alive: the chapter's example. -/
namespace Go.Proofs.YtplekbpmfaghbaaGreatDoor
open Go.RowKit

set_option maxRecDepth 100000 in
theorem alV_any (s : ByteArray) (w : World) : Calls Tryz.prog 61 #[.string s] w (fun e w' => e = .returned (.agg #[.int .i64 0, .string s, .int .i64 0, .int .i64 0, .string ⟨#[]⟩, .slice none 0 0]) ∧ Below w.heap.size w w') := by
  go_enter Tryz.func61, Tryz.ntmps61
  go_wp2_with fail
  exact bodyPost_ret (v := .agg #[.int .i64 0, .string s, .int .i64 0, .int .i64 0, .string ⟨#[]⟩, .slice none 0 0]) (by simp [results, Tryz.results61, go_sem]) rfl ⟨rfl, belowA (Below.refl _ _) _⟩
set_option maxRecDepth 100000 in
theorem alN_any (k : Int) (w : World) : Calls Tryz.prog 62 #[.int .i64 k] w (fun e w' => e = .returned (.agg #[.int .i64 0, .string ⟨#[]⟩, .int .i64 1, .int .i64 k, .string ⟨#[]⟩, .slice none 0 0]) ∧ Below w.heap.size w w') := by
  go_enter Tryz.func62, Tryz.ntmps62
  go_wp2_with fail
  exact bodyPost_ret (v := .agg #[.int .i64 0, .string ⟨#[]⟩, .int .i64 1, .int .i64 k, .string ⟨#[]⟩, .slice none 0 0]) (by simp [results, Tryz.results62, go_sem]) rfl ⟨rfl, belowA (Below.refl _ _) _⟩

theorem fits0 : fits 0 := by unfold fits; decide
theorem fits1 : fits 1 := by unfold fits; decide
/-- an expression's cells at hand -/
structure ExpAt (d : Nat) (W : World) (x : GExp) (A : Option Addr) (n c : Nat) : Prop where
  fop : fits x.op
  fx : x.t.x.size ≤ reachN
  fv : x.t.v.ok
  kids : SliceIs (Enc.exp d) W W.heap.size A n c x.kids
theorem ExpAt.keep {d : Nat} {W W' : World} {x : GExp} {A : Option Addr} {n c : Nat} (h : ExpAt d W x A n c) (hb : Below W.heap.size W W') : ExpAt d W' x A n c := ⟨h.fop, h.fx, h.fv, h.kids.keep hb⟩
theorem pair_is {d : Nat} {W : World} {b : Nat} {T : TypeId} {x y : GExp} {A1 A2 : Option Addr} {n1 c1 n2 c2 : Nat} (hrow : W.heap[b]? = some (.cells (expC x A1 n1 c1 ++ expC y A2 n2 c2).toArray T (0, 0))) (hx : ExpAt d W x A1 n1 c1) (hy : ExpAt d W y A2 n2 c2) :
    SliceIs (Enc.exp (d + 1)) W W.heap.size (some ⟨b, 0, none⟩) 2 2 [x, y] := by
  refine ⟨rfl, by omega, by simp [maxLen], by simp [reachN], .inr ⟨b, 0, rfl, (Array.getElem?_eq_some_iff.1 hrow).1, fun i e hi => ?_⟩⟩
  match i, hi with
  | 0, hi =>
    simp at hi; subst hi
    refine ⟨expC x A1 n1 c1, ⟨A1, n1, c1, rfl, hx.fop, hx.fx, hx.fv, hx.kids⟩, fun j v hj => ?_⟩
    rw [Enc.exp_sz, cell_of_row _ _ _ _ _ _ hrow]
    have hl : j < 6 := (List.getElem?_eq_some_iff.1 hj).1
    simp only [Nat.zero_mul, Nat.zero_add, List.getElem?_toArray]
    rw [List.getElem?_append_left (show j < (expC x A1 n1 c1).length from hl)]
    exact hj
  | 1, hi =>
    simp at hi; subst hi
    refine ⟨expC y A2 n2 c2, ⟨A2, n2, c2, rfl, hy.fop, hy.fx, hy.fv, hy.kids⟩, fun j v hj => ?_⟩
    rw [Enc.exp_sz, cell_of_row _ _ _ _ _ _ hrow]
    simp only [Nat.one_mul, Nat.zero_add, List.getElem?_toArray]
    rw [List.getElem?_append_right (show (expC x A1 n1 c1).length ≤ 6 + j by show 6 ≤ 6 + j; omega)]
    rw [show 6 + j - (expC x A1 n1 c1).length = j by show 6 + j - 6 = j; omega]
    exact hj
  | i + 2, hi => simp at hi
def alX : GExp := .mk 0 ⟨⟨#[88]⟩, gv0⟩ []
def alY : GExp := .mk 0 ⟨⟨#[89]⟩, gv0⟩ []
def alN (k : Int) : GExp := .mk 0 ⟨⟨#[]⟩, ⟨1, k, ⟨#[]⟩⟩⟩ []
def alS : GExp := .mk 1 zT [alY, alN 1]
def alP : GExp := .mk 3 zT [alS, alN 2]
def alE : GExp := .mk 2 zT [alX, alP]
theorem alE_right : rightE 20 alE = true := by kernel_rfl
theorem alE_text : expS 20 alE = [88, 32, 45, 32, 40, 89, 32, 43, 32, 49, 41, 32, 42, 32, 50] := by kernel_rfl
theorem fits_lit {n : Int} (h : (Lit.int .i64 n).wf = true) : fits n := h
theorem leaf_at {d : Nat} {W : World} {x : GExp} (h0 : x.kids = []) (h1 : fits x.op) (h2 : x.t.x.size ≤ reachN) (h3 : x.t.v.ok) : ExpAt d W x none 0 0 := ⟨h1, h2, h3, by rw [h0]; exact SliceIs.nil⟩
theorem gv0_ok : gv0.ok := ⟨by unfold fits; decide, by unfold fits; decide, Nat.zero_le _⟩

set_option maxRecDepth 100000 in
set_option maxHeartbeats 4000000 in
theorem alive7_any (w : World) (hL : LexW w) (hS : ShowW w) : Calls Tryz.prog 12 #[] w (RetBool true w) := by
  have HL := Lib.hid (fun (W : World) (hb : Below w.heap.size w W) => hL.on hb)
  have HS := Lib.hid (fun (W : World) (hb : Below w.heap.size w W) => hS.on hb)
  clear hL hS
  go_enter Tryz.func12, Tryz.ntmps12
  go_wp2_with fail
  refine (alV_any _ _).mono ?_
  rintro e w1 ⟨rfl, hb1⟩
  go_wp2_with fail
  refine (alV_any _ _).mono ?_
  rintro e w2 ⟨rfl, hb2⟩
  go_wp2_with fail
  refine (alN_any _ _).mono ?_
  rintro e w3 ⟨rfl, hb3⟩
  have HB3 := Lib.hid (below_next (below_next hb1 hb2) hb3)
  clear hb1 hb2 hb3
  go_wp2_with fail
  refine (alN_any _ _).mono ?_
  rintro e w4 ⟨rfl, hb4⟩
  have hr1 : (w3.alloc (.cells (expC alY none 0 0 ++ expC (alN 1) none 0 0).toArray 36)).heap[w3.heap.size]? = some (.cells (expC alY none 0 0 ++ expC (alN 1) none 0 0).toArray 36 (0, 0)) := heapNew rfl
  have HR1 := Lib.hid ((hb4.block _ (Array.getElem?_eq_some_iff.1 hr1).1).trans hr1)
  have HB4 := Lib.hid (below_next (below_next HB3.out (belowA (Below.refl _ _) _)) hb4)
  clear hb4 hr1
  go_wp2_with fail
  have b4 : Below w4.heap.size w4 ((w4.alloc (.cells (expC alS (some ⟨w3.heap.size, 0, none⟩) 2 2 ++ expC (alN 2) none 0 0).toArray 36)).alloc (.cells (expC alX none 0 0 ++ expC alP (some ⟨w4.heap.size, 0, none⟩) 2 2).toArray 36)) := belowA (belowA (Below.refl _ _) _) _
  have r1 := (b4.block _ (Array.getElem?_eq_some_iff.1 HR1.out).1).trans HR1.out
  have r2 : ((w4.alloc (.cells (expC alS (some ⟨w3.heap.size, 0, none⟩) 2 2 ++ expC (alN 2) none 0 0).toArray 36)).alloc (.cells (expC alX none 0 0 ++ expC alP (some ⟨w4.heap.size, 0, none⟩) 2 2).toArray 36)).heap[w4.heap.size]? = some (.cells (expC alS (some ⟨w3.heap.size, 0, none⟩) 2 2 ++ expC (alN 2) none 0 0).toArray 36 (0, 0)) := heapOld (heapNew rfl)
  have r3 : ((w4.alloc (.cells (expC alS (some ⟨w3.heap.size, 0, none⟩) 2 2 ++ expC (alN 2) none 0 0).toArray 36)).alloc (.cells (expC alX none 0 0 ++ expC alP (some ⟨w4.heap.size, 0, none⟩) 2 2).toArray 36)).heap[w4.heap.size + 1]? = some (.cells (expC alX none 0 0 ++ expC alP (some ⟨w4.heap.size, 0, none⟩) 2 2).toArray 36 (0, 0)) := heapNew (by simp)
  have z0 : (0 : Nat) ≤ reachN := Nat.zero_le _
  have lf : ∀ (d : Nat) (W : World) (k : Int), fits k → ExpAt d W (alN k) none 0 0 := fun d W k hk => leaf_at rfl fits0 z0 ⟨fits1, hk, z0⟩
  have lv : ∀ (d : Nat) (W : World) (s : ByteArray), s.size ≤ reachN → ExpAt d W (.mk 0 ⟨s, gv0⟩ []) none 0 0 := fun d W s hs => leaf_at rfl fits0 hs gv0_ok
  have s1 := pair_is r1 (lv 0 _ ⟨#[89]⟩ (by simp [reachN, ByteArray.size])) (lf 0 _ 1 (by unfold fits; decide))
  have s2 := pair_is r2 (x := alS) (y := alN 2) ⟨by unfold fits alS; decide, z0, gv0_ok, s1⟩ (lf 1 _ 2 (by unfold fits; decide))
  have s3 := pair_is r3 (x := alX) (y := alP) (lv 2 _ ⟨#[88]⟩ (by simp [reachN, ByteArray.size])) ⟨by unfold fits alP; decide, z0, gv0_ok, s2⟩
  have HC := Lib.hid (topExp_any 3 alE (some ⟨w4.heap.size + 1, 0, none⟩) 2 2 _ s3 z0 gv0_ok (HL.out _ (below_next HB4.out b4)) (HS.out _ (below_next HB4.out b4)) (fun _ => by rw [alE_text]; simp))
  unfold ShP at HC
  rw [alE_right, alE_text] at HC
  have HBe := Lib.hid (below_next HB4.out b4)
  clear r1 r2 r3 s1 s2 s3 lf lv z0 b4 HR1 HB4 HB3
  refine HC.out.mono ?_
  rintro e w5 ⟨rfl, hb5⟩
  have hB := below_next HBe.out hb5
  clear hb5 HBe HC
  simp only [if_true]
  have rs : ((bytes [88, 32, 45, 32, 40, 89, 32, 43, 32, 49, 41, 32, 42, 32, 50]).toList == [88, 32, 45, 32, 40, 89, 32, 43, 32, 49, 41, 32, 42, 32, 50]) = true := by rw [bytes_list]; simp
  go_wp2_with fail
  go_ret
  exact ⟨rfl, hB⟩
end Go.Proofs.YtplekbpmfaghbaaGreatDoor

/- Depths lifted; two literals side by side; a rule of two literals. Plain. -/
namespace Go.Proofs.YtplekbpmfaghbaaGreatDoor
open Go.RowKit

theorem SliceIs.up {α : Type} {E E' : Enc α} {w : World} {B : Nat} {A : Option Addr} {n c : Nat} {l : List α} (hs : E'.sz = E.sz) (h : ∀ cs x, E.ok w B cs x → E'.ok w B cs x) (hl : SliceIs E w B A n c l) : SliceIs E' w B A n c l := by
  obtain ⟨h1, h2, h3, hr, h4⟩ := hl
  refine ⟨h1, h2, h3, hr, ?_⟩
  rcases h4 with h4 | ⟨b, o, hA, hb, hc⟩
  · exact .inl h4
  · refine .inr ⟨b, o, hA, hb, fun i x hx => ?_⟩
    obtain ⟨cs, hok, hcs⟩ := hc i x hx
    exact ⟨cs, h cs x hok, by rw [hs]; exact hcs⟩
theorem exp_up1 : ∀ (d : Nat) (w : World) (B : Nat) (cs : List Value) (x : GExp), (Enc.exp d).ok w B cs x → (Enc.exp (d + 1)).ok w B cs x
  | 0, _, _, _, _, h => h.elim
  | d + 1, w, B, cs, x, h => by
    obtain ⟨A, n, c, rfl, h1, h2, h3, h4⟩ := h
    exact ⟨A, n, c, rfl, h1, h2, h3, h4.up (by rw [Enc.exp_sz, Enc.exp_sz]) (fun cs x => exp_up1 d w B cs x)⟩
theorem exp_up {w : World} {B : Nat} {cs : List Value} {x : GExp} : ∀ (k d : Nat), (Enc.exp d).ok w B cs x → (Enc.exp (d + k)).ok w B cs x
  | 0, _, h => h
  | k + 1, d, h => exp_up1 (d + k) w B cs x (exp_up k d h)
theorem kids_up {d d' : Nat} {w : World} {B : Nat} {A : Option Addr} {n c : Nat} {l : List GExp} (hd : d ≤ d') (h : SliceIs (Enc.exp d) w B A n c l) : SliceIs (Enc.exp d') w B A n c l :=
  h.up (by rw [Enc.exp_sz, Enc.exp_sz]) (fun cs x hx => by
    have := exp_up (d' - d) d hx
    rwa [show d + (d' - d) = d' by omega] at this)
theorem LitAt.up {d d' : Nat} {w : World} {B : Nat} {x : GLit} {a p q : Hd} (hd : d ≤ d') (h : LitAt d w B x a p q) : LitAt d' w B x a p q :=
  ⟨h.k, h.op, h.pos, h.rel, h.args, h.lop, h.lx, h.lv, kids_up hd h.lk, h.rop, h.rx, h.rv, kids_up hd h.rk⟩
theorem two_lits {d : Nat} {W : World} {b : Nat} {T : TypeId} {x y : GLit} {a p q a' p' q' : Hd} (hrow : W.heap[b]? = some (.cells (litC x a p q ++ litC y a' p' q').toArray T (0, 0))) (hx : LitAt d W W.heap.size x a p q) (hy : LitAt d W W.heap.size y a' p' q') :
    SliceIs (Enc.lit d) W W.heap.size (some ⟨b, 0, none⟩) 2 2 [x, y] := by
  refine ⟨rfl, by omega, by simp [maxLen], by simp [reachN], .inr ⟨b, 0, rfl, (Array.getElem?_eq_some_iff.1 hrow).1, fun i e hi => ?_⟩⟩
  match i, hi with
  | 0, hi =>
    simp at hi; subst hi
    refine ⟨litC x a p q, ⟨a, p, q, rfl, hx⟩, fun j v hj => ?_⟩
    show W.cell? ⟨b, 0 + 0 * 17 + j, none⟩ = some v
    rw [cell_of_row _ _ _ _ _ _ hrow]
    have hl : j < 17 := (List.getElem?_eq_some_iff.1 hj).1
    simp only [Nat.zero_mul, Nat.zero_add, List.getElem?_toArray]
    rw [List.getElem?_append_left (show j < (litC x a p q).length from hl)]
    exact hj
  | 1, hi =>
    simp at hi; subst hi
    refine ⟨litC y a' p' q', ⟨a', p', q', rfl, hy⟩, fun j v hj => ?_⟩
    show W.cell? ⟨b, 0 + 1 * 17 + j, none⟩ = some v
    rw [cell_of_row _ _ _ _ _ _ hrow]
    simp only [Nat.one_mul, Nat.zero_add, List.getElem?_toArray]
    rw [List.getElem?_append_right (show (litC x a p q).length ≤ 17 + j by show 17 ≤ 17 + j; omega)]
    rw [show 17 + j - (litC x a p q).length = j by show 17 + j - 17 = j; omega]
    exact hj
  | i + 2, hi => simp at hi
def zE : GExp := .mk 0 zT []
/-- a literal that holds an expression alone -/
def litOf (x : GExp) : GLit := ⟨0, ⟨⟨#[]⟩, []⟩, 0, x, zE, 0⟩
/-- a rule whose body is two literals -/
def ruleOf (l m : GLit) : GRule := ⟨⟨⟨#[]⟩, []⟩, 0, 0, [l, m], 0⟩
theorem szOf_pos {l : GLit} {x : GExp} {v : Int} (h : 0 ≤ szR (ruleOf l (litOf x)) v) : (0 ≤ szLit l (v - 1) ∧ szLit l (v - 1) ≤ v) ∧ ∃ u : Int, u ≤ v ∧ 0 ≤ szE x u := by
  unfold szR ruleOf szA at h
  simp only [szT, szB] at h
  have e0 : ((⟨#[]⟩ : ByteArray).size / 50 : Nat) = 0 := rfl
  rw [e0] at h
  simp only [Int.ofNat_zero, Int.add_zero] at h
  split at h
  · omega
  · rename_i h1
    split at h
    · omega
    · rename_i h2
      have h3 := szLit_le l (v - 1)
      refine ⟨⟨by omega, by omega⟩, szA (litOf x).atom (szLit l (v - 1)), ?_, ?_⟩
      · have := szA_le (litOf x).atom (szLit l (v - 1)); omega
      · have h' : 0 ≤ szE zE (szE x (szA (litOf x).atom (szLit l (v - 1)))) := h
        have := szE_pos _ _ h'
        omega
end Go.Proofs.YtplekbpmfaghbaaGreatDoor

/- New boxes, each filled with what a call gives ('a, b, c := f(x), g(y), h(z)'), in a drawn region: the joint word of XDrawnJ, for any number of boxes. Nothing of any program. -/
namespace Go.Proofs.YtplekbpmfaghbaaGreatDoor
open Go.RowKit

/-- a box: the allocating operation, the storing one (st: is it ahead of the region's last?), the call's; the slots of the box and of the call's value; type, zero cells; what is known of the value: it lies in blocks from lo to hi -/
structure BoxSpec where
  ia : Nat
  is : Nat
  ic : Nat
  d : Nat
  c : Nat
  st : Bool
  T : TypeId
  zs : Array Value
  P : Array Value → Nat → Nat → World → Prop
structure Apart (n : Nat) (sp : Nat → BoxSpec) : Prop where
  aa : ∀ k, k < n → ∀ j, j < n → k ≠ j → (sp k).ia ≠ (sp j).ia
  ac : ∀ k, k < n → ∀ j, j < n → (sp k).ia ≠ (sp j).ic
  ai : ∀ k, k < n → ∀ j, j < n → (sp k).ia ≠ (sp j).is
  cc : ∀ k, k < n → ∀ j, j < n → k ≠ j → (sp k).ic ≠ (sp j).ic
  ci : ∀ k, k < n → ∀ j, j < n → (sp k).ic ≠ (sp j).is
  ii : ∀ k, k < n → ∀ j, j < n → k ≠ j → (sp k).is ≠ (sp j).is
  dd : ∀ k, k < n → ∀ j, j < n → k ≠ j → (sp k).d ≠ (sp j).d
  dc : ∀ k, k < n → ∀ j, j < n → (sp k).d ≠ (sp j).c
  ee : ∀ k, k < n → ∀ j, j < n → k ≠ j → (sp k).c ≠ (sp j).c
/-- the word, its witnesses named -/
structure BoxAt (n : Nat) (sp : Nat → BoxSpec) (B : Nat) (l : Nat → Bool) (t : Array Value) (W : World) (g lo hi : Nat → Nat) (v : Nat → Array Value) : Prop where
  box : ∀ k, k < n → l (sp k).ia = true → t[(sp k).d]? = some (.pointer (some ⟨g k, 0, none⟩)) ∧ B ≤ g k ∧ g k < W.heap.size ∧ W.heap[g k]? = some (.cells (if (sp k).st && l (sp k).is then v k else (sp k).zs) (sp k).T (0, 0))
  two : ∀ k, k < n → ∀ j, j < n → k ≠ j → l (sp k).ia = true → l (sp j).ia = true → g k ≠ g j
  val : ∀ k, k < n → l (sp k).ic = true → t[(sp k).c]? = some (.agg (v k)) ∧ hi k ≤ W.heap.size ∧ (v k).size = (sp k).zs.size ∧ (sp k).P (v k) (lo k) (hi k) W
  far : ∀ k, k < n → ∀ j, j < n → l (sp k).ic = true → l (sp j).ia = true → ¬ (lo k ≤ g j ∧ g j < hi k)
  ord : ∀ k, k < n → (sp k).st = true → l (sp k).is = true → l (sp k).ia = true ∧ l (sp k).ic = true
def boxJ (n : Nat) (sp : Nat → BoxSpec) (B : Nat) (l : Nat → Bool) (t : Array Value) (W : World) : Prop := ∃ g lo hi v, BoxAt n sp B l t W g lo hi v
/-- what is known of a value stays while its blocks stay -/
def Firm (n : Nat) (sp : Nat → BoxSpec) : Prop := ∀ k, k < n → ∀ (v : Array Value) (lo hi : Nat) (W W' : World), (sp k).P v lo hi W → (∀ b, lo ≤ b → b < hi → W'.heap[b]? = W.heap[b]?) → (sp k).P v lo hi W'
section
variable {n : Nat} {sp : Nat → BoxSpec} {B : Nat} {l l' : Nat → Bool} {a : Act} {W W' : World}
theorem put_other {o : Option Tmp} {v : Value} {d : Nat} (hd : o ≠ some d) : (a.put o v).tmps[d]? = a.tmps[d]? := by
  cases o with
  | none => rfl
  | some q => simp only [Act.put]; exact Array.getElem?_setIfInBounds_ne (by intro e; exact hd (by rw [e]))
theorem boxJ_nil (t : Array Value) (hl : ∀ j, l j = false) : boxJ n sp B l t W :=
  ⟨fun _ => 0, fun _ => 0, fun _ => 0, fun _ => #[], ⟨(fun k _ h => absurd h (by simp [hl])), (fun k _ j _ _ h => absurd h (by simp [hl])), (fun k _ h => absurd h (by simp [hl])), (fun k _ j _ h => absurd h (by simp [hl])), (fun k _ _ h => absurd h (by simp [hl]))⟩⟩
theorem boxJ_val {o : Option Tmp} {v : Value} {i : Nat} (h : boxJ n sp B l a.tmps W) (hi : ∀ k, k < n → i ≠ (sp k).ia ∧ i ≠ (sp k).ic ∧ i ≠ (sp k).is) (ho : ∀ k, k < n → o ≠ some (sp k).d ∧ o ≠ some (sp k).c) (_ : l' i = true) (hl : ∀ j, j ≠ i → l' j = l j) : boxJ n sp B l' (a.put o v).tmps W := by
  obtain ⟨g, lo, hi', vv, h1, h2, h3, h4, h5⟩ := h
  have ea : ∀ k, k < n → l' (sp k).ia = l (sp k).ia := fun k hk => hl _ (Ne.symm (hi k hk).1)
  have ec : ∀ k, k < n → l' (sp k).ic = l (sp k).ic := fun k hk => hl _ (Ne.symm (hi k hk).2.1)
  have ei : ∀ k, k < n → l' (sp k).is = l (sp k).is := fun k hk => hl _ (Ne.symm (hi k hk).2.2)
  refine ⟨g, lo, hi', vv, fun k hk h => ?_, fun k hk j hj hkj h h' => ?_, fun k hk h => ?_, fun k hk j hj h h' => ?_, fun k hk hs h => ?_⟩
  · rw [ea k hk] at h; rw [ei k hk, put_other (ho k hk).1]; exact h1 k hk h
  · rw [ea k hk] at h; rw [ea j hj] at h'; exact h2 k hk j hj hkj h h'
  · rw [ec k hk] at h; rw [put_other (ho k hk).2]; exact h3 k hk h
  · rw [ec k hk] at h; rw [ea j hj] at h'; exact h4 k hk j hj h h'
  · rw [ei k hk] at h; rw [ea k hk, ec k hk]; exact h5 k hk hs h
theorem boxJ_call (hA : Apart n sp) (hF : Firm n sp) (h : boxJ n sp B l a.tmps W) {k : Nat} (hk : k < n) (hc : (sp k).c < a.tmps.size) (hof : l (sp k).ic = false) (hb : Below W.heap.size W W') {v : Array Value} (hv : v.size = (sp k).zs.size) (hP : (sp k).P v W.heap.size W'.heap.size W')
    (_ : l' (sp k).ic = true) (hl : ∀ j, j ≠ (sp k).ic → l' j = l j) : boxJ n sp B l' (a.put (some (sp k).c) (.agg v)).tmps W' := by
  obtain ⟨g, lo, hi, vv, h1, h2, h3, h4, h5⟩ := h
  have ea : ∀ j, j < n → l' (sp j).ia = l (sp j).ia := fun j hj => hl _ (hA.ac j hj k hk)
  have ei : ∀ j, j < n → l' (sp j).is = l (sp j).is := fun j hj => hl _ (Ne.symm (hA.ci k hk j hj))
  have ec : ∀ j, j < n → j ≠ k → l' (sp j).ic = l (sp j).ic := fun j hj hjk => hl _ (hA.cc j hj k hk hjk)
  have hs0 : ((sp k).st && l (sp k).is) = false := by
    cases e1 : (sp k).st
    · rfl
    · cases e2 : l (sp k).is
      · rfl
      · have := (h5 k hk e1 e2).2; rw [hof] at this; cases this
  refine ⟨g, fun j => if j = k then W.heap.size else lo j, fun j => if j = k then W'.heap.size else hi j, fun j => if j = k then v else vv j, fun j hj h => ?_, fun i hi' j hj hij h h' => ?_, fun j hj h => ?_, fun i hi' j hj h h' => ?_, fun j hj hs h => ?_⟩
  · rw [ea j hj] at h
    obtain ⟨k1, k2, k3, k4⟩ := h1 j hj h
    refine ⟨?_, k2, Nat.lt_of_lt_of_le k3 hb.size, ?_⟩
    · rw [put_other (by intro e; injection e with e; exact hA.dc j hj k hk e.symm)]; exact k1
    · rw [ei j hj]
      refine (hb.block _ k3).trans (k4.trans ?_)
      by_cases hjk : j = k
      · subst hjk; simp only [hs0, if_false, Bool.false_eq_true]
      · simp only [if_neg hjk]
  · rw [ea i hi'] at h; rw [ea j hj] at h'; exact h2 i hi' j hj hij h h'
  · by_cases hjk : j = k
    · subst hjk
      simp only [if_true]
      exact ⟨by simp [Act.put, hc], Nat.le_refl _, hv, hP⟩
    · rw [ec j hj hjk] at h
      obtain ⟨k1, k2, k3, k4⟩ := h3 j hj h
      simp only [if_neg hjk]
      refine ⟨?_, Nat.le_trans k2 hb.size, k3, hF j hj _ _ _ _ _ k4 (fun b _ hb' => hb.block b (by omega))⟩
      rw [put_other (by intro e; injection e with e; exact hA.ee k hk j hj (Ne.symm hjk) e)]; exact k1
  · rw [ea j hj] at h'
    by_cases hik : i = k
    · subst hik
      simp only [if_true]
      have := (h1 j hj h').2.2.1
      omega
    · rw [ec i hi' hik] at h
      simp only [if_neg hik]
      exact h4 i hi' j hj h h'
  · rw [ei j hj] at h
    obtain ⟨q1, q2⟩ := h5 j hj hs h
    rw [ea j hj]
    refine ⟨q1, ?_⟩
    by_cases hjk : j = k
    · subst hjk; assumption
    · rw [ec j hj hjk]; exact q2
theorem boxJ_alloc (hA : Apart n sp) (hF : Firm n sp) (h : boxJ n sp B l a.tmps W) {k : Nat} (hk : k < n) (hd : (sp k).d < a.tmps.size) (hB : B ≤ W.heap.size) (hof : l (sp k).ia = false)
    (_ : l' (sp k).ia = true) (hl : ∀ j, j ≠ (sp k).ia → l' j = l j) : boxJ n sp B l' (a.put (some (sp k).d) (.pointer (some ⟨W.heap.size, 0, none⟩))).tmps (W.alloc (.cells (sp k).zs (sp k).T)) := by
  obtain ⟨g, lo, hi, vv, h1, h2, h3, h4, h5⟩ := h
  have ea : ∀ j, j < n → j ≠ k → l' (sp j).ia = l (sp j).ia := fun j hj hjk => hl _ (hA.aa j hj k hk hjk)
  have ei : ∀ j, j < n → l' (sp j).is = l (sp j).is := fun j hj => hl _ (Ne.symm (hA.ai k hk j hj))
  have ec : ∀ j, j < n → l' (sp j).ic = l (sp j).ic := fun j hj => hl _ (Ne.symm (hA.ac k hk j hj))
  have hs0 : ((sp k).st && l (sp k).is) = false := by
    cases e1 : (sp k).st
    · rfl
    · cases e2 : l (sp k).is
      · rfl
      · have := (h5 k hk e1 e2).1; rw [hof] at this; cases this
  have hb : Below W.heap.size W (W.alloc (.cells (sp k).zs (sp k).T)) := belowA (Below.refl _ _) _
  refine ⟨fun j => if j = k then W.heap.size else g j, lo, hi, vv, fun j hj h => ?_, fun i hi' j hj hij h h' => ?_, fun j hj h => ?_, fun i hi' j hj h h' => ?_, fun j hj hs h => ?_⟩
  · by_cases hjk : j = k
    · subst hjk
      simp only [if_true]
      refine ⟨by simp [Act.put, hd], hB, by simp, ?_⟩
      rw [ei j hj, hs0]
      exact heapNew rfl
    · rw [ea j hj hjk] at h
      obtain ⟨k1, k2, k3, k4⟩ := h1 j hj h
      simp only [if_neg hjk]
      refine ⟨?_, k2, Nat.lt_of_lt_of_le k3 hb.size, ?_⟩
      · rw [put_other (by intro e; injection e with e; exact hA.dd k hk j hj (Ne.symm hjk) e)]; exact k1
      · rw [ei j hj]; exact (hb.block _ k3).trans k4
  · by_cases hik : i = k
    · subst hik
      have hjk : j ≠ i := Ne.symm hij
      rw [ea j hj hjk] at h'
      simp only [if_true, if_neg hjk]
      have := (h1 j hj h').2.2.1
      omega
    · by_cases hjk : j = k
      · subst hjk
        rw [ea i hi' hik] at h
        simp only [if_true, if_neg hik]
        have := (h1 i hi' h).2.2.1
        omega
      · rw [ea i hi' hik] at h; rw [ea j hj hjk] at h'
        simp only [if_neg hik, if_neg hjk]
        exact h2 i hi' j hj hij h h'
  · rw [ec j hj] at h
    obtain ⟨k1, k2, k3, k4⟩ := h3 j hj h
    refine ⟨?_, Nat.le_trans k2 hb.size, k3, hF j hj _ _ _ _ _ k4 (fun b _ hb' => hb.block b (by omega))⟩
    rw [put_other (by intro e; injection e with e; exact hA.dc k hk j hj e)]; exact k1
  · rw [ec i hi'] at h
    by_cases hjk : j = k
    · subst hjk
      simp only [if_true]
      have := (h3 i hi' h).2.1
      omega
    · rw [ea j hj hjk] at h'
      simp only [if_neg hjk]
      exact h4 i hi' j hj h h'
  · rw [ei j hj] at h
    obtain ⟨q1, q2⟩ := h5 j hj hs h
    rw [ec j hj]
    refine ⟨?_, q2⟩
    by_cases hjk : j = k
    · subst hjk; assumption
    · rw [ea j hj hjk]; exact q1
/-- a box that is filled: the row ahead, and the word behind -/
theorem boxJ_store (hA : Apart n sp) (hF : Firm n sp) (h : boxJ n sp B l a.tmps W) {k : Nat} (hk : k < n) (hst : (sp k).st = true) (ha : l (sp k).ia = true) (hc : l (sp k).ic = true) (hof : l (sp k).is = false) :
    ∃ (g : Nat) (v : Array Value), a.tmps[(sp k).d]? = some (.pointer (some ⟨g, 0, none⟩)) ∧ a.tmps[(sp k).c]? = some (.agg v) ∧ B ≤ g ∧ v.size = (sp k).zs.size ∧ W.heap[g]? = some (.cells (sp k).zs (sp k).T (0, 0)) ∧ (∃ lo hi, (sp k).P v lo hi W) ∧
      ∀ (u : Value) (l' : Nat → Bool), l' (sp k).is = true → (∀ j, j ≠ (sp k).is → l' j = l j) → boxJ n sp B l' (a.put none u).tmps (W.setRow g v) := by
  obtain ⟨g, lo, hi, vv, h1, h2, h3, h4, h5⟩ := h
  obtain ⟨b1, b2, b3, b4⟩ := h1 k hk ha
  obtain ⟨v1, v2, v3, v4⟩ := h3 k hk hc
  rw [hof, Bool.and_false] at b4
  refine ⟨g k, vv k, b1, v1, b2, v3, b4, ⟨_, _, v4⟩, fun u l' hl1 hl => ?_⟩
  have ea : ∀ j, j < n → l' (sp j).ia = l (sp j).ia := fun j hj => hl _ (hA.ai j hj k hk)
  have ec : ∀ j, j < n → l' (sp j).ic = l (sp j).ic := fun j hj => hl _ (hA.ci j hj k hk)
  have ei : ∀ j, j < n → j ≠ k → l' (sp j).is = l (sp j).is := fun j hj hjk => hl _ (hA.ii j hj k hk hjk)
  refine ⟨g, lo, hi, vv, fun j hj h => ?_, fun i hi' j hj hij h h' => ?_, fun j hj h => ?_, fun i hi' j hj h h' => ?_, fun j hj hs h => ?_⟩
  · rw [ea j hj] at h
    obtain ⟨k1, k2, k3, k4⟩ := h1 j hj h
    refine ⟨k1, k2, by rw [setRow_size]; exact k3, ?_⟩
    by_cases hjk : j = k
    · subst hjk
      rw [hl1, hst]
      exact setRow_at b4
    · rw [ei j hj hjk, setRow_ne (h2 j hj k hk hjk h ha)]; exact k4
  · rw [ea i hi'] at h; rw [ea j hj] at h'; exact h2 i hi' j hj hij h h'
  · rw [ec j hj] at h
    obtain ⟨k1, k2, k3, k4⟩ := h3 j hj h
    have := h4 j hj k hk h ha
    refine ⟨k1, by rw [setRow_size]; exact k2, k3, hF j hj _ _ _ _ _ k4 (fun b hb1 hb2 => setRow_ne (fun e => this ⟨e ▸ hb1, e ▸ hb2⟩))⟩
  · rw [ec i hi'] at h; rw [ea j hj] at h'; exact h4 i hi' j hj h h'
  · by_cases hjk : j = k
    · subst hjk
      rw [ea j hj, ec j hj]; exact ⟨ha, hc⟩
    · rw [ei j hj hjk] at h
      rw [ea j hj, ec j hj]; exact h5 j hj hs h
end
end Go.Proofs.YtplekbpmfaghbaaGreatDoor

/- corollarylaw05.Atom, Literal: an atom and a literal of the program's as the document's. -/
namespace Go.Proofs.YtplekbpmfaghbaaGreatDoor
open Go.RowKit

theorem told_okA {w : World} {B : Nat} {A : Option Addr} {n c : Nat} {l : List GTold} (h : SliceIs Enc.told w B A n c l) : ∀ t ∈ l, t.x.size ≤ reachN ∧ t.v.ok := by
  intro t ht
  rcases h.2.2.2.2 with h4 | ⟨b, o, _, _, hc⟩
  · subst h4; cases ht
  · obtain ⟨i, hi⟩ := List.mem_iff_getElem?.1 ht
    obtain ⟨cs, hok, _⟩ := hc i t hi
    exact hok.2
def CopyAtom (x : GAtom) (w : World) (r : Ending) (w' : World) : Prop :=
  ∃ (A : Option Addr) (c : Nat), r = .returned (.agg (atomC x ⟨A, x.args.length, c⟩).toArray) ∧ w'.ownsRow w.heap.size 48 4 (.slice A x.args.length c) x.args.length (x.args.flatMap GTold.cells) ∧ Below w.heap.size w w'
theorem own_far {w : World} {base : Nat} {A : Option Addr} {n c : Nat} {l : List GTold} (h : w.ownsRow base 48 4 (.slice A n c) n (l.flatMap GTold.cells)) (hl : l.length = n) (hn : n ≤ 1000000) (hok : ∀ t ∈ l, t.x.size ≤ reachN ∧ t.v.ok) : SliceFar Enc.told w (List.range base) A n c l := by
  have h2 := own_sans (S := List.range base) h (fun b hb' => by have := List.mem_range.1 hb'; omega)
  have h3 := SliceIs.of_flat (E := Enc.told) GTold.cells (fun _ => rfl) h2 hl (by simp [reachN]; omega) (fun q hq => ⟨rfl, hok q hq⟩)
  rw [sans_size] at h3
  exact h3
set_option maxRecDepth 100000 in
set_option maxHeartbeats 4000000 in
theorem copyAtom_any (x : GAtom) (a : Hd) (w : World) (hk : SliceIs Enc.told w w.heap.size a.A a.n a.c x.args) (hx : x.rel.size ≤ reachN) (hs : x.args.length ≤ 1500) :
    Calls Tryz.prog 65 #[.agg (atomC x a).toArray] w (CopyAtom x w) := by
  have hn := hk.bound
  have HK := Lib.hid hk
  have Hlen := Lib.hid hk.1
  have Hok := Lib.hid (told_okA hk)
  obtain ⟨P, HP⟩ : ∃ P : Ending → World → Prop, Hid (P = CopyAtom x w) := ⟨_, rfl⟩
  rw [← HP.out]
  obtain ⟨A, n, c⟩ := a
  dsimp only [Hd.v] at *
  have hrb : (w.alloc (.cells (atomC x ⟨A, n, c⟩).toArray 24)).heap[w.heap.size]? = some (.cells (atomC x ⟨A, n, c⟩).toArray 24 (0, 0)) := heapNew rfl
  obtain ⟨b0, b1⟩ := facts2 hrb
  dsimp only [Hd.v] at b0 b1
  have hr2 : (((w.alloc (.cells (atomC x ⟨A, n, c⟩).toArray 24)).alloc (.cells #[.string ⟨#[]⟩, .slice none 0 0] 43)).alloc (.cells (atomC x ⟨none, 0, 0⟩).toArray 43)).heap[w.heap.size + 2]? = some (.cells (atomC x ⟨none, 0, 0⟩).toArray 43 (0, 0)) := heapNew (by simp)
  have hr1 : (((w.alloc (.cells (atomC x ⟨A, n, c⟩).toArray 24)).alloc (.cells #[.string ⟨#[]⟩, .slice none 0 0] 43)).alloc (.cells (atomC x ⟨none, 0, 0⟩).toArray 43)).heap[w.heap.size + 1]? = some (.cells #[.string ⟨#[]⟩, .slice none 0 0] 43 (0, 0)) := heapOld (heapNew (by simp))
  have hbw : Below w.heap.size w (((w.alloc (.cells (atomC x ⟨A, n, c⟩).toArray 24)).alloc (.cells #[.string ⟨#[]⟩, .slice none 0 0] 43)).alloc (.cells (atomC x ⟨none, 0, 0⟩).toArray 43)) := belowA (belowA (belowA (Below.refl _ _) _) _) _
  have hzw : (((w.alloc (.cells (atomC x ⟨A, n, c⟩).toArray 24)).alloc (.cells #[.string ⟨#[]⟩, .slice none 0 0] 43)).alloc (.cells (atomC x ⟨none, 0, 0⟩).toArray 43)).heap.size = w.heap.size + 3 := by simp
  have Hx := Lib.hid hx
  clear hk hrb hx
  show Calls Tryz.prog 65 #[.agg #[.string x.rel, .slice A n c]] w P
  go_enter Tryz.func65, Tryz.ntmps65
  go_wp2_with fail
  try simp only [Nat.add_assoc, Nat.reduceAdd]
  generalize hw3 : ((w.alloc _).alloc _).alloc _ = w3
  rw [hw3] at hr2 hr1 hbw hzw
  have HZ := Lib.hid hzw
  clear hzw b0 b1 hw3
  go_loopw [12] (fun i wr => ∃ (j c' : Nat) (A' : Option Addr), j ≤ n ∧ i = .int .i64 j ∧ Hid (wr.ownsRow (w.heap.size + 3) 48 4 (.slice A' j c') j ((x.args.take j).flatMap GTold.cells)) ∧ wr.heap[w.heap.size + 2]? = some (.cells (atomC x ⟨A', j, c'⟩).toArray 43 (0, 0)) ∧ wr.heap[w.heap.size + 1]? = some (.cells #[.string ⟨#[]⟩, .slice none 0 0] 43 (0, 0)) ∧ Below w.heap.size w wr ∧ w.heap.size + 3 ≤ wr.heap.size) (fun i _ => n - (intOf i).toNat)
  case atStart => exact ⟨0, 0, none, by omega, rfl, World.ownsRow_nil _ _ _ _, hr2, hr1, hbw, by have := HZ.out; omega⟩
  case round =>
    obtain ⟨j, c', A', hj, rfl, HO, hg, hg1, hbr, hzr⟩ := hrel
    have i0 : (0 : Int) ≤ (j : Int) := by omega
    obtain ⟨q0, q1⟩ := facts2 hg
    dsimp only [Hd.v] at q0 q1
    by_cases hlt : j < n
    · have i1 : (j : Int) < (n : Int) := by omega
      obtain ⟨b, o, t, rfl, hb, ht, x0, x1, x2, x3, f1, f2⟩ := (HK.out.below hbr).told_at hlt
      have HT : Hid (x.args.take (j + 1) = x.args.take j ++ [t]) := by show _ = _; rw [List.take_add_one, ht.out]; rfl
      have hba : Below wr.heap.size wr (wr.alloc (.cells #[.string t.x, .int .i64 t.v.k, .int .i64 t.v.n, .string t.v.s] 33)) := belowA (Below.refl _ _) _
      have hn1 : j + 1 ≤ 1500 := by have := Hlen.out; omega
      have hgA := heapOld (o := .cells #[.string t.x, .int .i64 t.v.k, .int .i64 t.v.n, .string t.v.s] 33) hg
      have hg1A := heapOld (o := .cells #[.string t.x, .int .i64 t.v.k, .int .i64 t.v.n, .string t.v.s] 33) hg1
      obtain ⟨r0, r1⟩ := facts2 hgA
      dsimp only [Hd.v] at r0 r1
      have HOA := own_below HO.out hba
      obtain ⟨A2, c2, w4, hrun, hown2, hb4, hk4⟩ := term5_push HOA t (by omega) (by simp; omega)
      simp only [World.size_alloc] at hrun
      have HRun := Lib.hid hrun
      have hbA := below_next hbr hba
      have hgB := hk4 _ _ _ _ hgA (by decide)
      have hg1B := hk4 _ _ _ _ hg1A (by decide)
      have hz4 : wr.heap.size + 1 ≤ w4.heap.size := by have := hb4.size; simp at this; exact this
      have hB2 : Below w.heap.size w (w4.setCell ⟨w.heap.size + 2, 1, none⟩ (.slice A2 (j + 1) c2)) := (hbA.trans (hb4.mono (by omega))).setCell (by show w.heap.size ≤ w.heap.size + 2; omega) _
      have HO2 : Hid ((w4.setCell ⟨w.heap.size + 2, 1, none⟩ (.slice A2 (j + 1) c2)).ownsRow (w.heap.size + 3) 48 4 (.slice A2 (j + 1) c2) (j + 1) ((x.args.take (j + 1)).flatMap GTold.cells)) := by
        show World.ownsRow _ _ _ _ _ _ _
        rw [HT.out]
        exact own_out' hown2 (set_out w4 _ 1 _) (fun b hb hb' => by have := (own_blk hown2 hb).1; simp at hb'; omega)
      have hG2 : (w4.setCell ⟨w.heap.size + 2, 1, none⟩ (.slice A2 (j + 1) c2)).heap[w.heap.size + 2]? = some (.cells (atomC x ⟨A2, j + 1, c2⟩).toArray 43 (0, 0)) := set_one hgB
      have hG1 : (w4.setCell ⟨w.heap.size + 2, 1, none⟩ (.slice A2 (j + 1) c2)).heap[w.heap.size + 1]? = some (.cells #[.string ⟨#[]⟩, .slice none 0 0] 43 (0, 0)) := (World.heap_setCells_other' (by omega)).trans hg1B
      have hzs : (w4.setCell ⟨w.heap.size + 2, 1, none⟩ (.slice A2 (j + 1) c2)).heap.size = w4.heap.size := World.size_setCell'
      have HZ2 : Hid (w.heap.size + 3 ≤ (w4.setCell ⟨w.heap.size + 2, 1, none⟩ (.slice A2 (j + 1) c2)).heap.size) := by show _ ≤ _; rw [hzs]; omega
      have k1 : w4.cell? ⟨w.heap.size + 2, 1, none⟩ = some (.slice A' j c') := (cell_of_row _ _ 1 _ _ _ hgB).trans rfl
      have k2 : w4.frozen? ⟨w.heap.size + 2, 1, none⟩ = false := frozen_of_row _ _ _ _ _ hgB
      have HG2 := Lib.hid hG2
      have HG1 := Lib.hid hG1
      have HB2 := Lib.hid hB2
      clear hrun hown2 hk4 hgA hg1A hgB hg1B hb4 hba hbA HOA HO ht hzs hG2 hG1 hB2 hg hg1
      go_wp2_with (at_builtin; refine wpList_append_run (o := ⟨some 20, _, _, _, _, _⟩) rfl _ _ _ rfl _ _ rfl rfl (HRun.out _) ?_)
      go_roundw
      case rel => exact ⟨j + 1, c2, A2, by omega, by go_num, HO2, HG2.out, HG1.out, HB2.out, HZ2.out⟩
      case measure => simp [intOf]; omega
    · have i1 : ¬ (j : Int) < (n : Int) := by omega
      have hjn : j = n := by omega
      subst hjn
      have hll := Hlen.out
      have hS := setRow_at (cs' := (atomC x ⟨A', j, c'⟩).toArray) hg1
      obtain ⟨s0, s1⟩ := facts2 hS
      dsimp only [Hd.v] at s0 s1
      have hbS : Below w.heap.size w (wr.setRow (w.heap.size + 1) (atomC x ⟨A', j, c'⟩).toArray) := ⟨hbr.os, hbr.tape, hbr.output, by rw [setRow_size]; exact hbr.size, fun x hx => (setRow_ne (by omega)).trans (hbr.block x hx)⟩
      have hoS : Out [w.heap.size + 1] wr (wr.setRow (w.heap.size + 1) (atomC x ⟨A', j, c'⟩).toArray) := ⟨rfl, rfl, rfl, by rw [setRow_size]; exact Nat.le_refl _, fun x _ hx => setRow_ne (by simpa using hx)⟩
      have hO3 := own_out' HO.out hoS (fun b hb hb' => by have := (own_blk HO.out hb).1; simp at hb'; omega)
      rw [List.take_of_length_le (by omega)] at hO3
      have hpost : P (.returned (.agg (atomC x ⟨A', j, c'⟩).toArray)) (wr.setRow (w.heap.size + 1) (atomC x ⟨A', j, c'⟩).toArray) := by
        rw [HP.out]
        refine ⟨A', c', by rw [hll], ?_, hbS⟩
        rw [hll]
        refine ⟨hO3.1, ?_⟩
        rcases hO3.2 with hn | ⟨g, cap, cur, hv, hbg, rest⟩
        · exact .inl hn
        · exact .inr ⟨g, cap, cur, hv, by omega, rest⟩
      have HPo := Lib.hid hpost
      clear HO hO3 hll hpost hoS hbS hS HP
      go_wp2_with (refine wpList_store_rowTo rfl 43 (.tmp 2) (.tmp 23) rfl rfl (w.heap.size + 1) (atomC x ⟨A', j, c'⟩).toArray rfl rfl 43 #[.string ⟨#[]⟩, .slice none 0 0] hg1 (by kernel_rfl) rfl (by simp [Value.oneCell']) ?_)
      refine bodyPost_ret (v := .agg (atomC x ⟨A', j, c'⟩).toArray) ?_ rfl HPo.out
      simp [results, Tryz.results65, go_sem, s0, s1]

/-- a literal whose rows are new -/
def CopyLit (d : Nat) (x : GLit) (w : World) (r : Ending) (w' : World) : Prop :=
  ∃ a p q : Hd, r = .returned (.agg (litC x a p q).toArray) ∧ LitAt d (sans w' (List.range w.heap.size)) w'.heap.size x a p q ∧ Below w.heap.size w w'
def litF (d : Nat) (x : GLit) (a p q : Hd) (g n0 : Nat) (i : Nat) (v : Value) (W : World) : Prop := match i with
  | 0 => v = .pointer (some ⟨g, 0, none⟩)
  | 1 => v = .int .i64 x.k
  | 2 => v = .pointer (some ⟨g, 1, none⟩)
  | 3 => v = .agg (atomC x.atom a).toArray
  | 4 => ∃ (A : Option Addr) (c : Nat), v = .agg (atomC x.atom ⟨A, x.atom.args.length, c⟩).toArray ∧ SliceFar Enc.told W (List.range n0) A x.atom.args.length c x.atom.args
  | 5 => v = .pointer (some ⟨g, 3, none⟩)
  | 6 => v = .int .i64 x.op
  | 7 => v = .pointer (some ⟨g, 4, none⟩)
  | 8 => v = .agg (expC x.l p.A p.n p.c).toArray
  | 9 => ∃ (A : Option Addr) (c : Nat), v = expV x.l A x.l.kids.length c ∧ SliceFar (Enc.exp d) W (List.range n0) A x.l.kids.length c x.l.kids
  | 10 => v = .pointer (some ⟨g, 10, none⟩)
  | 11 => v = .agg (expC x.r q.A q.n q.c).toArray
  | 12 => ∃ (A : Option Addr) (c : Nat), v = expV x.r A x.r.kids.length c ∧ SliceFar (Enc.exp d) W (List.range n0) A x.r.kids.length c x.r.kids
  | 13 => v = .pointer (some ⟨g, 16, none⟩)
  | 14 => v = .int .i64 x.pos
  | 15 => ∃ a p q : Hd, v = .agg (litC x a p q).toArray ∧ SliceFar Enc.told W (List.range n0) a.A a.n a.c x.atom.args ∧ SliceFar (Enc.exp d) W (List.range n0) p.A p.n p.c x.l.kids ∧ SliceFar (Enc.exp d) W (List.range n0) q.A q.n q.c x.r.kids
  | _ => True
theorem litF_keep {d : Nat} {x : GLit} {a p q : Hd} {g n0 i : Nat} {v : Value} {W W' : World} (h : litF d x a p q g n0 i v W) (hb : Below W.heap.size W W') : litF d x a p q g n0 i v W' := by
  match i, h with
  | 0, h => exact h
  | 1, h => exact h
  | 2, h => exact h
  | 3, h => exact h
  | 4, ⟨A, c, h1, h2⟩ => exact ⟨A, c, h1, h2.on hb⟩
  | 5, h => exact h
  | 6, h => exact h
  | 7, h => exact h
  | 8, h => exact h
  | 9, ⟨A, c, h1, h2⟩ => exact ⟨A, c, h1, h2.on hb⟩
  | 10, h => exact h
  | 11, h => exact h
  | 12, ⟨A, c, h1, h2⟩ => exact ⟨A, c, h1, h2.on hb⟩
  | 13, h => exact h
  | 14, h => exact h
  | 15, ⟨a, p, q, h1, h2, h3, h4⟩ => exact ⟨a, p, q, h1, h2.on hb, h3.on hb, h4.on hb⟩
  | _ + 16, _ => exact trivial
/-- what is new in a later call is new in the caller's eyes -/
theorem SliceFar.low {α : Type} {E : Enc α} {w : World} {n n0 : Nat} {A : Option Addr} {k c : Nat} {l : List α} (h : SliceFar E w (List.range n) A k c l) (hn : n0 ≤ n) : SliceFar E w (List.range n0) A k c l :=
  SliceFar.out (S := []) h (Out.refl _ _) (fun _ h _ => by cases h) (fun b hb _ => List.mem_range.2 (by have := List.mem_range.1 hb; omega))
abbrev zlC : List Value := [.int .i64 0, .string ⟨#[]⟩, .slice none 0 0, .int .i64 0, .int .i64 0, .string ⟨#[]⟩, .int .i64 0, .int .i64 0, .string ⟨#[]⟩, .slice none 0 0, .int .i64 0, .string ⟨#[]⟩, .int .i64 0, .int .i64 0, .string ⟨#[]⟩, .slice none 0 0, .int .i64 0]
set_option maxRecDepth 100000 in
set_option maxHeartbeats 4000000 in
theorem copyLit_any (d : Nat) (x : GLit) (a p q : Hd) (w : World) (hk : LitAt d w w.heap.size x a p q) (hs : SmLit x) :
    Calls Tryz.prog 15 #[.agg (litC x a p q).toArray] w (CopyLit d x w) := by
  have mixed : Tryz.prog.follows .mixedOrders = true := by kernel_rfl
  have hg0 : ((w.alloc (.cells (litC x a p q).toArray 38)).alloc (.cells zlC.toArray 53)).heap[w.heap.size]? = some (.cells (litC x a p q).toArray 38 (0, 0)) := heapOld (heapNew rfl)
  have hg1 : ((w.alloc (.cells (litC x a p q).toArray 38)).alloc (.cells zlC.toArray 53)).heap[w.heap.size + 1]? = some (.cells zlC.toArray 53 (0, 0)) := heapNew (by simp)
  have hbw : Below w.heap.size w ((w.alloc (.cells (litC x a p q).toArray 38)).alloc (.cells zlC.toArray 53)) := belowA (belowA (Below.refl _ _) _) _
  have hzw : ((w.alloc (.cells (litC x a p q).toArray 38)).alloc (.cells zlC.toArray 53)).heap.size = w.heap.size + 2 := by simp
  go_enter Tryz.func15, Tryz.ntmps15
  go_wp2_with fail
  generalize hwb : (w.alloc _).alloc _ = wb
  rw [hwb] at hg0 hg1 hbw hzw
  clear hwb
  have HK := Lib.hid (hk.keep hbw)
  have C1 := Lib.hid (fun (W : World) (h : Below wb.heap.size wb W) => copyAtom_any x.atom a W ((HK.out.keep h).args) hk.rel hs.args)
  have C2 := Lib.hid (fun (W : World) (h : Below wb.heap.size wb W) => copyExp_any d x.l p.A p.n p.c W ((HK.out.keep h).lk) hs.l hk.lop hk.lx hk.lv)
  have C3 := Lib.hid (fun (W : World) (h : Below wb.heap.size wb W) => copyExp_any d x.r q.A q.n q.c W ((HK.out.keep h).rk) hs.r hk.rop hk.rx hk.rv)
  refine drawn2 mixed 16 19 [3, 4, 5, 6, 7, 8, 9, 10, 11, 12, 13, 14, 15, 16, 17, 18] (fun _ W => Below wb.heap.size wb W) (litF d x a p q w.heap.size wb.heap.size) (fun _ W W' => Below W.heap.size W W') rfl (by kernel_rfl) (by kernel_rfl) rfl (fun j _ => below_drewN _ 1 _) (fun i j v W W' _ _ _ h h' => litF_keep h h') (fun _ _ _ _ _ _ _ _ h h' => below_next h h') ?_ ?_
  · intro i o2 a2 W hi ho hd hold hG _ hw
    have hr1 : a2.tmps[1]? = some (.pointer (some ⟨w.heap.size, 0, none⟩)) := hold 1 (by kernel_rfl)
    have hgW := (hG.block _ (Array.getElem?_eq_some_iff.1 hg0).1).trans hg0
    have k0 : W.cell? ⟨w.heap.size, 0, none⟩ = some (.int .i64 x.k) := (cell_of_row _ _ 0 _ _ _ hgW).trans rfl
    have k3 : W.cell? ⟨w.heap.size, 3, none⟩ = some (.int .i64 x.op) := (cell_of_row _ _ 3 _ _ _ hgW).trans rfl
    have k16 : W.cell? ⟨w.heap.size, 16, none⟩ = some (.int .i64 x.pos) := (cell_of_row _ _ 16 _ _ _ hgW).trans rfl
    have hWz := hG.size
    clear hold
    match i, hi, ho with
    | 0, _, ho =>
      injection ho with ho; subst ho
      exact op_val _ (by simp [execOp, Act.eval, hr1, go_sem]) ⟨_, rfl, Below.refl _ _, rfl⟩
    | 1, _, ho =>
      injection ho with ho; subst ho
      obtain ⟨v0, h0, e0⟩ := hw 0 3 (by kernel_rfl)
      obtain rfl : v0 = _ := e0
      exact op_val _ (by simp [execOp, Act.eval, h0, go_sem, k0]) ⟨_, rfl, Below.refl _ _, rfl⟩
    | 2, _, ho =>
      injection ho with ho; subst ho
      exact op_val _ (by simp [execOp, Act.eval, hr1, go_sem]) ⟨_, rfl, Below.refl _ _, rfl⟩
    | 3, _, ho =>
      injection ho with ho; subst ho
      obtain ⟨v0, h0, e0⟩ := hw 2 5 (by kernel_rfl)
      obtain rfl : v0 = _ := e0
      exact wp_load_mid 24 (.tmp 5) rfl _ _ (eval_tmp h0) (atomC x.atom a) _ (range_off hgW rfl) Tryz.underlying24 rfl (atom_size _ _) ⟨_, rfl, Below.refl _ _, rfl⟩
    | 4, _, ho =>
      injection ho with ho; subst ho
      obtain ⟨v0, h0, e0⟩ := hw 3 6 (by kernel_rfl)
      obtain rfl : v0 = _ := e0
      refine op_call 65 _ rfl rfl #[.agg (atomC x.atom a).toArray] (by simp [Act.eval, h0]) _ Tryz.func65 (by kernel_rfl) (by kernel_rfl) ((C1.out W hG).mono ?_)
      rintro r w' ⟨A', c', rfl, hs', hb⟩
      exact ⟨_, rfl, _, rfl, hb, A', c', rfl, (own_far hs' rfl (by have := hs.args; omega) (told_okA hk.args)).low hWz⟩
    | 5, _, ho =>
      injection ho with ho; subst ho
      exact op_val _ (by simp [execOp, Act.eval, hr1, go_sem]) ⟨_, rfl, Below.refl _ _, rfl⟩
    | 6, _, ho =>
      injection ho with ho; subst ho
      obtain ⟨v0, h0, e0⟩ := hw 5 8 (by kernel_rfl)
      obtain rfl : v0 = _ := e0
      exact op_val _ (by simp [execOp, Act.eval, h0, go_sem, k3]) ⟨_, rfl, Below.refl _ _, rfl⟩
    | 7, _, ho =>
      injection ho with ho; subst ho
      exact op_val _ (by simp [execOp, Act.eval, hr1, go_sem]) ⟨_, rfl, Below.refl _ _, rfl⟩
    | 8, _, ho =>
      injection ho with ho; subst ho
      obtain ⟨v0, h0, e0⟩ := hw 7 10 (by kernel_rfl)
      obtain rfl : v0 = _ := e0
      exact wp_load_mid 36 (.tmp 10) rfl _ _ (eval_tmp h0) (expC x.l p.A p.n p.c) _ (range_off hgW rfl) Tryz.underlying36 rfl (exp_size _ _ _ _) ⟨_, rfl, Below.refl _ _, rfl⟩
    | 9, _, ho =>
      injection ho with ho; subst ho
      obtain ⟨v0, h0, e0⟩ := hw 8 11 (by kernel_rfl)
      obtain rfl : v0 = _ := e0
      refine op_call 16 _ rfl rfl #[expV x.l p.A p.n p.c] (by simp [Act.eval, h0]) _ Tryz.func16 (by kernel_rfl) (by kernel_rfl) ((C2.out W hG).mono ?_)
      rintro r w' ⟨A', c', rfl, hs', hb⟩
      exact ⟨_, rfl, _, rfl, hb, A', c', rfl, hs'.low hWz⟩
    | 10, _, ho =>
      injection ho with ho; subst ho
      exact op_val _ (by simp [execOp, Act.eval, hr1, go_sem]) ⟨_, rfl, Below.refl _ _, rfl⟩
    | 11, _, ho =>
      injection ho with ho; subst ho
      obtain ⟨v0, h0, e0⟩ := hw 10 13 (by kernel_rfl)
      obtain rfl : v0 = _ := e0
      exact wp_load_mid 36 (.tmp 13) rfl _ _ (eval_tmp h0) (expC x.r q.A q.n q.c) _ (range_off hgW rfl) Tryz.underlying36 rfl (exp_size _ _ _ _) ⟨_, rfl, Below.refl _ _, rfl⟩
    | 12, _, ho =>
      injection ho with ho; subst ho
      obtain ⟨v0, h0, e0⟩ := hw 11 14 (by kernel_rfl)
      obtain rfl : v0 = _ := e0
      refine op_call 16 _ rfl rfl #[expV x.r q.A q.n q.c] (by simp [Act.eval, h0]) _ Tryz.func16 (by kernel_rfl) (by kernel_rfl) ((C3.out W hG).mono ?_)
      rintro r w' ⟨A', c', rfl, hs', hb⟩
      exact ⟨_, rfl, _, rfl, hb, A', c', rfl, hs'.low hWz⟩
    | 13, _, ho =>
      injection ho with ho; subst ho
      exact op_val _ (by simp [execOp, Act.eval, hr1, go_sem]) ⟨_, rfl, Below.refl _ _, rfl⟩
    | 14, _, ho =>
      injection ho with ho; subst ho
      obtain ⟨v0, h0, e0⟩ := hw 13 16 (by kernel_rfl)
      obtain rfl : v0 = _ := e0
      exact op_val _ (by simp [execOp, Act.eval, h0, go_sem, k16]) ⟨_, rfl, Below.refl _ _, rfl⟩
    | 15, _, ho =>
      injection ho with ho; subst ho
      obtain ⟨v1, h1, e1⟩ := hw 1 4 (by kernel_rfl)
      obtain ⟨v4, h4, A4, c4, e4, f4⟩ := hw 4 7 (by kernel_rfl)
      obtain ⟨v6, h6, e6⟩ := hw 6 9 (by kernel_rfl)
      obtain ⟨v9, h9, A9, c9, e9, f9⟩ := hw 9 12 (by kernel_rfl)
      obtain ⟨v12, h12, A12, c12, e12, f12⟩ := hw 12 15 (by kernel_rfl)
      obtain ⟨v14, h14, e14⟩ := hw 14 17 (by kernel_rfl)
      obtain rfl : v1 = _ := e1
      obtain rfl : v4 = _ := e4
      obtain rfl : v6 = _ := e6
      obtain rfl : v9 = _ := e9
      obtain rfl : v12 = _ := e12
      obtain rfl : v14 = _ := e14
      exact op_build 53 _ rfl [(0, .int .i64 x.k), (1, .agg (atomC x.atom ⟨A4, x.atom.args.length, c4⟩).toArray), (2, .int .i64 x.op), (3, expV x.l A9 x.l.kids.length c9), (4, expV x.r A12 x.r.kids.length c12), (5, .int .i64 x.pos)] (litC x ⟨A4, x.atom.args.length, c4⟩ ⟨A9, x.l.kids.length, c9⟩ ⟨A12, x.r.kids.length, c12⟩).toArray (by simp [Act.eval, h1, h4, h6, h9, h12, h14]) (by kernel_rfl) ⟨_, rfl, Below.refl _ _, ⟨A4, x.atom.args.length, c4⟩, ⟨A9, x.l.kids.length, c9⟩, ⟨A12, x.r.kids.length, c12⟩, rfl, f4, f9, f12⟩
    | n + 16, hi, _ => omega
  · intro o2 u W ho hG hw
    obtain ⟨a', p', q', e0, h1, h2, h3⟩ := hw 15 18 (by decide) (by kernel_rfl)
    have hgW := (hG.block _ (Array.getElem?_eq_some_iff.1 hg1).1).trans hg1
    injection ho with ho; subst ho
    simp only [List.foldl_cons, List.foldl_nil, Act.put, List.setIfInBounds_toArray, List.set_cons_zero, List.set_cons_succ]
    rw [e0]
    refine wp_store_row 53 (.tmp 2) (.tmp 18) rfl (w.heap.size + 1) (litC x a' p' q').toArray rfl rfl 53 zlC.toArray hgW (by kernel_rfl) rfl (by simp [Value.oneCell']) ?_
    have hS := setRow_at (cs' := (litC x a' p' q').toArray) hgW
    have hoS : Out [w.heap.size + 1] W (W.setRow (w.heap.size + 1) (litC x a' p' q').toArray) := ⟨rfl, rfl, rfl, by rw [setRow_size]; exact Nat.le_refl _, fun x _ hx => setRow_ne (by simpa using hx)⟩
    have hfin : CopyLit d x w (.returned (.agg (litC x a' p' q').toArray)) (W.setRow (w.heap.size + 1) (litC x a' p' q').toArray) := by
      have t1 := h1.out hoS (U := List.range w.heap.size) (fun b hb _ => List.mem_range.2 (by simp at hb; omega)) (fun b hb _ => List.mem_range.2 (by have := List.mem_range.1 hb; omega))
      have t2 := h2.out hoS (U := List.range w.heap.size) (fun b hb _ => List.mem_range.2 (by simp at hb; omega)) (fun b hb _ => List.mem_range.2 (by have := List.mem_range.1 hb; omega))
      have t3 := h3.out hoS (U := List.range w.heap.size) (fun b hb _ => List.mem_range.2 (by simp at hb; omega)) (fun b hb _ => List.mem_range.2 (by have := List.mem_range.1 hb; omega))
      exact ⟨a', p', q', rfl, ⟨hk.k, hk.op, hk.pos, hk.rel, t1, hk.lop, hk.lx, hk.lv, t2, hk.rop, hk.rx, hk.rv, t3⟩, (hbw.trans (hG.mono (by omega))).trans (hoS.below (fun b hb => by simp at hb; omega) (by have := hG.size; omega))⟩
    have HF := Lib.hid hfin
    obtain ⟨s0, s1, s2, s3, s4, s5, s6, s7, s8, s9, s10, s11, s12, s13, s14, s15, s16⟩ := facts17 hS
    clear hfin hS hoS h1 h2 h3 hw C1 C2 C3 HK hk hs hG hgW hg0 hg1
    generalize W.setRow _ _ = W2 at *
    simp only [Act.put]
    go_wp2_with fail
    refine bodyPost_ret (v := .agg (litC x a' p' q').toArray) ?_ rfl HF.out
    simp [results, Tryz.results15, go_sem, s0, s1, s2, s3, s4, s5, s6, s7, s8, s9, s10, s11, s12, s13, s14, s15, s16]
end Go.Proofs.YtplekbpmfaghbaaGreatDoor

/- corollarylaw05.Ruled: a rule of the program's as the document's. -/
namespace Go.Proofs.YtplekbpmfaghbaaGreatDoor
open Go.RowKit

def CopyRule (d : Nat) (x : GRule) (w : World) (r : Ending) (w' : World) : Prop :=
  ∃ a b : Hd, r = .returned (.agg (ruleC x a b).toArray) ∧ RuleAt d (sans w' (List.range w.heap.size)) w'.heap.size x a b ∧ Below w.heap.size w w'
def rulF (x : GRule) (a : Hd) (_b : Hd) (g n0 : Nat) (i : Nat) (v : Value) (W : World) : Prop := match i with
  | 0 => v = .pointer (some ⟨g, 0, none⟩)
  | 1 => v = .agg (atomC x.head a).toArray
  | 2 => ∃ (A : Option Addr) (c : Nat), v = .agg (atomC x.head ⟨A, x.head.args.length, c⟩).toArray ∧ W.ownsRow n0 48 4 (.slice A x.head.args.length c) x.head.args.length (x.head.args.flatMap GTold.cells)
  | 3 => v = .pointer (some ⟨g, 2, none⟩)
  | 4 => v = .int .i64 x.agg
  | 5 => v = .pointer (some ⟨g, 3, none⟩)
  | 6 => v = .int .i64 x.col
  | 7 => v = .pointer (some ⟨g, 5, none⟩)
  | 8 => v = .int .i64 x.pos
  | 9 => ∃ (A : Option Addr) (c : Nat), v = .agg (ruleC x ⟨A, x.head.args.length, c⟩ ⟨none, 0, 0⟩).toArray ∧ W.ownsRow n0 48 4 (.slice A x.head.args.length c) x.head.args.length (x.head.args.flatMap GTold.cells)
  | 10 => ∃ (b : Nat) (cs : List Value), v = .pointer (some ⟨b, 0, none⟩) ∧ n0 ≤ b ∧ cs.length = 6 ∧ W.heap[b]? = some (.cells cs.toArray 46 (0, 0))
  | _ => True
theorem rulF_keep {x : GRule} {a b : Hd} {g n0 i : Nat} {v : Value} {W W' : World} (h : rulF x a b g n0 i v W) (hb : Below W.heap.size W W') : rulF x a b g n0 i v W' := by
  match i, h with
  | 0, h => exact h
  | 1, h => exact h
  | 2, ⟨A, c, h1, h2⟩ => exact ⟨A, c, h1, own_below h2 hb⟩
  | 3, h => exact h
  | 4, h => exact h
  | 5, h => exact h
  | 6, h => exact h
  | 7, h => exact h
  | 8, h => exact h
  | 9, ⟨A, c, h1, h2⟩ => exact ⟨A, c, h1, own_below h2 hb⟩
  | 10, ⟨b, cs, h1, h2, h3, h4⟩ => exact ⟨b, cs, h1, h2, h3, (hb.block _ (Array.getElem?_eq_some_iff.1 h4).1).trans h4⟩
  | _ + 11, _ => exact trivial
theorem own_lowR {W : World} {base base' : Nat} {e : TypeId} {size : Nat} {v : Value} {k : Nat} {xs : List Value} (h : W.ownsRow base e size v k xs) (hb : base' ≤ base) : W.ownsRow base' e size v k xs := by
  refine ⟨h.1, ?_⟩
  rcases h.2 with hn | ⟨g, cap, cur, hv, hbg, rest⟩
  · exact .inl hn
  · exact .inr ⟨g, cap, cur, hv, by omega, rest⟩
abbrev zrC : List Value := [.string ⟨#[]⟩, .slice none 0 0, .int .i64 0, .int .i64 0, .slice none 0 0, .int .i64 0]
set_option maxRecDepth 100000 in
set_option maxHeartbeats 8000000 in
theorem copyRule_any (d : Nat) (x : GRule) (a b : Hd) (w : World) (hk : RuleAt d w w.heap.size x a b) (hs : SmRule x) :
    Calls Tryz.prog 14 #[.agg (ruleC x a b).toArray] w (CopyRule d x w) := by
  have mixed : Tryz.prog.follows .mixedOrders = true := by kernel_rfl
  have hn := hk.body.bound
  have Hlen := Lib.hid hk.body.1
  have HS := Lib.hid hs
  obtain ⟨P, HP⟩ : ∃ P : Ending → World → Prop, Hid (P = CopyRule d x w) := ⟨_, rfl⟩
  rw [← HP.out]
  have HKw := Lib.hid hk
  obtain ⟨aA, an, ac⟩ := a
  obtain ⟨A, n, c⟩ := b
  have hg0 : ((w.alloc (.cells (ruleC x ⟨aA, an, ac⟩ ⟨A, n, c⟩).toArray 27)).alloc (.cells zrC.toArray 46)).heap[w.heap.size]? = some (.cells (ruleC x ⟨aA, an, ac⟩ ⟨A, n, c⟩).toArray 27 (0, 0)) := heapOld (heapNew rfl)
  have hg1 : ((w.alloc (.cells (ruleC x ⟨aA, an, ac⟩ ⟨A, n, c⟩).toArray 27)).alloc (.cells zrC.toArray 46)).heap[w.heap.size + 1]? = some (.cells zrC.toArray 46 (0, 0)) := heapNew (by simp)
  have hbw : Below w.heap.size w ((w.alloc (.cells (ruleC x ⟨aA, an, ac⟩ ⟨A, n, c⟩).toArray 27)).alloc (.cells zrC.toArray 46)) := belowA (belowA (Below.refl _ _) _) _
  have hzw : ((w.alloc (.cells (ruleC x ⟨aA, an, ac⟩ ⟨A, n, c⟩).toArray 27)).alloc (.cells zrC.toArray 46)).heap.size = w.heap.size + 2 := by simp
  clear hk hs
  show Calls Tryz.prog 14 #[.agg #[.string x.head.rel, .slice aA an ac, .int .i64 x.agg, .int .i64 x.col, .slice A n c, .int .i64 x.pos]] w P
  go_enter Tryz.func14, Tryz.ntmps14
  go_wp2_with fail
  generalize hwb : (w.alloc _).alloc _ = wb
  rw [hwb] at hg0 hg1 hbw hzw
  clear hwb
  have HK := Lib.hid (HKw.out.keep hbw)
  have C1 := Lib.hid (fun (W : World) (h : Below wb.heap.size wb W) => copyAtom_any x.head ⟨aA, an, ac⟩ W ((HK.out.keep h).args) HKw.out.rel HS.out.args)
  refine drawn2 mixed 11 32 [6, 7, 8, 9, 10, 11, 12, 13, 14, 15, 3] (fun _ W => Below wb.heap.size wb W) (rulF x ⟨aA, an, ac⟩ ⟨A, n, c⟩ w.heap.size wb.heap.size) (fun _ W W' => Below W.heap.size W W') rfl (by kernel_rfl) (by kernel_rfl) rfl (fun j _ => below_drewN _ 1 _) (fun i j v W W' _ _ _ h h' => rulF_keep h h') (fun _ _ _ _ _ _ _ _ h h' => below_next h h') ?_ ?_
  · intro i o2 a2 W hi ho hd hold hG _ hw
    have hr1 : a2.tmps[1]? = some (.pointer (some ⟨w.heap.size, 0, none⟩)) := hold 1 (by kernel_rfl)
    have hgW := (hG.block _ (Array.getElem?_eq_some_iff.1 hg0).1).trans hg0
    have k2 : W.cell? ⟨w.heap.size, 2, none⟩ = some (.int .i64 x.agg) := (cell_of_row _ _ 2 _ _ _ hgW).trans rfl
    have k3 : W.cell? ⟨w.heap.size, 3, none⟩ = some (.int .i64 x.col) := (cell_of_row _ _ 3 _ _ _ hgW).trans rfl
    have k5 : W.cell? ⟨w.heap.size, 5, none⟩ = some (.int .i64 x.pos) := (cell_of_row _ _ 5 _ _ _ hgW).trans rfl
    have hWz := hG.size
    clear hold
    match i, hi, ho with
    | 0, _, ho =>
      injection ho with ho; subst ho
      exact op_val _ (by simp [execOp, Act.eval, hr1, go_sem]) ⟨_, rfl, Below.refl _ _, rfl⟩
    | 1, _, ho =>
      injection ho with ho; subst ho
      obtain ⟨v0, h0, e0⟩ := hw 0 6 (by kernel_rfl)
      obtain rfl : v0 = _ := e0
      exact wp_load_mid 24 (.tmp 6) rfl _ _ (eval_tmp h0) (atomC x.head ⟨aA, an, ac⟩) _ (range_off hgW rfl) Tryz.underlying24 rfl (atom_size _ _) ⟨_, rfl, Below.refl _ _, rfl⟩
    | 2, _, ho =>
      injection ho with ho; subst ho
      obtain ⟨v0, h0, e0⟩ := hw 1 7 (by kernel_rfl)
      obtain rfl : v0 = _ := e0
      refine op_call 65 _ rfl rfl #[.agg (atomC x.head ⟨aA, an, ac⟩).toArray] (by simp [Act.eval, h0]) _ Tryz.func65 (by kernel_rfl) (by kernel_rfl) ((C1.out W hG).mono ?_)
      rintro r w' ⟨A', c', rfl, hs', hb⟩
      exact ⟨_, rfl, _, rfl, hb, A', c', rfl, own_lowR hs' hWz⟩
    | 3, _, ho =>
      injection ho with ho; subst ho
      exact op_val _ (by simp [execOp, Act.eval, hr1, go_sem]) ⟨_, rfl, Below.refl _ _, rfl⟩
    | 4, _, ho =>
      injection ho with ho; subst ho
      obtain ⟨v0, h0, e0⟩ := hw 3 9 (by kernel_rfl)
      obtain rfl : v0 = _ := e0
      exact op_val _ (by simp [execOp, Act.eval, h0, go_sem, k2]) ⟨_, rfl, Below.refl _ _, rfl⟩
    | 5, _, ho =>
      injection ho with ho; subst ho
      exact op_val _ (by simp [execOp, Act.eval, hr1, go_sem]) ⟨_, rfl, Below.refl _ _, rfl⟩
    | 6, _, ho =>
      injection ho with ho; subst ho
      obtain ⟨v0, h0, e0⟩ := hw 5 11 (by kernel_rfl)
      obtain rfl : v0 = _ := e0
      exact op_val _ (by simp [execOp, Act.eval, h0, go_sem, k3]) ⟨_, rfl, Below.refl _ _, rfl⟩
    | 7, _, ho =>
      injection ho with ho; subst ho
      exact op_val _ (by simp [execOp, Act.eval, hr1, go_sem]) ⟨_, rfl, Below.refl _ _, rfl⟩
    | 8, _, ho =>
      injection ho with ho; subst ho
      obtain ⟨v0, h0, e0⟩ := hw 7 13 (by kernel_rfl)
      obtain rfl : v0 = _ := e0
      exact op_val _ (by simp [execOp, Act.eval, h0, go_sem, k5]) ⟨_, rfl, Below.refl _ _, rfl⟩
    | 9, _, ho =>
      injection ho with ho; subst ho
      obtain ⟨v2, h2, A2, c2, e2, f2⟩ := hw 2 8 (by kernel_rfl)
      obtain ⟨v4, h4, e4⟩ := hw 4 10 (by kernel_rfl)
      obtain ⟨v6, h6, e6⟩ := hw 6 12 (by kernel_rfl)
      obtain ⟨v8, h8, e8⟩ := hw 8 14 (by kernel_rfl)
      obtain rfl : v2 = _ := e2
      obtain rfl : v4 = _ := e4
      obtain rfl : v6 = _ := e6
      obtain rfl : v8 = _ := e8
      exact op_build 46 _ rfl [(0, .agg (atomC x.head ⟨A2, x.head.args.length, c2⟩).toArray), (1, .int .i64 x.agg), (2, .int .i64 x.col), (4, .int .i64 x.pos)] (ruleC x ⟨A2, x.head.args.length, c2⟩ ⟨none, 0, 0⟩).toArray (by simp [Act.eval, h2, h4, h6, h8]) (by kernel_rfl) ⟨_, rfl, Below.refl _ _, A2, c2, rfl, f2⟩
    | 10, _, ho =>
      injection ho with ho; subst ho
      exact op_alloc 46 rfl zrC.toArray 6 (by kernel_rfl) ⟨_, rfl, belowA (Below.refl _ _) _, _, zrC, rfl, hWz, rfl, heapNew rfl⟩
    | n + 11, hi, _ => omega
  · intro o2 u W ho hG hw
    obtain ⟨hA, hc, e0, h1⟩ := hw 9 15 (by decide) (by kernel_rfl)
    obtain ⟨g, cs, e1, hgn, hcs, hgg⟩ := hw 10 3 (by decide) (by kernel_rfl)
    have hgW := (hG.block _ (Array.getElem?_eq_some_iff.1 hg1).1).trans hg1
    injection ho with ho; subst ho
    simp only [List.foldl_cons, List.foldl_nil, Act.put, List.setIfInBounds_toArray, List.set_cons_zero, List.set_cons_succ]
    rw [e0, e1]
    refine wp_store_row 46 (.tmp 3) (.tmp 15) rfl g (ruleC x ⟨hA, x.head.args.length, hc⟩ ⟨none, 0, 0⟩).toArray rfl rfl 46 cs.toArray hgg (by kernel_rfl) (by simp [hcs]) (by simp [Value.oneCell']) ?_
    have hS := setRow_at (cs' := (ruleC x ⟨hA, x.head.args.length, hc⟩ ⟨none, 0, 0⟩).toArray) hgg
    have hoS : Out [g] W (W.setRow g (ruleC x ⟨hA, x.head.args.length, hc⟩ ⟨none, 0, 0⟩).toArray) := ⟨rfl, rfl, rfl, by rw [setRow_size]; exact Nat.le_refl _, fun x _ hx => setRow_ne (by simpa using hx)⟩
    have hgl := (Array.getElem?_eq_some_iff.1 hgg).1
    have hzz := hG.size
    have hO2 := own_out' h1 hoS (fun b hb hb' => by
      obtain ⟨cur, hcur⟩ := own_typeR h1 hb
      simp at hb'
      subst hb'
      rw [hgg] at hcur
      injection hcur with hcur
      injection hcur with _ h3 _
      exact absurd h3 (by decide))
    have hr1 := (hoS.block _ (Array.getElem?_eq_some_iff.1 hgW).1 (by simp; omega)).trans hgW
    have hr0 := (hoS.block _ (Array.getElem?_eq_some_iff.1 ((hG.block _ (Array.getElem?_eq_some_iff.1 hg0).1).trans hg0)).1 (by simp; omega)).trans ((hG.block _ (Array.getElem?_eq_some_iff.1 hg0).1).trans hg0)
    have hbW : Below w.heap.size w (W.setRow g (ruleC x ⟨hA, x.head.args.length, hc⟩ ⟨none, 0, 0⟩).toArray) := (hbw.trans (hG.mono (by omega))).trans (hoS.below (fun b hb => by simp at hb; omega) (by omega))
    have hsz : (W.setRow g (ruleC x ⟨hA, x.head.args.length, hc⟩ ⟨none, 0, 0⟩).toArray).heap.size = W.heap.size := setRow_size
    clear hw C1 hoS hgg hcs h1 hgW hg0 hg1 hG HK hbw e0 e1
    generalize W.setRow g _ = W2 at *
    obtain ⟨b0, b1, b2, b3, b4, b5⟩ := facts6 hr0
    dsimp only [Hd.v] at b0 b1 b2 b3 b4 b5
    obtain ⟨b1z, Hb1⟩ : ∃ b1z, Hid (W2.heap.size = b1z) := ⟨_, rfl⟩
    have HKe := Lib.hid (fun (W : World) (h : Below w.heap.size w W) => (HKw.out.keep h).body)
    simp only [Act.put]
    go_wp2_with fail
    have HO0 := Lib.hid (own_lowR hO2 (base' := w.heap.size) (by omega))
    have hzb : w.heap.size + 2 ≤ b1z := by have := Hb1.out; omega
    have hgb : g < b1z := by have := Hb1.out; omega
    have hgw : w.heap.size + 2 ≤ g := by omega
    have hHO : Hid (∀ bb, (Value.slice hA x.head.args.length hc).ownBlock = some bb → bb < b1z ∧ bb ≠ g) := fun bb hbb => by
      have h9 := (own_blk hO2 hbb).2
      refine ⟨by have := Hb1.out; omega, fun e => ?_⟩
      obtain ⟨cur, hcur⟩ := own_typeR hO2 hbb
      rw [e, hS] at hcur
      injection hcur with hcur
      injection hcur with _ h3 _
      exact absurd h3 (by decide)
    have HzW : Hid (b1z ≤ W2.heap.size) := by show _ ≤ _; rw [Hb1.out]; exact Nat.le_refl _
    clear hO2 hr0 b0 b1 b2 b3 b4 b5 Hb1 hsz hzw hgl hgn hzz
    go_loopw [19] (fun i wr => ∃ (j c' : Nat) (A' : Option Addr) (L : List (GLit × List Value)), j ≤ n ∧ i = .int .i64 j ∧ Hid (L.map (·.1) = x.body.take j) ∧ Hid (Rows (Enc.lit d) b1z 53 wr A' j c' L) ∧ wr.heap[g]? = some (.cells (ruleC x ⟨hA, x.head.args.length, hc⟩ ⟨A', j, c'⟩).toArray 46 (0, 0)) ∧ wr.heap[w.heap.size + 1]? = some (.cells zrC.toArray 46 (0, 0)) ∧
      Hid (wr.ownsRow w.heap.size 48 4 (.slice hA x.head.args.length hc) x.head.args.length (x.head.args.flatMap GTold.cells)) ∧ Below w.heap.size w wr ∧ b1z ≤ wr.heap.size) (fun i _ => n - (intOf i).toNat)
    case atStart => exact ⟨0, 0, none, [], by omega, rfl, rfl, Rows.nil _ _ _, hS, hr1, HO0, hbW, HzW.out⟩
    case round =>
      clear hS hr1 hbW
      obtain ⟨j, c', A', L, hj, rfl, HL, HR, hg, hg1, HOh, hbr, hzr⟩ := hrel
      have i0 : (0 : Int) ≤ (j : Int) := by omega
      by_cases hlt : j < n
      · have i1 : (j : Int) < (n : Int) := by omega
        obtain ⟨bb, o, k, ak, pk, qk, hAA, hbb, hk', hkl, hr⟩ := (HKe.out wr hbr).lit_range hlt
        try simp only at hAA
        subst hAA
        have hkm := Lib.hid (List.mem_of_getElem? hk'.out)
        have HT : Hid (x.body.take (j + 1) = x.body.take j ++ [k]) := by show _ = _; rw [List.take_add_one, hk'.out]; rfl
        have hba : Below wr.heap.size wr (wr.alloc (.cells (litC k ak pk qk).toArray 38)) := belowA (Below.refl _ _) _
        have HC := Lib.hid (fun (W : World) (h : Below (wr.alloc (.cells (litC k ak pk qk).toArray 38)).heap.size (wr.alloc (.cells (litC k ak pk qk).toArray 38)) W) => copyLit_any d k ak pk qk W ((hkl.keep hba).keep h) (HS.out.lits k hkm.out))
        have hn1 : j + 1 ≤ 1500 := by have := HS.out.body; have := Hlen.out; omega
        have hx2 : (wr.alloc (.cells (litC k ak pk qk).toArray 38)).heap[wr.heap.size]? = some (.cells (litC k ak pk qk).toArray 38 (0, 0)) := heapNew rfl
        have hgA := heapOld (o := .cells (litC k ak pk qk).toArray 38) hg
        have hg1A := heapOld (o := .cells (litC k ak pk qk).toArray 38) hg1
        have HRA := Lib.hid (HR.out.out (Out.of_below hba []) (fun _ h _ => by cases h))
        have hbA := below_next hbr hba
        have HOhA := Lib.hid (own_below HOh.out hba)
        have HoG : Hid (g ∉ (Value.slice A' j c').ownBlock.toList) := fun hm => by
          have := (own_blk HR.out.own (b := g) (by simpa using hm)).1
          omega
        have HoX : Hid (wr.heap.size ∉ (Value.slice A' j c').ownBlock.toList) := fun hm => by
          have := (own_blk HR.out.own (b := wr.heap.size) (by simpa using hm)).2
          omega
        have HO : Hid ((wr.alloc (.cells (litC k ak pk qk).toArray 38)).ownsRow b1z 53 17 (.slice A' j c') j (L.flatMap (·.2))) := HRA.out.own
        clear hk' hba hkl HR hg hg1 HOh
        go_wp2_with (first
          | refine wpList_load_mid rfl 38 (.tmp 21) rfl bb (o + j * 17) rfl (litC k ak pk qk) _ hr.out Tryz.underlying38 rfl (lit_size k ak pk qk) ?_
          | refine wpList_new rfl rfl 38 5 (.tmp 22) rfl rfl rfl rfl _ (litC k ak pk qk).toArray lit_info rfl (lit_one k ak pk qk) rfl rfl ?_)
        refine push_region (n := 32) mixed rfl rfl (by kernel_rfl) (by kernel_rfl) (by kernel_rfl) g wr.heap.size 4 b1z 53 17 224 j (.agg zlC.toArray) A' c' (L.flatMap (·.2)) (litC k ak pk qk) (ruleC x ⟨hA, x.head.args.length, hc⟩ ⟨A', j, c'⟩).toArray
          (fun vcs W => (Enc.lit d).ok (sans W (List.range (wr.heap.size + 1))) W.heap.size vcs k) (fun S vcs W => (Enc.lit d).ok (sans W (List.range (wr.heap.size + 1) ++ S)) W.heap.size vcs k) _
          rfl rfl hgA hx2 rfl (fun w => by simp [go_sem]) Tryz.underlying44 (by kernel_rfl) Tryz.underlying38 rfl (lit_size k ak pk qk) (by kernel_rfl) rfl (by decide) (by decide) HO.out HoG.out HoX.out (by simp [maxLen]; omega) (by omega) (by simp; omega) _ Tryz.func15 (by kernel_rfl) (by kernel_rfl) ?_ ?_ ?_ ?_ ?_ ?_
        · intro vcs W W' h hb
          exact (Enc.lit d).mono hb.size ((Out.of_below hb []).kept (fun _ h _ => by cases h) (fun _ h _ => h)) h
        · intro S vcs W W' h hb
          exact (Enc.lit d).mono hb.size ((Out.of_below hb []).kept (fun _ h _ => by cases h) (fun _ h _ => h)) h
        · intro S vcs W W' h hz ho hS
          refine (Enc.lit d).mono ho.size (ho.kept (T := List.range (wr.heap.size + 1)) (fun b hb _ => ?_) (fun b hb hl => ?_)) h
          · have := (own_blk HO.out (b := b) (by simpa using hb)).2
            simp at this
            exact List.mem_range.2 this
          · rcases List.mem_append.1 hb with hb | hb
            · exact hb
            · rcases hS b hb with h1 | h1
              · have := (own_blk HO.out (b := b) (by simpa using h1)).2
                simp at this
                exact List.mem_range.2 this
              · omega
        · intro vcs W W' h hz ho
          refine (Enc.lit d).mono ho.size (ho.kept (T := List.range (wr.heap.size + 1)) (fun b hb _ => ?_) (fun b hb hl => hb)) h
          have := (own_blk HO.out (b := b) (by simpa using hb)).2
          simp at this
          exact List.mem_range.2 this
        · intro W hb
          refine (HC.out W hb).mono ?_
          rintro r w' ⟨a2, p2, q2, rfl, hs, hb2⟩
          refine ⟨litC k a2 p2 q2, rfl, rfl, by simp [Value.oneCell'], ?_, hb2⟩
          refine ⟨a2, p2, q2, rfl, hs.mono' (Nat.le_refl _) ((Out.refl [] w').kept (fun _ h _ => by cases h) (fun b hb' _ => List.mem_range.2 ?_))⟩
          have h1 := List.mem_range.1 hb'
          have h2 := hb.size
          simp at h2
          omega
        · intro u W vcs A2 c2 hl hfar hown hblk ho hgW
          have hsA : (wr.alloc (.cells (litC k ak pk qk).toArray 38)).heap.size = wr.heap.size + 1 := by simp
          have hR2 := HRA.out.push (by rw [hsA]; omega) hown hblk ho (by rw [hsA]; exact hfar)
          have HR2 := Lib.hid (hR2.out (set_out W g 4 (.slice A2 (j + 1) c2)) (fun b hb _ => by simp at hb; omega))
          have HL2 : Hid ((L ++ [(k, vcs)]).map (·.1) = x.body.take (j + 1)) := by show _ = _; rw [HT.out, List.map_append, HL.out]; rfl
          have hG2 : (W.setCell ⟨g, 4, none⟩ (.slice A2 (j + 1) c2)).heap[g]? = some (.cells (ruleC x ⟨hA, x.head.args.length, hc⟩ ⟨A2, j + 1, c2⟩).toArray 46 (0, 0)) := by
            simp [World.setCell, Array.getElem?_modify, hgW]
          have hnot : ∀ bb, bb < b1z → bb ∉ (Value.slice A' j c').ownBlock.toList := fun bb hbb hm => by
            have := (own_blk HO.out (b := bb) (by simpa using hm)).1
            omega
          have hG1 : (W.setCell ⟨g, 4, none⟩ (.slice A2 (j + 1) c2)).heap[w.heap.size + 1]? = some (.cells zrC.toArray 46 (0, 0)) :=
            (World.heap_setCells_other' (by omega)).trans ((ho.block _ (Array.getElem?_eq_some_iff.1 hg1A).1 (hnot _ (by omega))).trans hg1A)
          have HOh2 : Hid ((W.setCell ⟨g, 4, none⟩ (.slice A2 (j + 1) c2)).ownsRow w.heap.size 48 4 (.slice hA x.head.args.length hc) x.head.args.length (x.head.args.flatMap GTold.cells)) :=
            own_out' (own_out' HOhA.out ho (fun b hb => hnot b (hHO.out b hb).1)) (set_out W g 4 _) (fun b hb => by simpa using (hHO.out b hb).2)
          have hzz : wr.heap.size + 1 ≤ W.heap.size := by rw [← hsA]; exact ho.size
          have hB2 : Below w.heap.size w (W.setCell ⟨g, 4, none⟩ (.slice A2 (j + 1) c2)) :=
            (hbA.trans (ho.below (B := w.heap.size) (fun b hb => by
              have := (own_blk HO.out (b := b) (by simpa using hb)).1
              omega) (by rw [hsA]; omega))).setCell (by show w.heap.size ≤ g; omega) _
          have hzs : (W.setCell ⟨g, 4, none⟩ (.slice A2 (j + 1) c2)).heap.size = W.heap.size := World.size_setCell'
          have HZ2 := Lib.hid hzs
          clear hR2 hgW hfar hown hblk ho hsA hgA hg1A hx2 hzs hnot
          simp only [List.foldl_cons, List.foldl_nil, Act.put, List.setIfInBounds_toArray, List.set_cons_zero, List.set_cons_succ]
          generalize W.setCell ⟨g, 4, none⟩ (.slice A2 (j + 1) c2) = W3 at *
          go_wp2_with fail
          go_roundw
          case rel => exact ⟨j + 1, c2, A2, _, by omega, by go_num, HL2, HR2, hG2, hG1, HOh2, hB2, by rw [HZ2.out]; omega⟩
          case measure => simp [intOf]; omega
      · have i1 : ¬ (j : Int) < (n : Int) := by omega
        have hjn : j = n := by omega
        subst hjn
        have hll := Hlen.out
        obtain ⟨c0, c1, c2, c3, c4, c5⟩ := facts6 hg
        have hS := setRow_at (cs' := (ruleC x ⟨hA, x.head.args.length, hc⟩ ⟨A', j, c'⟩).toArray) hg1
        obtain ⟨s0, s1, s2, s3, s4, s5⟩ := facts6 hS
        have hbS : Below w.heap.size w (wr.setRow (w.heap.size + 1) (ruleC x ⟨hA, x.head.args.length, hc⟩ ⟨A', j, c'⟩).toArray) := ⟨hbr.os, hbr.tape, hbr.output, by rw [setRow_size]; exact hbr.size, fun x hx => (setRow_ne (by omega)).trans (hbr.block x hx)⟩
        have hoS : Out [w.heap.size + 1] wr (wr.setRow (w.heap.size + 1) (ruleC x ⟨hA, x.head.args.length, hc⟩ ⟨A', j, c'⟩).toArray) := ⟨rfl, rfl, rfl, by rw [setRow_size]; exact Nat.le_refl _, fun x _ hx => setRow_ne (by simpa using hx)⟩
        have hR3 := HR.out.out hoS (fun b hb _ => by simp at hb; omega)
        have hR2 := hR3.is (base := w.heap.size) (by simpa [reachN] using hn) (by omega)
        rw [HL.out, List.take_of_length_le (by omega)] at hR2
        have hO3 := own_out' HOh.out hoS (fun b hb hb' => by
          simp at hb'
          obtain ⟨cur, hcur⟩ := own_typeR HOh.out hb
          rw [hb', hg1] at hcur
          injection hcur with hcur
          injection hcur with _ h3 _
          exact absurd h3 (by decide))
        have hpost : P (.returned (.agg (ruleC x ⟨hA, x.head.args.length, hc⟩ ⟨A', j, c'⟩).toArray)) (wr.setRow (w.heap.size + 1) (ruleC x ⟨hA, x.head.args.length, hc⟩ ⟨A', j, c'⟩).toArray) := by
          rw [HP.out]
          exact ⟨_, _, rfl, ⟨HKw.out.rel, own_far (n := x.head.args.length) (l := x.head.args) hO3 rfl (Nat.le_trans HS.out.args (by decide)) (told_okA HKw.out.args), HKw.out.agg, HKw.out.col, hR2, HKw.out.pos⟩, hbS⟩
        have HPo := Lib.hid hpost
        clear hR2 hR3 HR HL hll hpost hoS hbS hS HP hO3
        go_wp2_with (refine wpList_store_rowTo rfl 46 (.tmp 2) (.tmp 31) rfl rfl (w.heap.size + 1) (ruleC x ⟨hA, x.head.args.length, hc⟩ ⟨A', j, c'⟩).toArray rfl rfl 46 zrC.toArray hg1 (by kernel_rfl) rfl (by simp [Value.oneCell']) ?_)
        refine bodyPost_ret (v := .agg (ruleC x ⟨hA, x.head.args.length, hc⟩ ⟨A', j, c'⟩).toArray) ?_ rfl HPo.out
        simp [results, Tryz.results14, go_sem, s0, s1, s2, s3, s4, s5]
end Go.Proofs.YtplekbpmfaghbaaGreatDoor
