/- My own texts TEvR, TFormed, VTexts, ShowLaw, ShowStr, DrawnJ, as far as this claim needs them. -/
import Derived.Test.YtplekbpmfaghbaaGreatDoorZd2
import Derived.Test.YtplekbpmfaghbaaGreatDoorZd3
import Derived.Test.YtplekbpmfaghbaaGreatDoorZd4
import Derived.Test.YtplekbpmfaghbaaGreatDoorZd10
import Derived.Test.YtplekbpmfaghbaaGreatDoorZd11
import Derived.Test.YtplekbpmfaghbaaGreatDoorZd12
import Derived.Lib.Join
set_option linter.unusedVariables false
set_option linter.unusedSimpArgs false
namespace Go.Proofs.YtplekbpmfaghbaaGreatDoor
open Go.RowKit
set_option maxRecDepth 100000 in
set_option maxHeartbeats 1000000 in
theorem ev1R_any (x : GRule) (a m : Hd) (g : Nat) (w : World) (hg : w.cell? ⟨g, 0, none⟩ = some (.func (.func 67) #[] #[])) (HC : Hid (∀ W, Below w.heap.size w W → Calls Tryz.prog 67 #[.agg #[.string x.head.rel, a.v, .int .i64 x.agg, .int .i64 x.col, m.v, .int .i64 x.pos]] W (RetBool (rightRule x) W))) :
    Calls Tryz.prog 144 #[.agg #[.string x.head.rel, a.v, .int .i64 x.agg, .int .i64 x.col, m.v, .int .i64 x.pos], .pointer (some ⟨g, 0, none⟩)] w (RetBool (!rightRule x) w) := by
  have hrb : (w.alloc (.cells #[.string x.head.rel, a.v, .int .i64 x.agg, .int .i64 x.col, m.v, .int .i64 x.pos] 27)).heap[w.heap.size]? = some (.cells #[.string x.head.rel, a.v, .int .i64 x.agg, .int .i64 x.col, m.v, .int .i64 x.pos] 27 (0, 0)) := heapNew rfl
  obtain ⟨b0, b1, b2, b3, b4, b5⟩ := facts6 hrb
  have cg : (w.alloc (.cells #[.string x.head.rel, a.v, .int .i64 x.agg, .int .i64 x.col, m.v, .int .i64 x.pos] 27)).cell? ⟨g, 0, none⟩ = some (.func (.func 67) #[] #[]) := cellA hg
  clear hrb hg
  generalize rightRule x = B at *
  go_enter Tryz.func144, Tryz.ntmps144
  go_wp2_with fail
  refine (HC.out _ (by first | exact Below.refl _ _ | exact belowA (Below.refl _ _) _)).mono ?_
  rintro e w1 ⟨rfl, hb⟩
  have Hb := Lib.hid hb
  clear hb
  go_wp2_with fail
  go_ret
  exact ⟨rfl, below_next (belowA (Below.refl _ _) _) Hb.out⟩
set_option maxRecDepth 100000 in
set_option maxHeartbeats 1000000 in
theorem evIR_any (d : Nat) (A : Option Addr) (n c : Nat) (l : List GRule) (g : Nat) (w : World) (hl : SliceIs (Enc.rule d) w w.heap.size A n c l) (hg : w.cell? ⟨g, 0, none⟩ = some (.func (.func 67) #[] #[]))
    (HC : Hid (∀ (x : GRule) (a m : Hd) W, RuleAt d W W.heap.size x a m → Below w.heap.size w W → Calls Tryz.prog 67 #[.agg #[.string x.head.rel, a.v, .int .i64 x.agg, .int .i64 x.col, m.v, .int .i64 x.pos]] W (RetBool (rightRule x) W))) :
    Calls Tryz.prog 172 #[.slice A n c, .func (.func 144) #[] #[.pointer (some ⟨g, 0, none⟩)]] w (fun e w' => ∃ k : Int, e = .returned (.int .i64 k) ∧ decide (0 ≤ k) = !(l.all rightRule) ∧ Below w.heap.size w w') := by
  have hn := hl.bound
  have HL := Lib.hid hl
  have hlen := Lib.hid hl.1
  have Hg := Lib.hid hg
  clear hl hg
  go_enter Tryz.func172, Tryz.ntmps172
  go_wp2_with fail
  go_loopw [5, 8] (fun _ i wr => ∃ k : Nat, k ≤ n ∧ i = .int .i64 k ∧ Hid ((l.take k).all rightRule = true) ∧ Below w.heap.size w wr) (fun _ i _ => n - (intOf i).toNat)
  case atStart => exact ⟨0, by omega, rfl, by simp [Hid], Below.refl _ _⟩
  case round =>
    obtain ⟨k, hk, rfl, hpre, hbr⟩ := hrel
    by_cases hlt : k < n
    · have HLr := (HL.out.below hbr)
      obtain ⟨b, o, x, a, m, rfl, hbb, hx, hat, z0, z1, z2, z3, z4, z5⟩ := HLr.rule_at hlt
      have hokx : RuleAt d wr wr.heap.size x a m := hat.mono' hbr.size (Kept.of fun _ _ => rfl)
      have C := Lib.hid (ev1R_any x a m g wr (below_cell hbr Hg.out) (fun W hW => HC.out x a m W (hokx.keep hW) (below_next hbr hW)))
      have i0 : (0 : Int) ≤ (k : Int) := by omega
      have i1 : (k : Int) < (n : Int) := by omega
      have HT : Hid ((l.take (k + 1)).all rightRule = rightRule x) := by
        show _ = _
        obtain ⟨g1, g2⟩ := List.getElem?_eq_some_iff.1 hx.out
        rw [List.take_succ_eq_append_getElem g1, g2, List.all_append, hpre.out]; simp
      have HF : Hid (rightRule x = false → l.all rightRule = false) := fun h => by
        rw [List.all_eq_false]
        exact ⟨x, List.mem_of_getElem? hx.out, by simp [h]⟩
      clear HLr hokx
      generalize rightRule x = B at *
      cases B with
      | true =>
        clear HF
        go_wp2_with fail
        refine C.out.mono ?_
        rintro e w1 ⟨rfl, hb⟩
        have Hb := Lib.hid hb
        clear hb
        go_wp2_with fail
        go_roundw
        case rel => exact ⟨k + 1, by omega, by go_num, HT, below_next hbr Hb.out⟩
        case measure => simp [intOf]; omega
      | false =>
        have HF' : Hid (l.all rightRule = false) := HF.out rfl
        clear HF
        go_wp2_with fail
        refine C.out.mono ?_
        rintro e w1 ⟨rfl, hb⟩
        have Hb := Lib.hid hb
        clear hb
        go_wp2_with fail
        go_ret
        exact ⟨_, rfl, by rw [HF'.out]; simp, below_next hbr Hb.out⟩
    · have i1 : ¬ (k : Int) < (n : Int) := by omega
      have HA : Hid (l.all rightRule = true) := by
        show _ = _
        have h := hpre.out
        rw [List.take_of_length_le (by have := hlen.out; omega)] at h
        exact h
      go_wp2_with fail
      go_ret
      exact ⟨_, rfl, by rw [HA.out]; rfl, hbr⟩
set_option maxRecDepth 100000 in
set_option maxHeartbeats 1000000 in
theorem everyR_any (d : Nat) (A : Option Addr) (n c : Nat) (l : List GRule) (w : World) (hl : SliceIs (Enc.rule d) w w.heap.size A n c l)
    (HC : Hid (∀ (x : GRule) (a m : Hd) W, RuleAt d W W.heap.size x a m → Below w.heap.size w W → Calls Tryz.prog 67 #[.agg #[.string x.head.rel, a.v, .int .i64 x.agg, .int .i64 x.col, m.v, .int .i64 x.pos]] W (RetBool (rightRule x) W))) :
    Calls Tryz.prog 98 #[.slice A n c, .func (.func 67) #[] #[]] w (RetBool (l.all rightRule) w) := by
  have hba : Below w.heap.size w (w.alloc (.cells #[.func (.func 67) #[] #[]] 141)) := belowA (Below.refl _ _) _
  have C := Lib.hid (evIR_any d A n c l w.heap.size (w.alloc (.cells #[.func (.func 67) #[] #[]] 141)) (hl.keep hba) ((cell_of_row _ _ 0 _ _ _ (heapNew rfl)).trans rfl) (fun x a m W h hW => HC.out x a m W h (below_next hba hW)))
  generalize l.all rightRule = B at *
  clear hl HC
  have CC : Hid (Calls Tryz.prog 143 #[.slice A n c, .func (.func 144) #[] #[.pointer (some ⟨w.heap.size, 0, none⟩)]] (w.alloc (.cells #[.func (.func 67) #[] #[]] 141)) (RetBool (!B) (w.alloc (.cells #[.func (.func 67) #[] #[]] 141)))) := by
    show Calls _ _ _ _ _
    generalize w.alloc (.cells #[.func (.func 67) #[] #[]] 141) = wb at *
    go_enter Tryz.func143, Tryz.ntmps143
    go_wp2_with fail
    refine C.out.mono ?_
    rintro e w1 ⟨k, rfl, hk, hb⟩
    have Hb := Lib.hid hb
    have Hk := Lib.hid hk
    clear hb hk
    go_wp2_with fail
    go_ret
    exact ⟨by rw [← Hk.out]; rfl, Hb.out⟩
  clear C
  go_enter Tryz.func98, Tryz.ntmps98
  go_wp2_with fail
  refine CC.out.mono ?_
  rintro e w1 ⟨rfl, hb⟩
  have Hb := Lib.hid hb
  clear hb CC
  go_wp2_with fail
  go_ret
  exact ⟨by cases B <;> rfl, below_next hba Hb.out⟩
end Go.Proofs.YtplekbpmfaghbaaGreatDoor

namespace Go.Proofs.YtplekbpmfaghbaaGreatDoor
open Go.RowKit
def formedB (x : GProg) : Bool := (decide (x.decls.length ≤ 32) && decide (x.rules.length ≤ 64)) && (x.decls.all declB && x.rules.all rightRule)
set_option maxRecDepth 100000 in
set_option maxHeartbeats 2000000 in
theorem formed_any (d : Nat) (x : GProg) (a b : Hd) (w : World) (h : ProgAt d w w.heap.size x a b) (hW : LexW w) : Calls Tryz.prog 51 #[.agg #[a.v, b.v]] w (RetBool (formedB x) w) := by
  obtain ⟨B, HB⟩ : ∃ B, Hid (B = formedB x) := ⟨_, rfl⟩
  rw [← HB.out]
  have hrb : (w.alloc (.cells #[a.v, b.v] 74)).heap[w.heap.size]? = some (.cells #[a.v, b.v] 74 (0, 0)) := heapNew rfl
  have hba : Below w.heap.size w (w.alloc (.cells #[a.v, b.v] 74)) := belowA (Below.refl _ _) _
  have hna := h.decls.bound
  have hnb := h.rules.bound
  have Hla := Lib.hid h.decls.1
  have Hlb := Lib.hid h.rules.1
  have HH := Lib.hid (h.keep hba)
  have HW := Lib.hid (hW.on hba)
  clear h hW
  obtain ⟨P1, HP1⟩ : ∃ E, Hid (E = x.decls.all declB) := ⟨_, rfl⟩
  obtain ⟨P2, HP2⟩ : ∃ E, Hid (E = x.rules.all rightRule) := ⟨_, rfl⟩
  have HE : Hid (B = ((decide (x.decls.length ≤ 32) && decide (x.rules.length ≤ 64)) && (P1 && P2))) := by show _ = _; rw [HB.out, HP1.out, HP2.out]; rfl
  have Hrow : Hid (∀ W, Below (w.alloc (.cells #[a.v, b.v] 74)).heap.size (w.alloc (.cells #[a.v, b.v] 74)) W → W.heap[w.heap.size]? = some (.cells #[a.v, b.v] 74 (0, 0))) := fun W h => (h.block _ (Array.getElem?_eq_some_iff.1 hrb).1).trans hrb
  obtain ⟨f0_0, f0_1⟩ := facts2 hrb
  have C1 : Hid (∀ W, Below (w.alloc (.cells #[a.v, b.v] 74)).heap.size (w.alloc (.cells #[a.v, b.v] 74)) W → Calls Tryz.prog 96 #[a.v, .func (.func 97) #[] #[]] W (RetBool P1 W)) := fun W h => by
    rw [HP1.out]
    exact everyD_any a.A a.n a.c x.decls W (HH.out.decls.keep h) (fun y a W' hy h' => declared_any y a W' hy ((HW.out.on h).on h'))
  have C2 : Hid (∀ W, Below (w.alloc (.cells #[a.v, b.v] 74)).heap.size (w.alloc (.cells #[a.v, b.v] 74)) W → Calls Tryz.prog 98 #[b.v, .func (.func 67) #[] #[]] W (RetBool P2 W)) := fun W h => by
    rw [HP2.out]
    exact everyR_any d b.A b.n b.c x.rules W (HH.out.rules.keep h) (fun y a m W' hy h' => rightRule_any d y a m W' hy ((HW.out.on h).on h'))
  clear hrb HB HP1 HP2 HH HW
  by_cases h1 : a.n ≤ 32
  rotate_left
  · have z1 : ¬ (a.n : Int) ≤ 32 := by omega
    have HE2 : Hid (B = false) := by show _ = _; rw [HE.out, decide_eq_false (by rw [Hla.out]; exact h1)]; rfl
    clear HE Hla Hlb h1 C1 C2
    go_enter Tryz.func51, Tryz.ntmps51
    go_wp2_with fail
    go_ret
    exact ⟨by rw [HE2.out]; rfl, hba⟩
  have z1 : (a.n : Int) ≤ 32 := by omega
  by_cases h2 : b.n ≤ 64
  rotate_left
  · have z2 : ¬ (b.n : Int) ≤ 64 := by omega
    have HE2 : Hid (B = false) := by show _ = _; rw [HE.out, decide_eq_false (show ¬ x.rules.length ≤ 64 by rw [Hlb.out]; exact h2)]; simp
    clear HE Hla Hlb h1 h2 C1 C2
    go_enter Tryz.func51, Tryz.ntmps51
    go_wp2_with fail
    go_ret
    exact ⟨by rw [HE2.out]; rfl, hba⟩
  have z2 : (b.n : Int) ≤ 64 := by omega
  have HE2 : Hid (B = (P1 && P2)) := by show _ = _; rw [HE.out, decide_eq_true (show x.decls.length ≤ 32 by rw [Hla.out]; exact h1), decide_eq_true (show x.rules.length ≤ 64 by rw [Hlb.out]; exact h2)]; rfl
  clear HE Hla Hlb h1 h2
  generalize hwb : (w.alloc (.cells #[a.v, b.v] 74)) = wb at *
  have Hbw0 := Lib.hid (Below.refl wb.heap.size wb)
  go_enter Tryz.func51, Tryz.ntmps51
  go_wp2_with fail
  try simp only [hwb]
  go_wp2_with fail
  refine (C1.out _ Hbw0.out).mono ?_
  rintro e1 w1 ⟨rfl, hq1⟩
  have Hbw1 := Lib.hid (below_next Hbw0.out hq1)
  obtain ⟨f1_0, f1_1⟩ := facts2 (Hrow.out _ Hbw1.out)
  clear hq1 f0_0 f0_1
  cases P1 with
  | false =>
    go_wp2_with fail
    go_ret
    exact ⟨by rw [HE2.out]; rfl, below_next hba Hbw1.out⟩
  | true =>
    go_wp2_with fail
    refine (C2.out _ Hbw1.out).mono ?_
    rintro e2 w2 ⟨rfl, hq2⟩
    have Hbw2 := Lib.hid (below_next Hbw1.out hq2)
    obtain ⟨f2_0, f2_1⟩ := facts2 (Hrow.out _ Hbw2.out)
    clear hq2 f1_0 f1_1
    cases P2 <;>
    · go_wp2_with fail
      go_ret
      exact ⟨by rw [HE2.out]; rfl, below_next hba Hbw2.out⟩
end Go.Proofs.YtplekbpmfaghbaaGreatDoor

namespace Go.Proofs.YtplekbpmfaghbaaGreatDoor
open Go.RowKit
/-- a value's text -/
def textOf (v : GV) : List UInt8 := if rightB v then (if v.k = 2 then v.s.toList else Lib.itoa v.n) else []
theorem bytes_back0 (s : ByteArray) : (⟨s.toList.toArray⟩ : ByteArray) = s := by
  rw [ByteArray.toList_eq]
set_option maxRecDepth 100000 in
set_option maxHeartbeats 400000 in
theorem text_any (v : GV) (hv : fits v.n) (w : World) (h : TabW w) : Calls Tryz.prog 153 #[v.v] w (RetV (.string ⟨(textOf v).toArray⟩) w) := by
  have HT := Lib.hid h
  have Hv := Lib.hid hv
  have hr := fun w => right_any v w
  cases hR : rightB v with
  | false =>
    rw [hR] at hr
    have hr := Lib.hid hr
    rw [show textOf v = [] by simp [textOf, hR]]
    clear h hv hR
    go_enter Tryz.func153, Tryz.ntmps153
    go_wp2_with (go_at_call 60; refine (hr.out _).mono ?_; rintro e w1 ⟨rfl, hq1⟩)
    go_ret
    exact ⟨rfl, below_next (belowA (Below.refl _ w) _) hq1⟩
  | true =>
    rw [hR] at hr
    have hr := Lib.hid hr
    by_cases hk : v.k = 2
    · have hk' : (v.k == 2) = true := by simp [hk]
      rw [show textOf v = v.s.toList by simp [textOf, hR, hk], bytes_back0]
      clear h hv hR hk
      go_enter Tryz.func153, Tryz.ntmps153
      go_wp2_with (go_at_call 60; refine (hr.out _).mono ?_; rintro e w1 ⟨rfl, hq1⟩; obtain ⟨hc, hf⟩ := bcell hq1; simp only [World.size_alloc] at hc hf)
      go_ret
      exact ⟨rfl, below_next (belowA (Below.refl _ w) _) hq1⟩
    · have hk' : (v.k == 2) = false := by simp [hk]
      have ht : textOf v = Lib.itoa v.n := by simp [textOf, hR, hk]
      rw [ht]
      clear h hv hR hk ht
      go_enter Tryz.func153, Tryz.ntmps153
      go_wp2_with (first
        | (go_at_call 60
           refine (hr.out _).mono ?_
           rintro e w1 ⟨rfl, hq1⟩
           have hbw := below_next (belowA (Below.refl _ w) _) hq1
           obtain ⟨hc, hf⟩ := bcell hq1
           simp only [World.size_alloc] at hc hf)
        | (go_at_call 179
           refine (itoa_any _ Hv.out _ (HT.out.on hbw)).mono ?_
           rintro e w2 ⟨s, hs, -, rfl, hq2⟩))
      go_ret
      exact ⟨by rw [hs.out]; rfl, below_next hbw hq2⟩
end Go.Proofs.YtplekbpmfaghbaaGreatDoor

namespace Go.Proofs.YtplekbpmfaghbaaGreatDoor
open Go.RowKit
def sep2 : List UInt8 := [44, 32]
def shownT (t : GTold) : List UInt8 := if t.x.size = 0 then textOf t.v else t.x.toList
def opS (o : Int) : List UInt8 := if o = 1 then [43] else if o = 2 then [45] else [42]
def sumB (e : GExp) : Bool := decide (0 < e.op) && decide (e.op < 3)
def inB (b : Bool) (s : List UInt8) : List UInt8 := if b then [40] ++ s ++ [41] else s
def expS : Nat → GExp → List UInt8
  | 0, e => shownT e.t
  | k + 1, e => if e.op = 0 then shownT e.t else match e.kids with
    | [a, b] => inB (decide (e.op = 3) && sumB a) (expS k a) ++ [32] ++ opS e.op ++ [32] ++ inB (sumB b || (decide (e.op = 3) && decide (b.op = 3))) (expS k b)
    | _ => []
theorem expS_leaf {k : Nat} {e : GExp} (h : e.op = 0) : expS k e = shownT e.t := by
  cases k <;> simp [expS, h]
theorem expS_two {k : Nat} {e a b : GExp} (h : ¬ e.op = 0) (hk : e.kids = [a, b]) : expS (k + 1) e = inB (decide (e.op = 3) && sumB a) (expS k a) ++ [32] ++ opS e.op ++ [32] ++ inB (sumB b || (decide (e.op = 3) && decide (b.op = 3))) (expS k b) := by
  simp [expS, h, hk]
def aggS (g : Int) : List UInt8 := if g = 1 then [99, 111, 117, 110, 116] else if g = 2 then [115, 117, 109] else if g = 3 then [109, 105, 110] else [109, 97, 120]
def thing (agg col : Int) (i : Nat) (t : GTold) : List UInt8 := if 0 < agg ∧ (i : Int) = col then aggS agg ++ [40] ++ shownT t ++ [41] else shownT t
def thingsL (agg col : Int) : Nat → List GTold → List (List UInt8)
  | _, [] => []
  | i, t :: ts => thing agg col i t :: thingsL agg col (i + 1) ts
def thingsS (agg col : Int) (l : List GTold) : List UInt8 := [40] ++ Lib.join (thingsL agg col 0 l) sep2 ++ [41]
def atomS (a : GAtom) (agg col : Int) : List UInt8 := a.rel.toList ++ thingsS agg col a.args
def sgnS (o : Int) : List UInt8 := if o = 1 then [61] else if o = 2 then [33, 61] else if o = 3 then [60] else if o = 4 then [60, 61] else if o = 5 then [62] else [62, 61]
def litS (l : GLit) : List UInt8 := if l.k = 3 then expS 20 l.l ++ [32] ++ sgnS l.op ++ [32] ++ expS 20 l.r else if l.k = 2 then [110, 111, 116, 32] ++ atomS l.atom 0 0 else atomS l.atom 0 0
def ruleS (r : GRule) : List UInt8 := atomS r.head r.agg r.col ++ (if r.body = [] then [] else [32, 58, 45, 32] ++ Lib.join (r.body.map litS) sep2) ++ [46]
theorem thingsL_get (agg col : Int) : ∀ (l : List GTold) (s i : Nat) (t : GTold), l[i]? = some t → (thingsL agg col s l)[i]? = some (thing agg col (s + i) t)
  | [], _, _, _, h => by simp at h
  | t :: ts, s, 0, x, h => by simp at h; subst h; simp [thingsL]
  | t :: ts, s, i + 1, x, h => by
    simp at h
    rw [thingsL, List.getElem?_cons_succ, thingsL_get agg col ts (s + 1) i x h]
    congr 2; omega
theorem thingsL_len (agg col : Int) : ∀ (l : List GTold) (s : Nat), (thingsL agg col s l).length = l.length
  | [], _ => rfl
  | t :: ts, s => by rw [thingsL, List.length_cons, thingsL_len agg col ts, List.length_cons]
theorem thingsL_snoc (agg col : Int) : ∀ (l : List GTold) (s : Nat) (t : GTold), thingsL agg col s (l ++ [t]) = thingsL agg col s l ++ [thing agg col (s + l.length) t]
  | [], s, t => by simp [thingsL]
  | x :: l, s, t => by
    rw [List.cons_append, thingsL, thingsL, thingsL_snoc agg col l, List.length_cons, List.cons_append]
    congr 4; omega
theorem thingsL_take (agg col : Int) {l : List GTold} {k : Nat} {t : GTold} (h : l[k]? = some t) : thingsL agg col 0 (l.take (k + 1)) = thingsL agg col 0 (l.take k) ++ [thing agg col k t] := by
  have hk : k < l.length := (List.getElem?_eq_some_iff.1 h).1
  rw [List.take_add_one, h]
  simp only [Option.toList_some]
  rw [thingsL_snoc, List.length_take, Nat.min_eq_left (by omega), Nat.zero_add]
theorem join_two (x y : List UInt8) (r : List (List UInt8)) : Lib.join (x :: y :: r) sep2 = x ++ (sep2 ++ Lib.join (y :: r) sep2) := by
  simp [Lib.join, List.intercalate, List.intersperse]
theorem join_one (x : List UInt8) : Lib.join [x] sep2 = x := by simp [Lib.join, List.intercalate]
/-- the length of a joined list -/
def sumLen : List (List UInt8) → Nat
  | [] => 0
  | x :: xs => x.length + 2 + sumLen xs
theorem join_le : ∀ xs : List (List UInt8), (Lib.join xs sep2).length ≤ sumLen xs
  | [] => by simp [Lib.join, List.intercalate]
  | [a] => by rw [join_one]; simp only [sumLen]; omega
  | a :: b :: r => by
    have ih := join_le (b :: r)
    rw [join_two, List.length_append, List.length_append]
    have : sep2.length = 2 := rfl
    simp only [sumLen] at ih ⊢
    omega
theorem textOf_len (v : GV) : (textOf v).length ≤ 32 := by
  by_cases h : rightB v = true
  · unfold textOf
    rw [if_pos h]
    unfold rightB at h
    split at h
    · rename_i h1
      simp only [Bool.and_eq_true, decide_eq_true_eq] at h
      rw [if_neg (by omega)]
      have := Lib.itoa_length_le v.n (by omega) (by omega)
      omega
    · split at h
      · simp only [Bool.and_eq_true, decide_eq_true_eq] at h
        rw [if_pos ‹_›]
        have h2 := h.2
        simp only [nameOk, Bool.and_eq_true, decide_eq_true_eq] at h2
        have e : v.s.toList.length = v.s.size := by rw [ByteArray.toList_eq]; rfl
        omega
      · cases h
  · simp [textOf, h]
theorem shown_len (t : GTold) : (shownT t).length ≤ t.x.size + 32 := by
  unfold shownT
  split
  · have := textOf_len t.v; omega
  · rw [ba_len]; omega
theorem inB_len (b : Bool) (s : List UInt8) : (inB b s).length ≤ s.length + 2 := by
  cases b <;> simp [inB]
theorem opS_len (o : Int) : (opS o).length = 1 := by unfold opS; split; rfl; split <;> rfl
theorem sgnS_len (o : Int) : (sgnS o).length ≤ 2 := by
  unfold sgnS
  repeat' split
  all_goals simp
theorem aggS_len (o : Int) : (aggS o).length ≤ 5 := by
  unfold aggS
  repeat' split
  all_goals simp
theorem thing_len (agg col : Int) (i : Nat) (t : GTold) : (thing agg col i t).length ≤ t.x.size + 39 := by
  have h := shown_len t
  have h2 := aggS_len agg
  unfold thing
  split
  · simp only [List.length_append, List.length_cons, List.length_nil]; omega
  · omega
end Go.Proofs.YtplekbpmfaghbaaGreatDoor

namespace Go.Proofs.YtplekbpmfaghbaaGreatDoor
open Go.RowKit
theorem str_info : (Tryz.prog.info? 9).map (fun i => (i.zero, i.size, i.bytes)) = some (some (.string ⟨#[]⟩), 1, 16) := by kernel_rfl
theorem str_push {w W : World} {v : Value} {n : Nat} {xs : List Value} (x : ByteArray) (hn : n ≤ 1000000) (hb : Below w.heap.size w W) (hown : W.ownsRow w.heap.size 9 1 v n xs) :
    ∃ v' w', (∀ ty, (Builtin.append_ #[81, 81] ty #[v, .slice (some ⟨W.heap.size, 0, none⟩) 1 1]).run Tryz.prog (W.alloc (.cells #[.string x] 9)) = .ok v' w') ∧
      w'.ownsRow w.heap.size 9 1 v' (n + 1) (xs ++ [.string x]) ∧ Below w.heap.size w w' := by
  obtain ⟨v', w', h1, h2, h3⟩ := run_push (P := Tryz.prog) W W.heap.size rfl (base := w.heap.size) (t := 81) (ty := 81) Tryz.underlying81 str_info rfl (by decide) hown [.string x] rfl (by simp [Value.oneCell'])
    (by simp [maxLen]; omega) (by omega) hb.size
  exact ⟨v', w', fun _ => h1, h2, hb.trans h3⟩
theorem bytes_list (l : List UInt8) : (bytes l).toList = l := toList_mk _
theorem bytes_size (l : List UInt8) : (bytes l).size = l.length := rfl
theorem bytes_app (a b : List UInt8) : bytes a ++ bytes b = bytes (a ++ b) := by
  unfold bytes
  rw [ByteArray.mk_append_mk]
theorem bytes_of (s : ByteArray) : bytes s.toList = s := bytes_back s
def JoinPost (l : List UInt8) (w : World) (e : Ending) (w' : World) : Prop := e = .returned (.string (bytes l)) ∧ Below w.heap.size w w'
theorem sjoin_any {base : Nat} (A : Option Addr) (n c : Nat) (L : List (List UInt8)) (w : World) (hn : L.length = n) (hlen : (Lib.join L sep2).length ≤ 140737488355328) (hN : n ≤ 1000000) (ho : w.ownsRow base 9 1 (.slice A n c) n (L.map fun l => .string (bytes l))) :
    Calls Tryz.prog 112 #[.slice A n c, .string ⟨#[44, 32]⟩] w (JoinPost (Lib.join L sep2) w) := by
  subst hn
  have hx : (L.map bytes).map (·.data.toList) = L := by
    rw [List.map_map]
    exact (List.map_congr_left (fun l _ => rfl)).trans (List.map_id L)
  rcases ho.2 with ⟨h, h0⟩ | ⟨g, cap, cur, h, hgb, hh, hnc, hcm, hcs, htk⟩
  · have e : L = [] := List.eq_nil_of_length_eq_zero h0
    subst e
    refine (Tryz.strings_Join_none A c _ w).mono ?_
    rintro e w' ⟨rfl, rfl⟩
    exact ⟨rfl, Below.refl _ _⟩
  · simp only [Value.slice.injEq] at h
    obtain ⟨rfl, _, rfl⟩ := h
    have := Tryz.strings_Join g 0 c (L.map bytes) ⟨#[44, 32]⟩ w (by
      intro j x hj
      rw [Nat.zero_add, cell_of_row _ _ j _ _ _ hh, ← Array.getElem?_toList]
      have hjl2 : j < L.length := by have := (List.getElem?_eq_some_iff.1 hj).1; simpa using this
      have h2 := congrArg (fun l => l[j]?) htk
      simp only [List.getElem?_take, if_pos (show j < L.length * 1 by omega)] at h2
      rw [h2, List.getElem?_map]
      rw [List.getElem?_map] at hj
      obtain ⟨v, hv, rfl⟩ := Option.map_eq_some_iff.1 hj
      rw [hv]; rfl) (Array.getElem?_eq_some_iff.1 hh).1 (by simp; omega) (by simpa using hnc) (by rw [hx]; exact hlen)
    rw [hx] at this
    simp only [List.length_map] at this
    exact this
end Go.Proofs.YtplekbpmfaghbaaGreatDoor

namespace Go.Proofs.YtplekbpmfaghbaaGreatDoor
open Go.RowKit
/-- what is known in the midst of the region -/
structure MidJ (ops : Array Oper) (base : Array Value) (L : Nat) (G : Nat → World → Prop) (F : Nat → Value → World → Prop) (J : (Nat → Bool) → Array Value → World → Prop) (listed : Array Bool) (a : Act) (w : World) : Prop where
  defers : a.defers = []
  size : a.tmps.size = base.size
  lsize : listed.size = ops.size
  closed : ∀ (i : Nat) (o : Oper), ops[i]? = some o → listed.getD i false = true → ∀ e ∈ o.after, Region.binds .any e = true → listed.getD e.on false = true
  old : ∀ t : Nat, (∀ (i : Nat) (o : Oper), i < L → ops[i]? = some o → o.dst ≠ some t) → a.tmps[t]? = base[t]?
  glob : ∀ j, j ≤ L → listed.getD j false = false → G j w
  fact : ∀ (i : Nat) (o : Oper) (d : Tmp), ops[i]? = some o → o.dst = some d → listed.getD i false = true → ∃ v, a.tmps[d]? = some v ∧ F i v w
  joint : J (fun j => listed.getD j false) a.tmps w
section
variable {P : Program} {ops : Array Oper} {Q : Exit → Act → World → Prop}
/-- the law -/
theorem drawn_lawJ {id : Nat} {a : Act} {w : World} (hm : P.follows .mixedOrders = true) (L : Nat) (G : Nat → World → Prop) (F : Nat → Value → World → Prop) (R : Nat → World → World → Prop) (J : (Nat → Bool) → Array Value → World → Prop)
    (hd : a.defers = []) (hL : L + 1 = ops.size) (hg : ∀ (i : Nat) (o : Oper), ops[i]? = some o → o.guard = none) (hord : ∀ (i : Nat) (o : Oper), ops[i]? = some o → ∀ e ∈ o.after, Region.binds .any e = true → e.on < i)
    (hdst : ∀ (i j : Nat) (o o' : Oper) (d : Tmp), ops[i]? = some o → ops[j]? = some o' → o.dst = some d → o'.dst = some d → i = j) (hsz : ∀ (i : Nat) (o : Oper) (d : Tmp), ops[i]? = some o → o.dst = some d → d < a.tmps.size)
    (hanc : ∀ j, j < L → j ∈ ancs ops ops.size L)
    (hJ0 : J (fun _ => false) a.tmps w.drew) (hG : ∀ j, j ≤ L → G j w.drew) (hFm : ∀ i j v w w', i ≠ j → i < L → j < L → F i v w → R j w w' → F i v w') (hGm : ∀ i j w w', i ≠ j → i < L → j ≤ L → j ∉ ancs ops ops.size i → G j w → R i w w' → G j w')
    (hstep : ∀ (l : Nat → Bool) (i : Nat) (o : Oper) (a' : Act) (w' : World), J l a'.tmps w' → l i = false → (∀ e ∈ o.after, Region.binds .any e = true → l e.on = true) → ops[i]? = some o → i < L → a'.defers = [] → a'.tmps.size = a.tmps.size → (∀ t : Nat, (∀ (i : Nat) (o : Oper), i < L → ops[i]? = some o → o.dst ≠ some t) → a'.tmps[t]? = a.tmps[t]?) → G i w' → G L w' →
      (∀ e ∈ o.after, Region.binds .any e = true → ∀ oj d, ops[e.on]? = some oj → oj.dst = some d → ∃ v, a'.tmps[d]? = some v ∧ F e.on v w') → o.wp P a' w' (fun a2 w2 => ∃ v, a2 = a'.put o.dst v ∧ R i w' w2 ∧ F i v w2 ∧ ∀ l' : Nat → Bool, l' i = true → (∀ j, j ≠ i → l' j = l j) → J l' (a'.put o.dst v).tmps w2) Q)
    (hlast : ∀ (l : Nat → Bool) (o : Oper) (a' : Act) (w' : World), J l a'.tmps w' → (∀ j, j < L → l j = true) → ops[L]? = some o → a'.defers = [] → a'.tmps.size = a.tmps.size → (∀ t : Nat, (∀ (i : Nat) (o : Oper), i < L → ops[i]? = some o → o.dst ≠ some t) → a'.tmps[t]? = a.tmps[t]?) → G L w' →
      (∀ (i : Nat) (oj : Oper) (d : Tmp), i < L → ops[i]? = some oj → oj.dst = some d → ∃ v, a'.tmps[d]? = some v ∧ F i v w') → o.wp P a' w' (fun a2 w2 => Q .normal a2 w2) Q) :
    (Code.region id ops true).wp P Q a w := by
  have main : ∀ (fuel : Nat) (listed : Array Bool) (a' : Act) (w' : World), MidJ ops a.tmps L G F J listed a' w' → listed.getD L true = false → listed.toList.count false ≤ fuel → wpAny P .any ops Q fuel listed a' w' := by
    intro fuel
    induction fuel with
    | zero =>
      intro listed a' w' hM hoff hc
      have : false ∈ listed.toList := by
        have hl : L < listed.size := by rw [hM.lsize]; omega
        have h1 : listed[L]? = some false := by simp [hl] at hoff ⊢; exact hoff
        exact List.mem_iff_getElem?.2 ⟨L, by simpa using h1⟩
      have := List.count_pos_iff.2 this
      omega
    | succ fuel ih =>
      intro listed a' w' hM hoff hc
      refine ⟨fun hr => ?_, fun i hi => ?_⟩
      · exfalso
        obtain ⟨i, h1, h2⟩ := least_off listed (fun _ => True) ops.size ⟨L, by omega, hoff⟩
        have hil : i < listed.size := by
          rcases Nat.lt_or_ge i listed.size with h | h
          · exact h
          · simp [Array.getElem?_eq_none h] at h1
        have hio : i < ops.size := by rw [← hM.lsize]; exact hil
        have : i ∈ Region.ready .any ops listed := mem_ready.2 ⟨h1, ops[i], by simp [hio], fun e he hbe => by
          have h3 := hord i ops[i] (by simp [hio]) e he hbe
          have h4 := h2 e.on h3
          rwa [getD_any (by omega) true false] at h4⟩
        rw [hr] at this; cases this
      · obtain ⟨h1, o, ho, h2⟩ := mem_ready.1 hi
        have hio : i < ops.size := (Array.getElem?_eq_some_iff.1 ho).1
        have hil : i < listed.size := by rw [hM.lsize]; exact hio
        have hw : Region.wanted o (yielded ops a'.tmps) = true := by simp [Region.wanted, hg i o ho]
        unfold wpOp
        rw [ho]
        simp only [hw, if_true]
        left
        by_cases hiL : i = L
        · subst hiL
          have hall : ∀ j, j < i → listed.getD j false = true := fun j hj => ancs_listed hM.closed ops.size i o ho h2 j (hanc j hj)
          refine Oper.wp_mono (fun a2 w2 h => ?_) (hlast _ o a' w' hM.joint hall ho hM.defers hM.size hM.old (hM.glob i (Nat.le_refl _) (by rw [getD_any (c := true) (by omega)]; exact hoff)) (fun j oj d hj hoj hdj => hM.fact j oj d hoj hdj (hall j hj)))
          refine wpAny_end ?_ h fuel
          apply List.eq_nil_iff_forall_not_mem.2
          intro j hj
          obtain ⟨h3, oj, hoj, -⟩ := mem_ready.1 hj
          have hjo : j < ops.size := (Array.getElem?_eq_some_iff.1 hoj).1
          by_cases hji : i = j
          · subst hji; rw [getD_set_same hil] at h3; cases h3
          · rw [getD_set_other hji, getD_any (c := false) (by omega), hall j (by omega)] at h3; cases h3
        · have hiL' : i < L := by omega
          have hif : listed.getD i false = false := by rw [getD_any (c := true) (by omega)]; exact h1
          refine Oper.wp_mono (fun a2 w2 h => ?_) (hstep _ i o a' w' hM.joint hif h2 ho hiL' hM.defers hM.size hM.old (hM.glob i (by omega) hif) (hM.glob L (Nat.le_refl _) (by rw [getD_any (c := true) (by rw [hM.lsize]; omega)]; exact hoff)) (fun e he hb oj d hoj hdj => hM.fact e.on oj d hoj hdj (h2 e he hb)))
          obtain ⟨v, rfl, hb, hF, hJ⟩ := h
          have hfac : ∀ (j : Nat) (oj : Oper) (d : Tmp), i ≠ j → ops[j]? = some oj → oj.dst = some d → listed.getD j false = true → ∃ v, a'.tmps[d]? = some v ∧ F j v w2 := fun j oj d hji hoj hdj hlj => by
            obtain ⟨u, hu, hFu⟩ := hM.fact j oj d hoj hdj hlj
            have hjs : j < ops.size := (Array.getElem?_eq_some_iff.1 hoj).1
            have hjL : j ≠ L := fun e => by rw [e, getD_any (c := true) (by rw [hM.lsize]; omega), hoff] at hlj; cases hlj
            exact ⟨u, hu, hFm j i u _ _ (Ne.symm hji) (by omega) hiL' hFu hb⟩
          refine ih _ _ _ ⟨?_, ?_, ?_, ?_, ?_, ?_, ?_, hJ _ (getD_set_same hil) (fun j hj => getD_set_other (Ne.symm hj))⟩ (by rw [getD_set_other hiL]; exact hoff) ?_
          · cases o.dst <;> exact hM.defers
          · cases o.dst <;> simp [Act.put, hM.size]
          · simp [hM.lsize]
          · intro j oj hoj hlj e he hbe
            by_cases hje : i = e.on
            · rw [hje]; exact getD_set_same (by omega)
            · rw [getD_set_other hje]
              by_cases hji : i = j
              · subst hji
                have : oj = o := by rw [ho] at hoj; injection hoj with hoj; exact hoj.symm
                subst this
                exact h2 e he hbe
              · rw [getD_set_other hji] at hlj
                exact hM.closed j oj hoj hlj e he hbe
          · intro t ht
            rw [← hM.old t ht]
            have := ht i o hiL' ho
            cases hd : o.dst with
            | none => rfl
            | some d => simp only [Act.put]; exact Array.getElem?_setIfInBounds_ne (by intro e; rw [hd, e] at this; exact this rfl)
          · intro j hj hlj
            by_cases hji : i = j
            · subst hji; rw [getD_set_same hil] at hlj; cases hlj
            · rw [getD_set_other hji] at hlj
              refine hGm i j _ _ hji hiL' hj (fun hmem => ?_) (hM.glob j hj hlj) hb
              have := ancs_listed hM.closed ops.size i o ho h2 j hmem
              rw [hlj] at this; cases this
          · intro j oj d hoj hdj hlj
            by_cases hji : i = j
            · subst hji
              have : oj = o := by rw [ho] at hoj; injection hoj with hoj; exact hoj.symm
              subst this
              have hds := hsz i oj d hoj hdj
              refine ⟨v, ?_, hF⟩
              rw [hdj]
              simp [Act.put, hM.size, hds]
            · rw [getD_set_other hji] at hlj
              obtain ⟨u, hu, hFu⟩ := hfac j oj d hji hoj hdj hlj
              refine ⟨u, ?_, hFu⟩
              rw [← hu]
              cases hd : o.dst with
              | none => rfl
              | some d' => simp only [Act.put]; exact Array.getElem?_setIfInBounds_ne (by intro e; exact hji (hdst i j o oj d ho hoj (by rw [hd, e]) hdj))
          · have h3 : listed.toList[i]? = some false := by simp [hil] at h1 ⊢; exact h1
            have h4 := count_set _ _ h3
            rw [Array.toList_setIfInBounds]
            omega
  have hLo : L < ops.size := by omega
  refine wp_region_any hm (main ops.size (Array.replicate ops.size false) a _ ⟨hd, rfl, by simp, ?_, fun _ _ => rfl, fun j hj _ => hG j hj, ?_, by
    have : (fun j => (Array.replicate ops.size false).getD j false) = fun _ => false := by
      funext j
      by_cases h : j < ops.size <;> simp [h]
    rw [this]; exact hJ0⟩ (by simp [hLo]) ?_)
  · intro i o ho hl
    have hio : i < ops.size := (Array.getElem?_eq_some_iff.1 ho).1
    simp [hio] at hl
  · intro i o d ho _ hl
    have hio : i < ops.size := (Array.getElem?_eq_some_iff.1 ho).1
    simp [hio] at hl
  · refine Nat.le_trans List.count_le_length ?_
    simp
/-- what the law asks of a region, to be reckoned -/
def drawnOkJ (ops : Array Oper) (L n : Nat) : Bool :=
  decide (L + 1 = ops.size) && ((List.range ops.size).all fun i => match ops[i]? with
    | none => true
    | some o => o.guard.isNone && (o.after.toList.all (fun e => decide (e.on < i) || !Region.binds .any e) && (match o.dst with
      | none => true
      | some d => decide (d < n) && (List.range ops.size).all (fun j => decide (i = j) || (match ops[j]? with | none => true | some o' => !decide (o'.dst = some d)))))) &&
  (List.range L).all (fun j => (ancs ops ops.size L).contains j)
theorem drawnJ {id : Nat} {a : Act} {w : World} (hm : P.follows .mixedOrders = true) (L n : Nat) (G : Nat → World → Prop) (F : Nat → Value → World → Prop) (R : Nat → World → World → Prop) (J : (Nat → Bool) → Array Value → World → Prop)
    (hn : a.tmps.size = n) (hok : drawnOkJ ops L n = true) (hd : a.defers = [])
    (hJ0 : J (fun _ => false) a.tmps w.drew) (hG : ∀ j, j ≤ L → G j w.drew) (hFm : ∀ i j v w w', i ≠ j → i < L → j < L → F i v w → R j w w' → F i v w') (hGm : ∀ i j w w', i ≠ j → i < L → j ≤ L → j ∉ ancs ops ops.size i → G j w → R i w w' → G j w')
    (hstep : ∀ (l : Nat → Bool) (i : Nat) (o : Oper) (a' : Act) (w' : World), J l a'.tmps w' → l i = false → (∀ e ∈ o.after, Region.binds .any e = true → l e.on = true) → i < L → ops[i]? = some o → a'.defers = [] → a'.tmps.size = n → (∀ t : Nat, (ops.toList.take L).all (fun o => !decide (o.dst = some t)) = true → a'.tmps[t]? = a.tmps[t]?) → G i w' → G L w' →
      (∀ j d, waitsFor ops i j = some d → ∃ v, a'.tmps[d]? = some v ∧ F j v w') → o.wp P a' w' (fun a2 w2 => ∃ v, a2 = a'.put o.dst v ∧ R i w' w2 ∧ F i v w2 ∧ ∀ l' : Nat → Bool, l' i = true → (∀ j, j ≠ i → l' j = l j) → J l' (a'.put o.dst v).tmps w2) Q)
    (hlast : ∀ (l : Nat → Bool) (o : Oper) (a' : Act) (w' : World), J l a'.tmps w' → (∀ j, j < L → l j = true) → ops[L]? = some o → a'.defers = [] → a'.tmps.size = n → (∀ t : Nat, (ops.toList.take L).all (fun o => !decide (o.dst = some t)) = true → a'.tmps[t]? = a.tmps[t]?) → G L w' →
      (∀ i d, i < L → dstOf ops i = some d → ∃ v, a'.tmps[d]? = some v ∧ F i v w') → o.wp P a' w' (fun a2 w2 => Q .normal a2 w2) Q) :
    (Code.region id ops true).wp P Q a w := by
  simp only [drawnOkJ, Bool.and_eq_true, decide_eq_true_eq, List.all_eq_true, List.mem_range] at hok
  obtain ⟨⟨hL, h1⟩, h2⟩ := hok
  have hall : ∀ (i : Nat) (o : Oper), ops[i]? = some o → o.guard.isNone = true ∧ (∀ e ∈ o.after.toList, Region.binds .any e = true → e.on < i) ∧ (∀ d, o.dst = some d → d < n ∧ ∀ j o', ops[j]? = some o' → o'.dst = some d → i = j) := by
    intro i o ho
    have hi : i < ops.size := (Array.getElem?_eq_some_iff.1 ho).1
    have := h1 i hi
    rw [ho] at this
    simp only [Bool.and_eq_true, List.all_eq_true] at this
    obtain ⟨k1, k2, k3⟩ := this
    refine ⟨k1, fun e he hb => by have := k2 e he; simpa [hb] using this, fun d hd => ?_⟩
    rw [hd] at k3
    simp only [Bool.and_eq_true, List.all_eq_true, decide_eq_true_eq, List.mem_range, Bool.or_eq_true] at k3
    refine ⟨k3.1, fun j o' ho' hd' => ?_⟩
    have hj : j < ops.size := (Array.getElem?_eq_some_iff.1 ho').1
    rcases k3.2 j hj with h | h
    · exact h
    · rw [ho'] at h; simp [hd'] at h
  have hold : ∀ t : Nat, (ops.toList.take L).all (fun o => !decide (o.dst = some t)) = true → ∀ (i : Nat) (o : Oper), i < L → ops[i]? = some o → o.dst ≠ some t := by
    intro t ht i o hi ho
    have hm : o ∈ ops.toList.take L := by
      have := List.mem_of_getElem? (l := ops.toList.take L) (i := i) (a := o) (by rw [List.getElem?_take_of_lt hi]; simpa using ho)
      exact this
    have := List.all_eq_true.1 ht o hm
    simpa using this
  refine drawn_lawJ hm L G F R J hd hL (fun i o ho => by have := (hall i o ho).1; simpa using this) (fun i o ho e he hb => (hall i o ho).2.1 e (by simpa using he) hb) (fun i j o o' d ho ho' hd hd' => ((hall i o ho).2.2 d hd).2 j o' ho' hd') (fun i o d ho hd => by rw [hn]; exact ((hall i o ho).2.2 d hd).1)
    (fun j hj => by simpa using h2 j hj) hJ0 hG hFm hGm ?_ ?_
  · intro l i o a' w' hJ hli hlw ho hi hd' hs hold' hGi hGL hw
    refine hstep l i o a' w' hJ hli hlw hi ho hd' (by rw [hs, hn]) (fun t ht => hold' t (hold t ht)) hGi hGL (fun j d hj => ?_)
    unfold waitsFor at hj
    rw [ho] at hj
    simp only at hj
    split at hj
    · rename_i hany
      obtain ⟨e, he, he2⟩ := List.any_eq_true.1 hany
      simp only [Bool.and_eq_true, decide_eq_true_eq] at he2
      obtain ⟨rfl, hb⟩ := he2
      cases ho2 : ops[e.on]? with
      | none => rw [ho2] at hj; cases hj
      | some oj => rw [ho2] at hj; exact hw e (by simpa using he) hb oj d ho2 hj
    · cases hj
  · intro l o a' w' hJ hlL ho hd' hs hold' hGL hw
    refine hlast l o a' w' hJ hlL ho hd' (by rw [hs, hn]) (fun t ht => hold' t (hold t ht)) hGL (fun i d hi hd => ?_)
    unfold dstOf at hd
    cases ho2 : ops[i]? with
    | none => rw [ho2] at hd; cases hd
    | some oj => rw [ho2] at hd; exact hw i oj d hi ho2 hd
/-- the same, the frame at the last operation told -/
theorem drawnJ2 {P : Program} {ops : Array Oper} {Q : Exit → Act → World → Prop} {id : Nat} {a : Act} {w : World} (hm : P.follows .mixedOrders = true) (L n : Nat) (ds : List Nat) (G : Nat → World → Prop) (F : Nat → Value → World → Prop) (R : Nat → World → World → Prop) (J : (Nat → Bool) → Array Value → World → Prop)
    (hn : a.tmps.size = n) (hok : drawnOkJ ops L n = true) (hds : (ops.toList.take L).filterMap (·.dst) = ds) (hd : a.defers = [])
    (hJ0 : J (fun _ => false) a.tmps w.drew) (hG : ∀ j, j ≤ L → G j w.drew) (hFm : ∀ i j v w w', i ≠ j → i < L → j < L → F i v w → R j w w' → F i v w') (hGm : ∀ i j w w', i ≠ j → i < L → j ≤ L → j ∉ ancs ops ops.size i → G j w → R i w w' → G j w')
    (hstep : ∀ (l : Nat → Bool) (i : Nat) (o : Oper) (a' : Act) (w' : World), J l a'.tmps w' → l i = false → (∀ e ∈ o.after, Region.binds .any e = true → l e.on = true) → i < L → ops[i]? = some o → a'.defers = [] → a'.tmps.size = n → (∀ t : Nat, (ops.toList.take L).all (fun o => !decide (o.dst = some t)) = true → a'.tmps[t]? = a.tmps[t]?) → G i w' → G L w' →
      (∀ j d, waitsFor ops i j = some d → ∃ v, a'.tmps[d]? = some v ∧ F j v w') → o.wp P a' w' (fun a2 w2 => ∃ v, a2 = a'.put o.dst v ∧ R i w' w2 ∧ F i v w2 ∧ ∀ l' : Nat → Bool, l' i = true → (∀ j, j ≠ i → l' j = l j) → J l' (a'.put o.dst v).tmps w2) Q)
    (hlast : ∀ (l : Nat → Bool) (o : Oper) (u : Nat → Value) (w' : World), J l (ds.foldl (fun x d => x.put (some d) (u d)) a).tmps w' → (∀ j, j < L → l j = true) → ops[L]? = some o → G L w' → (∀ i d, i < L → dstOf ops i = some d → F i (u d) w') → o.wp P (ds.foldl (fun x d => x.put (some d) (u d)) a) w' (fun a2 w2 => Q .normal a2 w2) Q) :
    (Code.region id ops true).wp P Q a w := by
  refine drawnJ hm L n G F R J hn hok hd hJ0 hG hFm hGm hstep ?_
  intro l o a' w' hJ hlL ho hd' hs hold hGL hw
  obtain ⟨u, hu, huv⟩ := frame_of (a := a) (a' := a') ds (by rw [hs, hn]) (by rw [hd', hd]) (fun t ht => hold t (List.all_eq_true.2 fun o ho => by
    simp only [Bool.not_eq_true', decide_eq_false_iff_not]
    intro e
    exact ht (by rw [← hds]; exact List.mem_filterMap.2 ⟨o, ho, e⟩)))
  rw [hu] at hJ ⊢
  refine hlast l o u w' hJ hlL ho hGL (fun i d hi hdd => ?_)
  obtain ⟨v, hv, hF⟩ := hw i d hi hdd
  rw [huv d v hv]
  exact hF
end
end Go.Proofs.YtplekbpmfaghbaaGreatDoor
