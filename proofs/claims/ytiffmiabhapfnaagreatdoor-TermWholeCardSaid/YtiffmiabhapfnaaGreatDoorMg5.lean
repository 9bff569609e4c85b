/- Merged by my own program of: TRight, TEvT, TDeep, TLit, TEvL, TRule, TAlive, TermTerms, VFrame, VFrameE, LFrame, TFrame. -/
import Derived.Test.YtiffmiabhapfnaaGreatDoorMg4
import Derived.Test.YtiffmiabhapfnaaGreatDoorMg2
import Derived.Test.YtiffmiabhapfnaaGreatDoorMg3
import Derived.Deep.RegionHeld3
import Derived.Test.YtiffmiabhapfnaaGreatDoorMg1
import Derived.Shelf.RegionOpen
import Derived.Test.YtiffmiabhapfnaaGreatDoorRows
import Derived.OpenShut
import Derived.ChangeOld
import Derived.ChangeSame
import Derived.ChangeVars
import Derived.JoinedOf
import Derived.LaidLaws
import Derived.LaidHandle
import Derived.Stop.LaidErr
import Derived.Lib.LaidTab
import Derived.Below
/- Term.right; the document's RightTerm. -/
namespace Go.Proofs.YtiffmiabhapfnaaGreatDoor
open Go.RowKit

theorem str_empty {s : ByteArray} : s.toList = [] ↔ s.size = 0 := by
  rw [← ba_len]; simp
def rightT (t : GTold) : Bool := if t.x.size = 0 then rightB t.v else singleB 3 t.x && decide (t.v = gv0)
abbrev toldV (t : GTold) : Value := .agg #[.string t.x, .int .i64 t.v.k, .int .i64 t.v.n, .string t.v.s]
theorem gv_zero {v : GV} : v = gv0 ↔ v.k = 0 ∧ v.n = 0 ∧ v.s.toList = [] := by
  cases v
  simp [gv0, ← toList_inj, show (⟨#[]⟩ : ByteArray).toList = [] from by rw [ByteArray.toList_eq]]

set_option maxRecDepth 100000 in
set_option maxHeartbeats 1000000 in
theorem tright_any (t : GTold) (hx : t.x.size ≤ reachN) (w : World) (hW : LexW w) : Calls Tryz.prog 59 #[toldV t] w (RetBool (rightT t) w) := by
  obtain ⟨B, HB⟩ : ∃ B, Hid (B = rightT t) := ⟨_, rfl⟩
  rw [← HB.out]
  have hrb : (w.alloc (.cells #[.string t.x, .int .i64 t.v.k, .int .i64 t.v.n, .string t.v.s] 26)).heap[w.heap.size]? = some (.cells #[.string t.x, .int .i64 t.v.k, .int .i64 t.v.n, .string t.v.s] 26 (0, 0)) := heapNew rfl
  have hba : Below w.heap.size w (w.alloc (.cells #[.string t.x, .int .i64 t.v.k, .int .i64 t.v.n, .string t.v.s] 26)) := belowA (Below.refl _ _) _
  have HR := Lib.hid (fun W => right_any t.v W)
  have HV := Lib.hid (variable_any t.x hx _ (hW.on hba))
  clear hW
  generalize hwb : w.alloc (.cells #[.string t.x, .int .i64 t.v.k, .int .i64 t.v.n, .string t.v.s] 26) = wb at *
  obtain ⟨b0, b1, b2, b3⟩ := facts4 hrb
  have Hlt := Lib.hid (Array.getElem?_eq_some_iff.1 hrb).1
  by_cases h0 : t.x.size = 0
  · have e0 : (t.x.toList == ([] : List UInt8)) = true := by simp [str_empty.2 h0]
    have e1 : t.x.toList.isEmpty = true := by simp [str_empty.2 h0]
    have HE : Hid (B = rightB t.v) := by show _ = _; rw [HB.out]; simp [rightT, h0]
    clear h0 HB
    go_enter Tryz.func59, Tryz.ntmps59
    go_wp2_with fail
    try simp only [hwb]
    go_wp2_with fail
    refine (HR.out _).mono ?_
    rintro e w1 ⟨rfl, hb⟩
    have Hb := Lib.hid hb
    clear hb
    go_wp2_with fail
    go_ret
    exact ⟨by rw [HE.out]; rfl, below_next hba Hb.out⟩
  · have e0 : (t.x.toList == ([] : List UInt8)) = false := by simp [str_empty, h0]
    have e1 : t.x.toList.isEmpty = false := by simp [str_empty, h0]
    have HE : Hid (B = (singleB 3 t.x && decide (t.v = gv0))) := by show _ = _; rw [HB.out]; simp [rightT, h0]
    clear h0 HB
    go_enter Tryz.func59, Tryz.ntmps59
    go_wp2_with fail
    try simp only [hwb]
    go_wp2_with fail
    refine HV.out.mono ?_
    rintro e w1 ⟨rfl, hb⟩
    have Hb := Lib.hid hb
    obtain ⟨c0, c1, c2, c3⟩ := facts4 ((hb.block _ Hlt.out).trans hrb)
    clear hb
    cases hs : singleB 3 t.x with
    | false =>
      have HE2 : Hid (B = false) := by show _ = _; rw [HE.out, hs]; rfl
      clear HE hs
      go_wp2_with fail
      go_ret
      exact ⟨by rw [HE2.out]; rfl, below_next hba Hb.out⟩
    | true =>
      have HE2 : Hid (B = decide (t.v = gv0)) := by show _ = _; rw [HE.out, hs]; rfl
      clear HE hs
      go_wp2_with fail
      all_goals
        go_ret
        refine ⟨?_, below_next hba Hb.out⟩
        have hE := HE2.out
        clear HE2 Hb HR HV c0 c1 c2 c3 b0 b1 b2 b3 hwb hrb hba Hlt
        simp_all [gv_zero]
set_option maxRecDepth 100000 in
set_option maxHeartbeats 1000000 in
theorem refTright_any (t : GTold) (hv : t.v.ok) (w : World) : Calls Tryz.prog 91 #[toldV t] w (RetBool (rightT t) w) := by
  obtain ⟨B, HB⟩ : ∃ B, Hid (B = rightT t) := ⟨_, rfl⟩
  rw [← HB.out]
  have hrb : (w.alloc (.cells #[.string t.x, .int .i64 t.v.k, .int .i64 t.v.n, .string t.v.s] 34)).heap[w.heap.size]? = some (.cells #[.string t.x, .int .i64 t.v.k, .int .i64 t.v.n, .string t.v.s] 34 (0, 0)) := heapNew rfl
  have hba : Below w.heap.size w (w.alloc (.cells #[.string t.x, .int .i64 t.v.k, .int .i64 t.v.n, .string t.v.s] 34)) := belowA (Below.refl _ _) _
  have HR := Lib.hid (fun W => refRight_any t.v hv W)
  have HV := Lib.hid (fun W => refVariable_any t.x W)
  generalize hwb : w.alloc (.cells #[.string t.x, .int .i64 t.v.k, .int .i64 t.v.n, .string t.v.s] 34) = wb at *
  obtain ⟨b0, b1, b2, b3⟩ := facts4 hrb
  have Hlt := Lib.hid (Array.getElem?_eq_some_iff.1 hrb).1
  by_cases h0 : t.x.size = 0
  · have e0 : ((t.x.size : Int) == 0) = true := by simp [h0]
    have HE : Hid (B = rightB t.v) := by show _ = _; rw [HB.out]; simp [rightT, h0]
    clear h0 HB
    go_enter Tryz.func91, Tryz.ntmps91
    go_wp2_with fail
    try simp only [hwb]
    go_wp2_with fail
    refine (HR.out _).mono ?_
    rintro e w1 ⟨rfl, hb⟩
    have Hb := Lib.hid hb
    clear hb
    go_wp2_with fail
    go_ret
    exact ⟨by rw [HE.out]; rfl, below_next hba Hb.out⟩
  · have e0 : ((t.x.size : Int) == 0) = false := by rw [beq_eq_false_iff_ne]; omega
    have HE : Hid (B = (singleB 3 t.x && decide (t.v = gv0))) := by show _ = _; rw [HB.out]; simp [rightT, h0]
    clear h0 HB
    go_enter Tryz.func91, Tryz.ntmps91
    go_wp2_with fail
    try simp only [hwb]
    go_wp2_with fail
    refine (HV.out _).mono ?_
    rintro e w1 ⟨rfl, hb⟩
    have Hb := Lib.hid hb
    obtain ⟨c0, c1, c2, c3⟩ := facts4 ((hb.block _ Hlt.out).trans hrb)
    clear hb
    cases hs : singleB 3 t.x with
    | false =>
      have HE2 : Hid (B = false) := by show _ = _; rw [HE.out, hs]; rfl
      clear HE hs
      go_wp2_with fail
      go_ret
      exact ⟨by rw [HE2.out]; rfl, below_next hba Hb.out⟩
    | true =>
      have HE2 : Hid (B = decide (t.v = gv0)) := by show _ = _; rw [HE.out, hs]; rfl
      clear HE hs
      go_wp2_with fail
      all_goals
        go_ret
        refine ⟨?_, below_next hba Hb.out⟩
        have hE := HE2.out
        clear HE2 Hb HR HV c0 c1 c2 c3 b0 b1 b2 b3 hwb hrb hba Hlt
        simp_all [gv_zero]
end Go.Proofs.YtiffmiabhapfnaaGreatDoor

/- term.every over a list of terms. -/
namespace Go.Proofs.YtiffmiabhapfnaaGreatDoor
open Go.RowKit

set_option maxRecDepth 100000 in
set_option maxHeartbeats 1000000 in
theorem ev1T_any (x : GTold) (g : Nat) (w : World) (hg : w.cell? ⟨g, 0, none⟩ = some (.func (.func 59) #[] #[])) (HC : Hid (∀ W, Below w.heap.size w W → Calls Tryz.prog 59 #[.agg #[.string x.x, .int .i64 x.v.k, .int .i64 x.v.n, .string x.v.s]] W (RetBool (rightT x) W))) :
    Calls Tryz.prog 85 #[.agg #[.string x.x, .int .i64 x.v.k, .int .i64 x.v.n, .string x.v.s], .pointer (some ⟨g, 0, none⟩)] w (RetBool (!rightT x) w) := by
  have hrb : (w.alloc (.cells #[.string x.x, .int .i64 x.v.k, .int .i64 x.v.n, .string x.v.s] 26)).heap[w.heap.size]? = some (.cells #[.string x.x, .int .i64 x.v.k, .int .i64 x.v.n, .string x.v.s] 26 (0, 0)) := heapNew rfl
  obtain ⟨b0, b1, b2, b3⟩ := facts4 hrb
  have cg : (w.alloc (.cells #[.string x.x, .int .i64 x.v.k, .int .i64 x.v.n, .string x.v.s] 26)).cell? ⟨g, 0, none⟩ = some (.func (.func 59) #[] #[]) := cellA hg
  clear hrb hg
  generalize rightT x = B at *
  go_enter Tryz.func85, Tryz.ntmps85
  go_wp2_with fail
  refine (HC.out _ (by first | exact Below.refl _ _ | exact belowA (Below.refl _ _) _)).mono ?_
  rintro e w1 ⟨rfl, hb⟩
  have Hb := Lib.hid hb
  clear hb
  go_wp2_with fail
  go_ret
  exact ⟨rfl, below_next (belowA (Below.refl _ _) _) Hb.out⟩

set_option maxRecDepth 100000 in
set_option maxHeartbeats 1000000 in
theorem evIT_any (A : Option Addr) (n c : Nat) (l : List GTold) (g : Nat) (w : World) (hl : SliceIs Enc.told w w.heap.size A n c l) (hg : w.cell? ⟨g, 0, none⟩ = some (.func (.func 59) #[] #[]))
    (HC : Hid (∀ (x : GTold) W, (x.x.size ≤ reachN ∧ x.v.ok) → Below w.heap.size w W → Calls Tryz.prog 59 #[.agg #[.string x.x, .int .i64 x.v.k, .int .i64 x.v.n, .string x.v.s]] W (RetBool (rightT x) W))) :
    Calls Tryz.prog 105 #[.slice A n c, .func (.func 85) #[] #[.pointer (some ⟨g, 0, none⟩)]] w (fun e w' => ∃ k : Int, e = .returned (.int .i64 k) ∧ decide (0 ≤ k) = !(l.all rightT) ∧ Below w.heap.size w w') := by
  have hn := hl.bound
  have HL := Lib.hid hl
  have hlen := Lib.hid hl.1
  have Hg := Lib.hid hg
  clear hl hg
  go_enter Tryz.func105, Tryz.ntmps105
  go_wp2_with fail
  go_loopw [5, 8] (fun _ i wr => ∃ k : Nat, k ≤ n ∧ i = .int .i64 k ∧ Hid ((l.take k).all rightT = true) ∧ Below w.heap.size w wr) (fun _ i _ => n - (intOf i).toNat)
  case atStart => exact ⟨0, by omega, rfl, by simp [Hid], Below.refl _ _⟩
  case round =>
    obtain ⟨k, hk, rfl, hpre, hbr⟩ := hrel
    by_cases hlt : k < n
    · have HLr := (HL.out.below hbr)
      obtain ⟨b, o, x, rfl, hbb, hx, z0, z1, z2, z3, f0, f1⟩ := HLr.told_at hlt
      have hokx : x.x.size ≤ reachN ∧ x.v.ok := ⟨f0, f1⟩
      have C := Lib.hid (ev1T_any x g wr (below_cell hbr Hg.out) (fun W hW => HC.out x W (hokx) (below_next hbr hW)))
      have i0 : (0 : Int) ≤ (k : Int) := by omega
      have i1 : (k : Int) < (n : Int) := by omega
      have HT : Hid ((l.take (k + 1)).all rightT = rightT x) := by
        show _ = _
        obtain ⟨g1, g2⟩ := List.getElem?_eq_some_iff.1 hx.out
        rw [List.take_succ_eq_append_getElem g1, g2, List.all_append, hpre.out]; simp
      have HF : Hid (rightT x = false → l.all rightT = false) := fun h => by
        rw [List.all_eq_false]
        exact ⟨x, List.mem_of_getElem? hx.out, by simp [h]⟩
      clear HLr hokx
      generalize rightT x = B at *
      cases B with
      | true =>
        clear HF
        go_wp2_with fail
        refine C.out.mono ?_
        rintro e w1 ⟨rfl, hb⟩
        have Hb := Lib.hid hb
        clear hb
        go_wp2_with fail
        go_roundw
        case rel => exact ⟨k + 1, by omega, by go_num, HT, below_next hbr Hb.out⟩
        case measure => simp [intOf]; omega
      | false =>
        have HF' : Hid (l.all rightT = false) := HF.out rfl
        clear HF
        go_wp2_with fail
        refine C.out.mono ?_
        rintro e w1 ⟨rfl, hb⟩
        have Hb := Lib.hid hb
        clear hb
        go_wp2_with fail
        go_ret
        exact ⟨_, rfl, by rw [HF'.out]; simp, below_next hbr Hb.out⟩
    · have i1 : ¬ (k : Int) < (n : Int) := by omega
      have HA : Hid (l.all rightT = true) := by
        show _ = _
        have h := hpre.out
        rw [List.take_of_length_le (by have := hlen.out; omega)] at h
        exact h
      go_wp2_with fail
      go_ret
      exact ⟨_, rfl, by rw [HA.out]; rfl, hbr⟩

set_option maxRecDepth 100000 in
set_option maxHeartbeats 1000000 in
theorem everyT_any (A : Option Addr) (n c : Nat) (l : List GTold) (w : World) (hl : SliceIs Enc.told w w.heap.size A n c l)
    (HC : Hid (∀ (x : GTold) W, (x.x.size ≤ reachN ∧ x.v.ok) → Below w.heap.size w W → Calls Tryz.prog 59 #[.agg #[.string x.x, .int .i64 x.v.k, .int .i64 x.v.n, .string x.v.s]] W (RetBool (rightT x) W))) :
    Calls Tryz.prog 58 #[.slice A n c, .func (.func 59) #[] #[]] w (RetBool (l.all rightT) w) := by
  have hba : Below w.heap.size w (w.alloc (.cells #[.func (.func 59) #[] #[]] 76)) := belowA (Below.refl _ _) _
  have C := Lib.hid (evIT_any A n c l w.heap.size (w.alloc (.cells #[.func (.func 59) #[] #[]] 76)) (hl.keep hba) ((cell_of_row _ _ 0 _ _ _ (heapNew rfl)).trans rfl) (fun x W h hW => HC.out x W h (below_next hba hW)))
  generalize l.all rightT = B at *
  clear hl HC
  have CC : Hid (Calls Tryz.prog 84 #[.slice A n c, .func (.func 85) #[] #[.pointer (some ⟨w.heap.size, 0, none⟩)]] (w.alloc (.cells #[.func (.func 59) #[] #[]] 76)) (RetBool (!B) (w.alloc (.cells #[.func (.func 59) #[] #[]] 76)))) := by
    show Calls _ _ _ _ _
    generalize w.alloc (.cells #[.func (.func 59) #[] #[]] 76) = wb at *
    go_enter Tryz.func84, Tryz.ntmps84
    go_wp2_with fail
    refine C.out.mono ?_
    rintro e w1 ⟨k, rfl, hk, hb⟩
    have Hb := Lib.hid hb
    have Hk := Lib.hid hk
    clear hb hk
    go_wp2_with fail
    go_ret
    exact ⟨by rw [← Hk.out]; rfl, Hb.out⟩
  clear C
  go_enter Tryz.func58, Tryz.ntmps58
  go_wp2_with fail
  refine CC.out.mono ?_
  rintro e w1 ⟨rfl, hb⟩
  have Hb := Lib.hid hb
  clear hb CC
  go_wp2_with fail
  go_ret
  exact ⟨by cases B <;> rfl, below_next hba Hb.out⟩
end Go.Proofs.YtiffmiabhapfnaaGreatDoor

/- term.deep, term.RightExp, term.none. -/
namespace Go.Proofs.YtiffmiabhapfnaaGreatDoor
open Go.RowKit

def zT : GTold := ⟨⟨#[]⟩, gv0⟩
instance : DecidableEq GTold := fun a b => if h : a.x = b.x ∧ a.v = b.v then isTrue (by cases a; cases b; simp_all) else isFalse (fun e => h (by rw [e]; exact ⟨rfl, rfl⟩))
theorem told_zero {t : GTold} : t = zT ↔ t.x.toList = [] ∧ t.v.k = 0 ∧ t.v.n = 0 ∧ t.v.s.toList = [] := by
  rw [← gv_zero]
  cases t
  simp [zT, ← toList_inj, show (⟨#[]⟩ : ByteArray).toList = [] from by rw [ByteArray.toList_eq]]
theorem told_not_zero {t : GTold} (h : t ≠ zT) : (¬ t.x.toList = []) ∨ (t.x.toList = [] ∧ ¬ t.v.k = 0) ∨ (t.x.toList = [] ∧ t.v.k = 0 ∧ ¬ t.v.n = 0) ∨ (t.x.toList = [] ∧ t.v.k = 0 ∧ t.v.n = 0 ∧ ¬ t.v.s.toList = []) := by
  rw [ne_eq, told_zero] at h
  by_cases h1 : t.x.toList = [] <;> by_cases h2 : t.v.k = 0 <;> by_cases h3 : t.v.n = 0 <;> by_cases h4 : t.v.s.toList = [] <;> simp_all
def opE (e : GExp) : Bool := (decide (1 ≤ e.op) && decide (e.op ≤ 3)) && decide (e.t = zT)
theorem opE_lo {e : GExp} (h : e.op < 1) : opE e = false := by
  have h' : ¬ 1 ≤ e.op := by omega
  simp [opE, h']
theorem opE_hi {e : GExp} (h : 3 < e.op) : opE e = false := by
  have h' : ¬ e.op ≤ 3 := by omega
  simp [opE, h']
/-- is an expression as told, and at most so deep? -/
def rightE : Nat → GExp → Bool
  | 0, e => decide (e.op = 0) && (e.kids.isEmpty && rightT e.t)
  | k + 1, e => if e.op = 0 then e.kids.isEmpty && rightT e.t else opE e && (match e.kids with | [a, b] => rightE k a && rightE k b | _ => false)
theorem rightE_leaf {k : Nat} {e : GExp} (h : e.op = 0) : rightE k e = (e.kids.isEmpty && rightT e.t) := by
  cases k <;> simp [rightE, h]
theorem rightE_flat {e : GExp} (h : ¬ e.op = 0) : rightE 0 e = false := by simp [rightE, h]
theorem rightE_bad {k : Nat} {e : GExp} (h : ¬ e.op = 0) (h2 : opE e = false) : rightE k e = false := by
  cases k <;> simp [rightE, h, h2]
theorem rightE_kids {k : Nat} {e : GExp} (h : ¬ e.op = 0) (h2 : e.kids.length ≠ 2) : rightE k e = false := by
  cases k with
  | zero => exact rightE_flat h
  | succ k =>
    simp only [rightE, h, if_false]
    match hk : e.kids, h2 with
    | [], _ => simp
    | [a], _ => simp
    | [a, b], h2 => exact absurd rfl h2
    | a :: b :: c :: l, _ => simp
theorem rightE_two {k : Nat} {e a b : GExp} (h : ¬ e.op = 0) (h2 : opE e = true) (hk : e.kids = [a, b]) : rightE (k + 1) e = (rightE k a && rightE k b) := by
  simp [rightE, h, h2, hk]

def RetDeep (k : Nat) (e : GExp) (w : World) (ex : Ending) (w' : World) : Prop := ∃ m : Int, ex = .returned (.int .i64 m) ∧ decide (0 ≤ m) = rightE k e ∧ -1 ≤ m ∧ m ≤ k ∧ Below w.heap.size w w'

set_option maxRecDepth 100000 in
set_option maxHeartbeats 4000000 in
theorem deep_any : ∀ (k : Nat) (e : GExp) (A : Option Addr) (n c d : Nat) (w : World), k ≤ 20 → SliceIs (Enc.exp d) w w.heap.size A n c e.kids → e.t.x.size ≤ reachN → LexW w →
    Calls Tryz.prog 65 #[.agg #[.int .i64 e.op, .string e.t.x, .int .i64 e.t.v.k, .int .i64 e.t.v.n, .string e.t.v.s, .slice A n c], .int .i64 (k : Int)] w (RetDeep k e w) := by
  intro k
  induction k using Nat.strongRecOn with
  | ind k ih =>
    intro e A n c d w hk20 hk hx hW
    have IH := Lib.hid ih
    have hn := hk.bound
    have HK := Lib.hid hk
    have Hlen := Lib.hid hk.1
    have HW := Lib.hid hW
    have Hx := Lib.hid hx
    have hrb : (w.alloc (.cells #[.int .i64 e.op, .string e.t.x, .int .i64 e.t.v.k, .int .i64 e.t.v.n, .string e.t.v.s, .slice A n c] 29)).heap[w.heap.size]? = some (.cells #[.int .i64 e.op, .string e.t.x, .int .i64 e.t.v.k, .int .i64 e.t.v.n, .string e.t.v.s, .slice A n c] 29 (0, 0)) := heapNew rfl
    have hba : Below w.heap.size w (w.alloc (.cells #[.int .i64 e.op, .string e.t.x, .int .i64 e.t.v.k, .int .i64 e.t.v.n, .string e.t.v.s, .slice A n c] 29)) := belowA (Below.refl _ _) _
    clear hk hW hx ih
    obtain ⟨P, HP⟩ : ∃ P, Hid (P = RetDeep k e w) := ⟨_, rfl⟩
    rw [← HP.out]
    have HBad : Hid (rightE k e = false → ∀ w', Below w.heap.size w w' → P (.returned (.int .i64 (-1))) w') := fun h w' hb => by rw [HP.out]; exact ⟨-1, rfl, by rw [h]; rfl, by omega, by omega, hb⟩
    obtain ⟨b0, b1, b2, b3, b4, b5⟩ := facts6 hrb
    have Hlt := Lib.hid (Array.getElem?_eq_some_iff.1 hrb).1
    have HR := Lib.hid (tright_any e.t Hx.out (w.alloc (.cells #[.int .i64 e.op, .string e.t.x, .int .i64 e.t.v.k, .int .i64 e.t.v.n, .string e.t.v.s, .slice A n c] 29)) (HW.out.on hba))
    by_cases h0 : e.op = 0
    · have q0 : (e.op == 0) = true := by simp [h0]
      have q1 : e.op < 1 := by omega
      have HL : Hid (rightE k e = (e.kids.isEmpty && rightT e.t)) := rightE_leaf h0
      by_cases hn0 : n = 0
      · have q2 : ((n : Int) == 0) = true := by simp [hn0]
        have hke : e.kids.isEmpty = true := by have := Hlen.out; simp; exact List.eq_nil_of_length_eq_zero (by omega)
        cases hr : rightT e.t with
        | true =>
          have HG : Hid (∀ w', Below w.heap.size w w' → P (.returned (.int .i64 0)) w') := fun w' hb => by rw [HP.out]; exact ⟨0, rfl, by rw [HL.out, hke, hr]; rfl, by omega, by omega, hb⟩
          rw [hr] at HR
          clear HP hke hr h0 hn0 HL HBad HK
          generalize hwb : (w.alloc (.cells #[.int .i64 e.op, .string e.t.x, .int .i64 e.t.v.k, .int .i64 e.t.v.n, .string e.t.v.s, .slice A n c] 29)) = wb at *
          go_enter Tryz.func65, Tryz.ntmps65
          go_wp2_with fail
          try simp only [hwb]
          go_wp2_with fail
          refine HR.out.mono ?_
          rintro e1 w1 ⟨rfl, hb⟩
          have Hb := Lib.hid hb
          clear hb
          go_wp2_with fail
          exact HG.out _ (below_next hba Hb.out)
        | false =>
          have HG : Hid (∀ w', Below w.heap.size w w' → P (.returned (.int .i64 (-1))) w') := HBad.out (by rw [HL.out, hr]; simp)
          rw [hr] at HR
          clear HP hke hr h0 hn0 HL HBad HK
          generalize hwb : (w.alloc (.cells #[.int .i64 e.op, .string e.t.x, .int .i64 e.t.v.k, .int .i64 e.t.v.n, .string e.t.v.s, .slice A n c] 29)) = wb at *
          go_enter Tryz.func65, Tryz.ntmps65
          go_wp2_with fail
          try simp only [hwb]
          go_wp2_with fail
          refine HR.out.mono ?_
          rintro e1 w1 ⟨rfl, hb⟩
          have Hb := Lib.hid hb
          obtain ⟨c0, c1, c2, c3, c4, c5⟩ := facts6 ((hb.block _ Hlt.out).trans hrb)
          clear hb
          go_wp2_with fail
          exact HG.out _ (below_next hba Hb.out)
      · have q2 : ((n : Int) == 0) = false := by rw [beq_eq_false_iff_ne]; omega
        have hke : e.kids.isEmpty = false := by
          have := Hlen.out
          cases h : e.kids with
          | nil => rw [h] at this; simp at this; omega
          | cons a l => rfl
        have HG : Hid (∀ w', Below w.heap.size w w' → P (.returned (.int .i64 (-1))) w') := HBad.out (by rw [HL.out, hke]; simp)
        clear HP hke h0 hn0 HL HBad HK HR
        go_enter Tryz.func65, Tryz.ntmps65
        go_wp2_with fail
        exact HG.out _ hba
    · have q0 : (e.op == 0) = false := by simp [h0]
      by_cases h1 : e.op < 1
      · have HG : Hid (∀ w', Below w.heap.size w w' → P (.returned (.int .i64 (-1))) w') := HBad.out (rightE_bad h0 (opE_lo (by omega)))
        clear HP h0 HBad HK HR
        go_enter Tryz.func65, Tryz.ntmps65
        go_wp2_with fail
        exact HG.out _ hba
      by_cases h3 : 3 < e.op
      · have HG : Hid (∀ w', Below w.heap.size w w' → P (.returned (.int .i64 (-1))) w') := HBad.out (rightE_bad h0 (opE_hi (by omega)))
        clear HP h0 HBad HK HR
        go_enter Tryz.func65, Tryz.ntmps65
        go_wp2_with fail
        exact HG.out _ hba
      by_cases hn2 : n = 2
      rotate_left
      · have q2 : ((n : Int) != 2) = true := by simp; omega
        have HG : Hid (∀ w', Below w.heap.size w w' → P (.returned (.int .i64 (-1))) w') := HBad.out (rightE_kids h0 (by have := Hlen.out; omega))
        clear HP h0 HBad HK HR
        go_enter Tryz.func65, Tryz.ntmps65
        go_wp2_with fail
        exact HG.out _ hba
      subst hn2
      by_cases hz : e.t = zT
      rotate_left
      · have HG : Hid (∀ w', Below w.heap.size w w' → P (.returned (.int .i64 (-1))) w') := HBad.out (rightE_bad h0 (by simp [opE, hz]))
        rcases told_not_zero hz with hz | ⟨z0, hz⟩ | ⟨z0, z1, hz⟩ | ⟨z0, z1, z2, hz⟩ <;>
        · clear HP h0 HBad HK HR
          go_enter Tryz.func65, Tryz.ntmps65
          go_wp2_with fail
          exact HG.out _ (belowA (Below.refl _ _) _)
      have hop : opE e = true := by
        have : 1 ≤ e.op := by omega
        have : e.op ≤ 3 := by omega
        simp [opE, hz, *]
      obtain ⟨z0, z1, z2, z3⟩ := told_zero.1 hz
      by_cases hk0 : k = 0
      · have HG : Hid (∀ w', Below w.heap.size w w' → P (.returned (.int .i64 (-1))) w') := HBad.out (by rw [hk0]; exact rightE_flat h0)
        have q4 : ((k : Int) == 0) = true := by simp [hk0]
        clear HP h0 HBad HK HR hop hz
        go_enter Tryz.func65, Tryz.ntmps65
        go_wp2_with fail
        exact HG.out _ (belowA (Below.refl _ _) _)
      obtain ⟨k', hk'⟩ : ∃ k', k = k' + 1 := ⟨k - 1, by omega⟩
      have q4 : ((k : Int) == 0) = false := by rw [beq_eq_false_iff_ne]; omega
      have q5 : (k : Int) - 1 = (k' : Int) := by omega
      have q7 : wrap64 (k' : Int) = (k' : Int) := by unfold wrap64; omega
      have q6 : IntKind.i64.wrap (k' : Int) = (k' : Int) := by rw [IntWalk.i64_left]; exact q7
      obtain ⟨b, o, x, Ax, nx, cx, dx, rfl, hbb, hkx, hdx, x0, x1, x2, x3, x4, x5, fx0, fx1, fx2, hkkx⟩ := HK.out.exp_at (i := 0) (by omega)
      obtain ⟨b', o', y, Ay, ny, cy, dy, hAy, hbb', hky, hdy, y0, y1, y2, y3, y4, y5, fy0, fy1, fy2, hkky⟩ := HK.out.exp_at (i := 1) (by omega)
      injection hAy with hAy
      injection hAy with e1 e2 _
      subst e1 e2
      have hks : e.kids = [x, y] := by
        have h1 := hkx.out
        have h2 := hky.out
        have h3 := Hlen.out
        match e.kids, h1, h2, h3 with
        | [a, b], h1, h2, _ => simp at h1 h2; rw [h1, h2]
      have HT : Hid (rightE k e = (rightE k' x && rightE k' y)) := by show _ = _; rw [hk']; exact rightE_two h0 hop hks
      have HGood : Hid (∀ (m : Int) w', decide (0 ≤ m) = (rightE k' x && rightE k' y) → -1 ≤ m → m ≤ k → Below w.heap.size w w' → P (.returned (.int .i64 m)) w') := fun m w' h h1 h2 hb => by rw [HP.out]; exact ⟨m, rfl, by rw [HT.out]; exact h, h1, h2, hb⟩
      have ex : e.t.x = ⟨#[]⟩ := by rw [hz]; rfl
      have ek : e.t.v.k = 0 := by rw [hz]; rfl
      have en : e.t.v.n = 0 := by rw [hz]; rfl
      have es : e.t.v.s = ⟨#[]⟩ := by rw [hz]; rfl
      clear z0 z1 z2 z3 HR
      simp only [ex, ek, en, es] at hba hrb b0 b1 b2 b3 b4 b5 Hlt
      have CX : Hid (∀ W, Below (w.alloc (.cells #[.int .i64 e.op, .string ⟨#[]⟩, .int .i64 0, .int .i64 0, .string ⟨#[]⟩, .slice (some ⟨b, o, none⟩) 2 c] 29)).heap.size (w.alloc (.cells #[.int .i64 e.op, .string ⟨#[]⟩, .int .i64 0, .int .i64 0, .string ⟨#[]⟩, .slice (some ⟨b, o, none⟩) 2 c] 29)) W → Calls Tryz.prog 65 #[.agg #[.int .i64 x.op, .string x.t.x, .int .i64 x.t.v.k, .int .i64 x.t.v.n, .string x.t.v.s, .slice Ax nx cx], .int .i64 (k' : Int)] W (RetDeep k' x W)) := fun W hW =>
        IH.out k' (by omega) x Ax nx cx dx W (by omega) ((hkkx.keep hba).keep hW) fx1 ((HW.out.on hba).on hW)
      have CY : Hid (∀ W, Below (w.alloc (.cells #[.int .i64 e.op, .string ⟨#[]⟩, .int .i64 0, .int .i64 0, .string ⟨#[]⟩, .slice (some ⟨b, o, none⟩) 2 c] 29)).heap.size (w.alloc (.cells #[.int .i64 e.op, .string ⟨#[]⟩, .int .i64 0, .int .i64 0, .string ⟨#[]⟩, .slice (some ⟨b, o, none⟩) 2 c] 29)) W → Calls Tryz.prog 65 #[.agg #[.int .i64 y.op, .string y.t.x, .int .i64 y.t.v.k, .int .i64 y.t.v.n, .string y.t.v.s, .slice Ay ny cy], .int .i64 (k' : Int)] W (RetDeep k' y W)) := fun W hW =>
        IH.out k' (by omega) y Ay ny cy dy W (by omega) ((hkky.keep hba).keep hW) fy1 ((HW.out.on hba).on hW)
      simp only [Nat.zero_mul, Nat.add_zero, Nat.one_mul] at x0 x1 x2 x3 x4 x5 y0 y1 y2 y3 y4 y5
      have Hk := Lib.hid (fun W (hW : Below (w.alloc (.cells #[.int .i64 e.op, .string ⟨#[]⟩, .int .i64 0, .int .i64 0, .string ⟨#[]⟩, .slice (some ⟨b, o, none⟩) 2 c] 29)).heap.size (w.alloc (.cells #[.int .i64 e.op, .string ⟨#[]⟩, .int .i64 0, .int .i64 0, .string ⟨#[]⟩, .slice (some ⟨b, o, none⟩) 2 c] 29)) W) => show W.cell? ⟨w.heap.size, 5, none⟩ = some (.slice (some ⟨b, o, none⟩) 2 c) ∧ W.cell? ⟨b, o, none⟩ = some (.int .i64 x.op) ∧ W.cell? ⟨b, o + 1, none⟩ = some (.string x.t.x) ∧ W.cell? ⟨b, o + 2, none⟩ = some (.int .i64 x.t.v.k) ∧ W.cell? ⟨b, o + 3, none⟩ = some (.int .i64 x.t.v.n) ∧ W.cell? ⟨b, o + 4, none⟩ = some (.string x.t.v.s) ∧ W.cell? ⟨b, o + 5, none⟩ = some (.slice Ax nx cx) ∧ W.cell? ⟨b, o + 6, none⟩ = some (.int .i64 y.op) ∧ W.cell? ⟨b, o + 6 + 1, none⟩ = some (.string y.t.x) ∧ W.cell? ⟨b, o + 6 + 2, none⟩ = some (.int .i64 y.t.v.k) ∧ W.cell? ⟨b, o + 6 + 3, none⟩ = some (.int .i64 y.t.v.n) ∧ W.cell? ⟨b, o + 6 + 4, none⟩ = some (.string y.t.v.s) ∧ W.cell? ⟨b, o + 6 + 5, none⟩ = some (.slice Ay ny cy) from ⟨below_cell hW b5, below_cell hW (cellA x0), below_cell hW (cellA x1), below_cell hW (cellA x2), below_cell hW (cellA x3), below_cell hW (cellA x4), below_cell hW (cellA x5), below_cell hW (cellA y0), below_cell hW (cellA y1), below_cell hW (cellA y2), below_cell hW (cellA y3), below_cell hW (cellA y4), below_cell hW (cellA y5)⟩)
      have r5 : k' + 1 = k := hk'.symm
      have R5 := Lib.hid r5
      clear HP h0 HBad HK hop IH hks HT hkx hky hk' r5 fx0 fx1 fx2 fy0 fy1 fy2 hkkx hkky hdx hdy x0 x1 x2 x3 x4 x5 y0 y1 y2 y3 y4 y5 hbb hbb' hz hk0 Hx Hlen
      generalize hX : rightE k' x = X at *
      generalize hY : rightE k' y = Y at *
      go_enter Tryz.func65, Tryz.ntmps65
      go_wp2_with fail
      generalize (w.alloc (.cells #[.int .i64 e.op, .string ⟨#[]⟩, .int .i64 0, .int .i64 0, .string ⟨#[]⟩, .slice (some ⟨b, o, none⟩) 2 c] 29)) = wb at *
      have hb1 := Below.refl wb.heap.size wb
      have Hfirst : Hid True := trivial
      go_region_held3 (fun W => W.cell? ⟨w.heap.size, 5, none⟩ = some (.slice (some ⟨b, o, none⟩) 2 c) ∧ W.cell? ⟨b, o, none⟩ = some (.int .i64 x.op) ∧ W.cell? ⟨b, o + 1, none⟩ = some (.string x.t.x) ∧ W.cell? ⟨b, o + 2, none⟩ = some (.int .i64 x.t.v.k) ∧ W.cell? ⟨b, o + 3, none⟩ = some (.int .i64 x.t.v.n) ∧ W.cell? ⟨b, o + 4, none⟩ = some (.string x.t.v.s) ∧ W.cell? ⟨b, o + 5, none⟩ = some (.slice Ax nx cx) ∧ W.cell? ⟨b, o + 6, none⟩ = some (.int .i64 y.op) ∧ W.cell? ⟨b, o + 6 + 1, none⟩ = some (.string y.t.x) ∧ W.cell? ⟨b, o + 6 + 2, none⟩ = some (.int .i64 y.t.v.k) ∧ W.cell? ⟨b, o + 6 + 3, none⟩ = some (.int .i64 y.t.v.n) ∧ W.cell? ⟨b, o + 6 + 4, none⟩ = some (.string y.t.v.s) ∧ W.cell? ⟨b, o + 6 + 5, none⟩ = some (.slice Ay ny cy))
        (first
          | (refine Hk.out _ ?_; (repeat (first | with_reducible exact Below.refl _ _ | with_reducible assumption | with_reducible refine Below.drew ?_ | with_reducible refine belowA ?_ _)); done)
          | go_keep)
        ((first
          | (go_at_call 65
             clear Hfirst
             refine (CX.out _ (Below.refl _ _).drew).mono ?_
             rintro e1 w1 ⟨m1, rfl, hm1, l1, u1, hq1⟩
             have hb1 : Below wb.heap.size wb w1 := ((Below.refl wb.heap.size wb).drew).trans hq1
             have Hm1 := Lib.hid hm1
             clear hq1 hm1)
          | (go_at_call 65
             refine (CY.out _ hb1).mono ?_
             rintro e1 w2 ⟨m2, rfl, hm2, l2, u2, hq2⟩
             have hb2 : Below wb.heap.size wb w2 := hb1.trans (hq2.mono hb1.size)
             have Hm2 := Lib.hid hm2
             clear hq2 hm2)))
      have HB2 : Hid (Below w.heap.size w w2) := below_next hba hb2
      have K0 : (k' : Int) ≤ (k : Int) - 1 := by have := R5.out; omega
      clear Hk CX CY b0 b1 b2 b3 b4 b5 hrb hb1 hb2
      by_cases p1 : m1 < 0
      · have HG : Hid (∀ w', Below w.heap.size w w' → P (.returned (.int .i64 (-1))) w') := fun w' hb => HGood.out (-1) w' (by
          have h1 := Hm1.out
          have h2 : decide (0 ≤ m1) = false := by simp; omega
          rw [← hX, ← h1, h2]; rfl) (by omega) (by omega) hb
        clear HGood Hm1 Hm2
        go_wp2_with fail
        exact HG.out _ HB2.out
      by_cases p2 : m2 < 0
      · have HG : Hid (∀ w', Below w.heap.size w w' → P (.returned (.int .i64 (-1))) w') := fun w' hb => HGood.out (-1) w' (by
          have h1 := Hm2.out
          have h2 : decide (0 ≤ m2) = false := by simp; omega
          rw [← hY, ← h1, h2]; simp) (by omega) (by omega) hb
        clear HGood Hm1 Hm2
        go_wp2_with fail
        exact HG.out _ HB2.out
      have hX1 : X = true := by rw [← hX, ← Hm1.out]; simp; omega
      have hY1 : Y = true := by rw [← hY, ← Hm2.out]; simp; omega
      have HG : Hid (∀ (m : Int) w', 0 ≤ m → m ≤ (k : Int) → Below w.heap.size w w' → P (.returned (.int .i64 m)) w') := fun m w' h1 h2 hb => HGood.out m w' (by rw [hX1, hY1]; simp; omega) (by omega) h2 hb
      clear HGood Hm1 Hm2 hX hY hX1 hY1
      by_cases p3 : m1 ≤ m2
      · have e3 : max m1 m2 = m2 := by omega
        have e4 : wrap64 (1 + m2) = 1 + m2 := by unfold wrap64; omega
        go_wp2_with fail
        exact HG.out _ _ (by omega) (by omega) HB2.out
      · have e3 : max m1 m2 = m1 := by omega
        have e4 : wrap64 (1 + m1) = 1 + m1 := by unfold wrap64; omega
        go_wp2_with fail
        exact HG.out _ _ (by omega) (by omega) HB2.out

set_option maxRecDepth 100000 in
set_option maxHeartbeats 1000000 in
theorem rightExp_any (e : GExp) (A : Option Addr) (n c d : Nat) (w : World) (hk : SliceIs (Enc.exp d) w w.heap.size A n c e.kids) (hx : e.t.x.size ≤ reachN) (hW : LexW w) :
    Calls Tryz.prog 39 #[.agg #[.int .i64 e.op, .string e.t.x, .int .i64 e.t.v.k, .int .i64 e.t.v.n, .string e.t.v.s, .slice A n c]] w (RetBool (rightE 20 e) w) := by
  have hrb : (w.alloc (.cells #[.int .i64 e.op, .string e.t.x, .int .i64 e.t.v.k, .int .i64 e.t.v.n, .string e.t.v.s, .slice A n c] 29)).heap[w.heap.size]? = some (.cells #[.int .i64 e.op, .string e.t.x, .int .i64 e.t.v.k, .int .i64 e.t.v.n, .string e.t.v.s, .slice A n c] 29 (0, 0)) := heapNew rfl
  have hba : Below w.heap.size w (w.alloc (.cells #[.int .i64 e.op, .string e.t.x, .int .i64 e.t.v.k, .int .i64 e.t.v.n, .string e.t.v.s, .slice A n c] 29)) := belowA (Below.refl _ _) _
  have HC := Lib.hid (deep_any 20 e A n c d _ (by omega) (hk.keep hba) hx (hW.on hba))
  obtain ⟨b0, b1, b2, b3, b4, b5⟩ := facts6 hrb
  clear hk hx hW hrb
  generalize hwb : (w.alloc (.cells #[.int .i64 e.op, .string e.t.x, .int .i64 e.t.v.k, .int .i64 e.t.v.n, .string e.t.v.s, .slice A n c] 29)) = wb at *
  go_enter Tryz.func39, Tryz.ntmps39
  go_wp2_with fail
  try simp only [hwb]
  go_wp2_with fail
  refine HC.out.mono ?_
  rintro e1 w1 ⟨m, rfl, hm, -, -, hb⟩
  have Hm := Lib.hid hm
  have Hb := Lib.hid hb
  clear hm hb
  go_wp2_with fail
  go_ret
  exact ⟨by rw [← Hm.out]; rfl, below_next hba Hb.out⟩

/-- a zero expression -/
def noneE (e : GExp) : Bool := decide (e.op = 0) && (decide (e.t = zT) && e.kids.isEmpty)
set_option maxRecDepth 100000 in
set_option maxHeartbeats 1000000 in
theorem none_any (e : GExp) (A : Option Addr) (n c : Nat) (w : World) (hn : e.kids.length = n) (hn2 : n ≤ reachN) :
    Calls Tryz.prog 38 #[.agg #[.int .i64 e.op, .string e.t.x, .int .i64 e.t.v.k, .int .i64 e.t.v.n, .string e.t.v.s, .slice A n c]] w (RetBool (noneE e) w) := by
  have hn3 : n ≤ 140737488351232 := hn2
  have Hn := Lib.hid hn
  obtain ⟨B, HB⟩ : ∃ B, Hid (B = noneE e) := ⟨_, rfl⟩
  rw [← HB.out]
  clear hn hn2
  by_cases h0 : e.op = 0
  rotate_left
  · have q0 : (e.op == 0) = false := by simp [h0]
    have HE : Hid (B = false) := by show _ = _; rw [HB.out]; simp [noneE, h0]
    clear h0 HB
    go_enter Tryz.func38, Tryz.ntmps38
    go_wp2_with fail
    go_ret
    exact ⟨by rw [HE.out]; rfl, belowA (Below.refl _ _) _⟩
  have q0 : (e.op == 0) = true := by simp [h0]
  by_cases hz : e.t = zT
  rotate_left
  · have HE : Hid (B = false) := by show _ = _; rw [HB.out]; simp [noneE, hz]
    rcases told_not_zero hz with hz | ⟨z0, hz⟩ | ⟨z0, z1, hz⟩ | ⟨z0, z1, z2, hz⟩ <;>
    · clear h0 HB
      go_enter Tryz.func38, Tryz.ntmps38
      go_wp2_with fail
      go_ret
      exact ⟨by rw [HE.out]; rfl, belowA (Below.refl _ _) _⟩
  obtain ⟨z0, z1, z2, z3⟩ := told_zero.1 hz
  by_cases hk : n = 0
  · have q2 : ((n : Int) == 0) = true := by simp [hk]
    have HE : Hid (B = true) := by show _ = _; rw [HB.out]; simp [noneE, h0, hz]; exact List.eq_nil_of_length_eq_zero (by have := Hn.out; omega)
    clear h0 HB hz hk
    go_enter Tryz.func38, Tryz.ntmps38
    go_wp2_with fail
    go_ret
    exact ⟨by rw [HE.out]; rfl, belowA (Below.refl _ _) _⟩
  · have q2 : ((n : Int) == 0) = false := by rw [beq_eq_false_iff_ne]; omega
    have HE : Hid (B = false) := by show _ = _; rw [HB.out]; simp [noneE, h0, hz]; intro h; have := Hn.out; rw [h] at this; simp at this; omega
    clear h0 HB hz hk
    go_enter Tryz.func38, Tryz.ntmps38
    go_wp2_with fail
    go_ret
    exact ⟨by rw [HE.out]; rfl, belowA (Below.refl _ _) _⟩
end Go.Proofs.YtiffmiabhapfnaaGreatDoor

/- (term.Atom).right, term.RightLiteral. -/
namespace Go.Proofs.YtiffmiabhapfnaaGreatDoor
open Go.RowKit

def atomB (x : GAtom) : Bool := singleB 2 x.rel && (decide (x.args.length ≤ 6) && x.args.all rightT)
set_option maxRecDepth 100000 in
set_option maxHeartbeats 1000000 in
theorem aright_any (x : GAtom) (a : Hd) (w : World) (hs : x.rel.size ≤ reachN) (hl : SliceIs Enc.told w w.heap.size a.A a.n a.c x.args) (hW : LexW w) : Calls Tryz.prog 33 #[.agg #[.string x.rel, a.v]] w (RetBool (atomB x) w) := by
  obtain ⟨B, HB⟩ : ∃ B, Hid (B = atomB x) := ⟨_, rfl⟩
  rw [← HB.out]
  have hrb : (w.alloc (.cells #[.string x.rel, a.v] 53)).heap[w.heap.size]? = some (.cells #[.string x.rel, a.v] 53 (0, 0)) := heapNew rfl
  have hba : Below w.heap.size w (w.alloc (.cells #[.string x.rel, a.v] 53)) := belowA (Below.refl _ _) _
  have hn := hl.bound
  have hlen := Lib.hid hl.1
  obtain ⟨N, HN⟩ : ∃ N, Hid (N = singleB 2 x.rel) := ⟨_, rfl⟩
  obtain ⟨E, HEe⟩ : ∃ E, Hid (E = x.args.all rightT) := ⟨_, rfl⟩
  have HE : Hid (B = (N && (decide (x.args.length ≤ 6) && E))) := by show _ = _; rw [HB.out, HN.out, HEe.out]; rfl
  have C1 : Hid (∀ W, Below (w.alloc (.cells #[.string x.rel, a.v] 53)).heap.size (w.alloc (.cells #[.string x.rel, a.v] 53)) W → Calls Tryz.prog 54 #[.string x.rel] W (RetBool N W)) := fun W h => by rw [HN.out]; exact named_any x.rel hs W ((hW.on hba).on h)
  have C2 : Hid (∀ W, Below (w.alloc (.cells #[.string x.rel, a.v] 53)).heap.size (w.alloc (.cells #[.string x.rel, a.v] 53)) W → Calls Tryz.prog 58 #[a.v, .func (.func 59) #[] #[]] W (RetBool E W)) := fun W h => by
    rw [HEe.out]
    exact everyT_any a.A a.n a.c x.args W ((hl.keep hba).keep h) (fun t W' ht h' => tright_any t ht.1 W' (((hW.on hba).on h).on h'))
  have Hrow : Hid (∀ W, Below (w.alloc (.cells #[.string x.rel, a.v] 53)).heap.size (w.alloc (.cells #[.string x.rel, a.v] 53)) W → W.heap[w.heap.size]? = some (.cells #[.string x.rel, a.v] 53 (0, 0))) := fun W h => (h.block _ (Array.getElem?_eq_some_iff.1 hrb).1).trans hrb
  obtain ⟨f0_0, f0_1⟩ := facts2 hrb
  clear hl hW hs hrb HB HN HEe
  by_cases h6 : a.n ≤ 6
  · have z6 : (a.n : Int) ≤ 6 := by omega
    have HE2 : Hid (B = (N && E)) := by show _ = _; rw [HE.out, decide_eq_true (by rw [hlen.out]; exact h6)]; rfl
    clear HE hlen h6
    generalize hwb : (w.alloc (.cells #[.string x.rel, a.v] 53)) = wb at *
    have Hbw0 := Lib.hid (Below.refl wb.heap.size wb)
    go_enter Tryz.func33, Tryz.ntmps33
    go_wp2_with fail
    try simp only [hwb]
    go_wp2_with fail
    refine (C1.out _ Hbw0.out).mono ?_
    rintro e1 w1 ⟨rfl, hq1⟩
    have Hbw1 := Lib.hid (below_next Hbw0.out hq1)
    obtain ⟨f1_0, f1_1⟩ := facts2 (Hrow.out _ Hbw1.out)
    clear hq1 f0_0 f0_1
    cases N with
    | false =>
      go_wp2_with fail
      go_ret
      exact ⟨by rw [HE2.out]; rfl, below_next hba Hbw1.out⟩
    | true =>
      go_wp2_with fail
      refine (C2.out _ Hbw1.out).mono ?_
      rintro e2 w2 ⟨rfl, hq2⟩
      have Hbw2 := Lib.hid (below_next Hbw1.out hq2)
      obtain ⟨f2_0, f2_1⟩ := facts2 (Hrow.out _ Hbw2.out)
      clear hq2 f1_0 f1_1
      cases E <;>
      · go_wp2_with fail
        go_ret
        exact ⟨by rw [HE2.out]; rfl, below_next hba Hbw2.out⟩
  · have z6 : ¬ (a.n : Int) ≤ 6 := by omega
    have HE2 : Hid (B = false) := by show _ = _; rw [HE.out, decide_eq_false (by rw [hlen.out]; exact h6)]; simp
    clear HE hlen h6 C2
    generalize hwb : (w.alloc (.cells #[.string x.rel, a.v] 53)) = wb at *
    have Hbw0 := Lib.hid (Below.refl wb.heap.size wb)
    go_enter Tryz.func33, Tryz.ntmps33
    go_wp2_with fail
    try simp only [hwb]
    go_wp2_with fail
    refine (C1.out _ Hbw0.out).mono ?_
    rintro e1 w1 ⟨rfl, hq1⟩
    have Hbw1 := Lib.hid (below_next Hbw0.out hq1)
    obtain ⟨f1_0, f1_1⟩ := facts2 (Hrow.out _ Hbw1.out)
    clear hq1 f0_0 f0_1
    cases N <;>
    · go_wp2_with fail
      go_ret
      exact ⟨by rw [HE2.out]; rfl, below_next hba Hbw1.out⟩

def cmpB2 (x : GLit) : Bool := (decide (x.atom.rel.size = 0) && decide (x.atom.args.length = 0)) && (decide (1 ≤ x.op) && decide (x.op ≤ 6))
def rightLit (x : GLit) : Bool := if x.k = 1 ∨ x.k = 2 then atomB x.atom && (decide (x.op = 0) && (noneE x.l && noneE x.r)) else
  decide (x.k = 3) && (cmpB2 x && (rightE 20 x.l && rightE 20 x.r))

set_option maxRecDepth 100000 in
set_option maxHeartbeats 4000000 in
theorem rightLit_any (d : Nat) (x : GLit) (a p q : Hd) (w : World) (h : LitAt d w w.heap.size x a p q) (hW : LexW w) : Calls Tryz.prog 17 #[.agg #[.int .i64 x.k, .string x.atom.rel, a.v, .int .i64 x.op, .int .i64 x.l.op, .string x.l.t.x, .int .i64 x.l.t.v.k, .int .i64 x.l.t.v.n, .string x.l.t.v.s, p.v, .int .i64 x.r.op, .string x.r.t.x, .int .i64 x.r.t.v.k, .int .i64 x.r.t.v.n, .string x.r.t.v.s, q.v, .int .i64 x.pos]] w (RetBool (rightLit x) w) := by
  obtain ⟨B, HB⟩ : ∃ B, Hid (B = rightLit x) := ⟨_, rfl⟩
  rw [← HB.out]
  have hrb : (w.alloc (.cells #[.int .i64 x.k, .string x.atom.rel, a.v, .int .i64 x.op, .int .i64 x.l.op, .string x.l.t.x, .int .i64 x.l.t.v.k, .int .i64 x.l.t.v.n, .string x.l.t.v.s, p.v, .int .i64 x.r.op, .string x.r.t.x, .int .i64 x.r.t.v.k, .int .i64 x.r.t.v.n, .string x.r.t.v.s, q.v, .int .i64 x.pos] 63)).heap[w.heap.size]? = some (.cells #[.int .i64 x.k, .string x.atom.rel, a.v, .int .i64 x.op, .int .i64 x.l.op, .string x.l.t.x, .int .i64 x.l.t.v.k, .int .i64 x.l.t.v.n, .string x.l.t.v.s, p.v, .int .i64 x.r.op, .string x.r.t.x, .int .i64 x.r.t.v.k, .int .i64 x.r.t.v.n, .string x.r.t.v.s, q.v, .int .i64 x.pos] 63 (0, 0)) := heapNew rfl
  have hba : Below w.heap.size w (w.alloc (.cells #[.int .i64 x.k, .string x.atom.rel, a.v, .int .i64 x.op, .int .i64 x.l.op, .string x.l.t.x, .int .i64 x.l.t.v.k, .int .i64 x.l.t.v.n, .string x.l.t.v.s, p.v, .int .i64 x.r.op, .string x.r.t.x, .int .i64 x.r.t.v.k, .int .i64 x.r.t.v.n, .string x.r.t.v.s, q.v, .int .i64 x.pos] 63)) := belowA (Below.refl _ _) _
  have hna := h.args.bound
  have Hla := Lib.hid h.args.1
  have HH := Lib.hid (h.keep hba)
  have HW := Lib.hid (hW.on hba)
  clear h hW
  have Hrow : Hid (∀ W, Below (w.alloc (.cells #[.int .i64 x.k, .string x.atom.rel, a.v, .int .i64 x.op, .int .i64 x.l.op, .string x.l.t.x, .int .i64 x.l.t.v.k, .int .i64 x.l.t.v.n, .string x.l.t.v.s, p.v, .int .i64 x.r.op, .string x.r.t.x, .int .i64 x.r.t.v.k, .int .i64 x.r.t.v.n, .string x.r.t.v.s, q.v, .int .i64 x.pos] 63)).heap.size (w.alloc (.cells #[.int .i64 x.k, .string x.atom.rel, a.v, .int .i64 x.op, .int .i64 x.l.op, .string x.l.t.x, .int .i64 x.l.t.v.k, .int .i64 x.l.t.v.n, .string x.l.t.v.s, p.v, .int .i64 x.r.op, .string x.r.t.x, .int .i64 x.r.t.v.k, .int .i64 x.r.t.v.n, .string x.r.t.v.s, q.v, .int .i64 x.pos] 63)) W → W.heap[w.heap.size]? = some (.cells #[.int .i64 x.k, .string x.atom.rel, a.v, .int .i64 x.op, .int .i64 x.l.op, .string x.l.t.x, .int .i64 x.l.t.v.k, .int .i64 x.l.t.v.n, .string x.l.t.v.s, p.v, .int .i64 x.r.op, .string x.r.t.x, .int .i64 x.r.t.v.k, .int .i64 x.r.t.v.n, .string x.r.t.v.s, q.v, .int .i64 x.pos] 63 (0, 0))) := fun W h => (h.block _ (Array.getElem?_eq_some_iff.1 hrb).1).trans hrb
  obtain ⟨f0_0, f0_1, f0_2, f0_3, f0_4, f0_5, f0_6, f0_7, f0_8, f0_9, f0_10, f0_11, f0_12, f0_13, f0_14, f0_15, f0_16⟩ := facts17 hrb
  by_cases hk12 : x.k = 1 ∨ x.k = 2
  · obtain ⟨P1, HP1⟩ : ∃ E, Hid (E = atomB x.atom) := ⟨_, rfl⟩
    obtain ⟨P2, HP2⟩ : ∃ E, Hid (E = noneE x.l) := ⟨_, rfl⟩
    obtain ⟨P3, HP3⟩ : ∃ E, Hid (E = noneE x.r) := ⟨_, rfl⟩
    have HE : Hid (B = (P1 && (decide (x.op = 0) && (P2 && P3)))) := by show _ = _; rw [HB.out, HP1.out, HP2.out, HP3.out]; unfold rightLit; rw [if_pos hk12]
    have C1 : Hid (∀ W, Below (w.alloc (.cells #[.int .i64 x.k, .string x.atom.rel, a.v, .int .i64 x.op, .int .i64 x.l.op, .string x.l.t.x, .int .i64 x.l.t.v.k, .int .i64 x.l.t.v.n, .string x.l.t.v.s, p.v, .int .i64 x.r.op, .string x.r.t.x, .int .i64 x.r.t.v.k, .int .i64 x.r.t.v.n, .string x.r.t.v.s, q.v, .int .i64 x.pos] 63)).heap.size (w.alloc (.cells #[.int .i64 x.k, .string x.atom.rel, a.v, .int .i64 x.op, .int .i64 x.l.op, .string x.l.t.x, .int .i64 x.l.t.v.k, .int .i64 x.l.t.v.n, .string x.l.t.v.s, p.v, .int .i64 x.r.op, .string x.r.t.x, .int .i64 x.r.t.v.k, .int .i64 x.r.t.v.n, .string x.r.t.v.s, q.v, .int .i64 x.pos] 63)) W → Calls Tryz.prog 33 #[.agg #[.string x.atom.rel, a.v]] W (RetBool P1 W)) := fun W h => by rw [HP1.out]; exact aright_any x.atom a W HH.out.rel (HH.out.args.keep h) (HW.out.on h)
    have C2 : Hid (∀ W, Below (w.alloc (.cells #[.int .i64 x.k, .string x.atom.rel, a.v, .int .i64 x.op, .int .i64 x.l.op, .string x.l.t.x, .int .i64 x.l.t.v.k, .int .i64 x.l.t.v.n, .string x.l.t.v.s, p.v, .int .i64 x.r.op, .string x.r.t.x, .int .i64 x.r.t.v.k, .int .i64 x.r.t.v.n, .string x.r.t.v.s, q.v, .int .i64 x.pos] 63)).heap.size (w.alloc (.cells #[.int .i64 x.k, .string x.atom.rel, a.v, .int .i64 x.op, .int .i64 x.l.op, .string x.l.t.x, .int .i64 x.l.t.v.k, .int .i64 x.l.t.v.n, .string x.l.t.v.s, p.v, .int .i64 x.r.op, .string x.r.t.x, .int .i64 x.r.t.v.k, .int .i64 x.r.t.v.n, .string x.r.t.v.s, q.v, .int .i64 x.pos] 63)) W → Calls Tryz.prog 38 #[.agg #[.int .i64 x.l.op, .string x.l.t.x, .int .i64 x.l.t.v.k, .int .i64 x.l.t.v.n, .string x.l.t.v.s, p.v]] W (RetBool P2 W)) := fun W h => by rw [HP2.out]; exact none_any x.l p.A p.n p.c W HH.out.lk.1 HH.out.lk.2.2.2.1
    have C3 : Hid (∀ W, Below (w.alloc (.cells #[.int .i64 x.k, .string x.atom.rel, a.v, .int .i64 x.op, .int .i64 x.l.op, .string x.l.t.x, .int .i64 x.l.t.v.k, .int .i64 x.l.t.v.n, .string x.l.t.v.s, p.v, .int .i64 x.r.op, .string x.r.t.x, .int .i64 x.r.t.v.k, .int .i64 x.r.t.v.n, .string x.r.t.v.s, q.v, .int .i64 x.pos] 63)).heap.size (w.alloc (.cells #[.int .i64 x.k, .string x.atom.rel, a.v, .int .i64 x.op, .int .i64 x.l.op, .string x.l.t.x, .int .i64 x.l.t.v.k, .int .i64 x.l.t.v.n, .string x.l.t.v.s, p.v, .int .i64 x.r.op, .string x.r.t.x, .int .i64 x.r.t.v.k, .int .i64 x.r.t.v.n, .string x.r.t.v.s, q.v, .int .i64 x.pos] 63)) W → Calls Tryz.prog 38 #[.agg #[.int .i64 x.r.op, .string x.r.t.x, .int .i64 x.r.t.v.k, .int .i64 x.r.t.v.n, .string x.r.t.v.s, q.v]] W (RetBool P3 W)) := fun W h => by rw [HP3.out]; exact none_any x.r q.A q.n q.c W HH.out.rk.1 HH.out.rk.2.2.2.1
    clear hrb HB HP1 HP2 HP3 HH HW Hla
    generalize hwb : (w.alloc (.cells #[.int .i64 x.k, .string x.atom.rel, a.v, .int .i64 x.op, .int .i64 x.l.op, .string x.l.t.x, .int .i64 x.l.t.v.k, .int .i64 x.l.t.v.n, .string x.l.t.v.s, p.v, .int .i64 x.r.op, .string x.r.t.x, .int .i64 x.r.t.v.k, .int .i64 x.r.t.v.n, .string x.r.t.v.s, q.v, .int .i64 x.pos] 63)) = wb at *
    have Hbw0 := Lib.hid (Below.refl wb.heap.size wb)
    by_cases ho : x.op = 0
    · have o0 : (x.op == 0) = true := by simp [ho]
      have HE2 : Hid (B = (P1 && (P2 && P3))) := by show _ = _; rw [HE.out, decide_eq_true ho]; rfl
      clear HE ho
      rcases hk12 with hk | hk
      · have k1 : (x.k == 1) = true := by simp [hk]
        clear hk
        go_enter Tryz.func17, Tryz.ntmps17
        go_wp2_with fail
        try simp only [hwb]
        go_wp2_with fail
        refine (C1.out _ Hbw0.out).mono ?_
        rintro e1 w1 ⟨rfl, hq1⟩
        have Hbw1 := Lib.hid (below_next Hbw0.out hq1)
        obtain ⟨f1_0, f1_1, f1_2, f1_3, f1_4, f1_5, f1_6, f1_7, f1_8, f1_9, f1_10, f1_11, f1_12, f1_13, f1_14, f1_15, f1_16⟩ := facts17 (Hrow.out _ Hbw1.out)
        clear hq1 f0_0 f0_1 f0_2 f0_3 f0_4 f0_5 f0_6 f0_7 f0_8 f0_9 f0_10 f0_11 f0_12 f0_13 f0_14 f0_15 f0_16
        cases P1 with
        | false =>
          go_wp2_with fail
          go_ret
          exact ⟨by rw [HE2.out]; rfl, below_next hba Hbw1.out⟩
        | true =>
          go_wp2_with fail
          refine (C2.out _ Hbw1.out).mono ?_
          rintro e2 w2 ⟨rfl, hq2⟩
          have Hbw2 := Lib.hid (below_next Hbw1.out hq2)
          obtain ⟨f2_0, f2_1, f2_2, f2_3, f2_4, f2_5, f2_6, f2_7, f2_8, f2_9, f2_10, f2_11, f2_12, f2_13, f2_14, f2_15, f2_16⟩ := facts17 (Hrow.out _ Hbw2.out)
          clear hq2 f1_0 f1_1 f1_2 f1_3 f1_4 f1_5 f1_6 f1_7 f1_8 f1_9 f1_10 f1_11 f1_12 f1_13 f1_14 f1_15 f1_16
          cases P2 with
          | false =>
            go_wp2_with fail
            go_ret
            exact ⟨by rw [HE2.out]; rfl, below_next hba Hbw2.out⟩
          | true =>
            go_wp2_with fail
            refine (C3.out _ Hbw2.out).mono ?_
            rintro e3 w3 ⟨rfl, hq3⟩
            have Hbw3 := Lib.hid (below_next Hbw2.out hq3)
            obtain ⟨f3_0, f3_1, f3_2, f3_3, f3_4, f3_5, f3_6, f3_7, f3_8, f3_9, f3_10, f3_11, f3_12, f3_13, f3_14, f3_15, f3_16⟩ := facts17 (Hrow.out _ Hbw3.out)
            clear hq3 f2_0 f2_1 f2_2 f2_3 f2_4 f2_5 f2_6 f2_7 f2_8 f2_9 f2_10 f2_11 f2_12 f2_13 f2_14 f2_15 f2_16
            cases P3 <;>
            · go_wp2_with fail
              go_ret
              exact ⟨by rw [HE2.out]; rfl, below_next hba Hbw3.out⟩
      · have k1 : (x.k == 1) = false := by simp [hk]
        have k2 : (x.k == 2) = true := by simp [hk]
        clear hk
        go_enter Tryz.func17, Tryz.ntmps17
        go_wp2_with fail
        try simp only [hwb]
        go_wp2_with fail
        refine (C1.out _ Hbw0.out).mono ?_
        rintro e1 w1 ⟨rfl, hq1⟩
        have Hbw1 := Lib.hid (below_next Hbw0.out hq1)
        obtain ⟨f1_0, f1_1, f1_2, f1_3, f1_4, f1_5, f1_6, f1_7, f1_8, f1_9, f1_10, f1_11, f1_12, f1_13, f1_14, f1_15, f1_16⟩ := facts17 (Hrow.out _ Hbw1.out)
        clear hq1 f0_0 f0_1 f0_2 f0_3 f0_4 f0_5 f0_6 f0_7 f0_8 f0_9 f0_10 f0_11 f0_12 f0_13 f0_14 f0_15 f0_16
        cases P1 with
        | false =>
          go_wp2_with fail
          go_ret
          exact ⟨by rw [HE2.out]; rfl, below_next hba Hbw1.out⟩
        | true =>
          go_wp2_with fail
          refine (C2.out _ Hbw1.out).mono ?_
          rintro e2 w2 ⟨rfl, hq2⟩
          have Hbw2 := Lib.hid (below_next Hbw1.out hq2)
          obtain ⟨f2_0, f2_1, f2_2, f2_3, f2_4, f2_5, f2_6, f2_7, f2_8, f2_9, f2_10, f2_11, f2_12, f2_13, f2_14, f2_15, f2_16⟩ := facts17 (Hrow.out _ Hbw2.out)
          clear hq2 f1_0 f1_1 f1_2 f1_3 f1_4 f1_5 f1_6 f1_7 f1_8 f1_9 f1_10 f1_11 f1_12 f1_13 f1_14 f1_15 f1_16
          cases P2 with
          | false =>
            go_wp2_with fail
            go_ret
            exact ⟨by rw [HE2.out]; rfl, below_next hba Hbw2.out⟩
          | true =>
            go_wp2_with fail
            refine (C3.out _ Hbw2.out).mono ?_
            rintro e3 w3 ⟨rfl, hq3⟩
            have Hbw3 := Lib.hid (below_next Hbw2.out hq3)
            obtain ⟨f3_0, f3_1, f3_2, f3_3, f3_4, f3_5, f3_6, f3_7, f3_8, f3_9, f3_10, f3_11, f3_12, f3_13, f3_14, f3_15, f3_16⟩ := facts17 (Hrow.out _ Hbw3.out)
            clear hq3 f2_0 f2_1 f2_2 f2_3 f2_4 f2_5 f2_6 f2_7 f2_8 f2_9 f2_10 f2_11 f2_12 f2_13 f2_14 f2_15 f2_16
            cases P3 <;>
            · go_wp2_with fail
              go_ret
              exact ⟨by rw [HE2.out]; rfl, below_next hba Hbw3.out⟩
    · have o0 : (x.op == 0) = false := by simp [ho]
      have HE2 : Hid (B = false) := by show _ = _; rw [HE.out, decide_eq_false ho]; simp
      clear HE ho C2 C3
      rcases hk12 with hk | hk
      · have k1 : (x.k == 1) = true := by simp [hk]
        clear hk
        go_enter Tryz.func17, Tryz.ntmps17
        go_wp2_with fail
        try simp only [hwb]
        go_wp2_with fail
        refine (C1.out _ Hbw0.out).mono ?_
        rintro e1 w1 ⟨rfl, hq1⟩
        have Hbw1 := Lib.hid (below_next Hbw0.out hq1)
        obtain ⟨f1_0, f1_1, f1_2, f1_3, f1_4, f1_5, f1_6, f1_7, f1_8, f1_9, f1_10, f1_11, f1_12, f1_13, f1_14, f1_15, f1_16⟩ := facts17 (Hrow.out _ Hbw1.out)
        clear hq1 f0_0 f0_1 f0_2 f0_3 f0_4 f0_5 f0_6 f0_7 f0_8 f0_9 f0_10 f0_11 f0_12 f0_13 f0_14 f0_15 f0_16
        cases P1 <;>
        · go_wp2_with fail
          go_ret
          exact ⟨by rw [HE2.out]; rfl, below_next hba Hbw1.out⟩
      · have k1 : (x.k == 1) = false := by simp [hk]
        have k2 : (x.k == 2) = true := by simp [hk]
        clear hk
        go_enter Tryz.func17, Tryz.ntmps17
        go_wp2_with fail
        try simp only [hwb]
        go_wp2_with fail
        refine (C1.out _ Hbw0.out).mono ?_
        rintro e1 w1 ⟨rfl, hq1⟩
        have Hbw1 := Lib.hid (below_next Hbw0.out hq1)
        obtain ⟨f1_0, f1_1, f1_2, f1_3, f1_4, f1_5, f1_6, f1_7, f1_8, f1_9, f1_10, f1_11, f1_12, f1_13, f1_14, f1_15, f1_16⟩ := facts17 (Hrow.out _ Hbw1.out)
        clear hq1 f0_0 f0_1 f0_2 f0_3 f0_4 f0_5 f0_6 f0_7 f0_8 f0_9 f0_10 f0_11 f0_12 f0_13 f0_14 f0_15 f0_16
        cases P1 <;>
        · go_wp2_with fail
          go_ret
          exact ⟨by rw [HE2.out]; rfl, below_next hba Hbw1.out⟩
  have k1 : (x.k == 1) = false := by simp; omega
  have k2 : (x.k == 2) = false := by simp; omega
  by_cases hk3 : x.k = 3
  rotate_left
  · have k3 : (x.k == 3) = false := by simp [hk3]
    have HE2 : Hid (B = false) := by show _ = _; rw [HB.out]; simp [rightLit, hk12, hk3]
    clear hk3 hk12 HB HH HW Hrow hrb Hla
    go_enter Tryz.func17, Tryz.ntmps17
    go_wp2_with fail
    go_ret
    exact ⟨by rw [HE2.out]; rfl, belowA (Below.refl _ _) _⟩
  have k3 : (x.k == 3) = true := by simp [hk3]
  have HE : Hid (B = (cmpB2 x && (rightE 20 x.l && rightE 20 x.r))) := by show _ = _; rw [HB.out]; simp [rightLit, hk12, hk3]
  by_cases hc : cmpB2 x = true
  rotate_left
  · have HE2 : Hid (B = false) := by show _ = _; rw [HE.out]; simp [hc]
    have hc' : (¬ x.atom.rel.toList = []) ∨ (x.atom.rel.toList = [] ∧ ¬ (a.n : Int) = 0) ∨ (x.atom.rel.toList = [] ∧ (a.n : Int) = 0 ∧ x.op < 1) ∨ (x.atom.rel.toList = [] ∧ (a.n : Int) = 0 ∧ ¬ x.op < 1 ∧ 6 < x.op) := by
      have h1 := Hla.out
      have h2 := @str_empty x.atom.rel
      unfold cmpB2 at hc
      by_cases g1 : x.atom.rel.size = 0
      · have g2 := h2.2 g1
        by_cases g3 : a.n = 0
        · by_cases g4 : x.op < 1
          · exact .inr (.inr (.inl ⟨g2, by omega, g4⟩))
          · by_cases g5 : 6 < x.op
            · exact .inr (.inr (.inr ⟨g2, by omega, g4, g5⟩))
            · exfalso
              apply hc
              have : 1 ≤ x.op := by omega
              have : x.op ≤ 6 := by omega
              have : x.atom.args.length = 0 := by omega
              simp [*]
        · exact .inr (.inl ⟨g2, by omega⟩)
      · exact .inl (fun h => g1 (h2.1 h))
    clear hk3 hk12 HB HH HW Hrow hrb hc HE
    rcases hc' with h | ⟨g0, h⟩ | ⟨g0, g1, h⟩ | ⟨g0, g1, g2, h⟩ <;>
    · go_enter Tryz.func17, Tryz.ntmps17
      go_wp2_with fail
      go_ret
      exact ⟨by rw [HE2.out]; rfl, belowA (Below.refl _ _) _⟩
  have hc' : x.atom.rel.toList = [] ∧ a.n = 0 ∧ 1 ≤ x.op ∧ x.op ≤ 6 := by
    have h1 := Hla.out
    simp only [cmpB2, Bool.and_eq_true, decide_eq_true_eq] at hc
    exact ⟨str_empty.2 hc.1.1, by omega, hc.2.1, hc.2.2⟩
  obtain ⟨g0, hg1, g2, g3⟩ := hc'
  have g1 : (a.n : Int) = 0 := by omega
  obtain ⟨P1, HP1⟩ : ∃ E, Hid (E = rightE 20 x.l) := ⟨_, rfl⟩
  obtain ⟨P2, HP2⟩ : ∃ E, Hid (E = rightE 20 x.r) := ⟨_, rfl⟩
  have HE2 : Hid (B = (P1 && P2)) := by show _ = _; rw [HE.out, hc, HP1.out, HP2.out]; rfl
  have C1 : Hid (∀ W, Below (w.alloc (.cells #[.int .i64 x.k, .string x.atom.rel, a.v, .int .i64 x.op, .int .i64 x.l.op, .string x.l.t.x, .int .i64 x.l.t.v.k, .int .i64 x.l.t.v.n, .string x.l.t.v.s, p.v, .int .i64 x.r.op, .string x.r.t.x, .int .i64 x.r.t.v.k, .int .i64 x.r.t.v.n, .string x.r.t.v.s, q.v, .int .i64 x.pos] 63)).heap.size (w.alloc (.cells #[.int .i64 x.k, .string x.atom.rel, a.v, .int .i64 x.op, .int .i64 x.l.op, .string x.l.t.x, .int .i64 x.l.t.v.k, .int .i64 x.l.t.v.n, .string x.l.t.v.s, p.v, .int .i64 x.r.op, .string x.r.t.x, .int .i64 x.r.t.v.k, .int .i64 x.r.t.v.n, .string x.r.t.v.s, q.v, .int .i64 x.pos] 63)) W → Calls Tryz.prog 39 #[.agg #[.int .i64 x.l.op, .string x.l.t.x, .int .i64 x.l.t.v.k, .int .i64 x.l.t.v.n, .string x.l.t.v.s, p.v]] W (RetBool P1 W)) := fun W h => by rw [HP1.out]; exact rightExp_any x.l p.A p.n p.c d W (HH.out.lk.keep h) HH.out.lx (HW.out.on h)
  have C2 : Hid (∀ W, Below (w.alloc (.cells #[.int .i64 x.k, .string x.atom.rel, a.v, .int .i64 x.op, .int .i64 x.l.op, .string x.l.t.x, .int .i64 x.l.t.v.k, .int .i64 x.l.t.v.n, .string x.l.t.v.s, p.v, .int .i64 x.r.op, .string x.r.t.x, .int .i64 x.r.t.v.k, .int .i64 x.r.t.v.n, .string x.r.t.v.s, q.v, .int .i64 x.pos] 63)).heap.size (w.alloc (.cells #[.int .i64 x.k, .string x.atom.rel, a.v, .int .i64 x.op, .int .i64 x.l.op, .string x.l.t.x, .int .i64 x.l.t.v.k, .int .i64 x.l.t.v.n, .string x.l.t.v.s, p.v, .int .i64 x.r.op, .string x.r.t.x, .int .i64 x.r.t.v.k, .int .i64 x.r.t.v.n, .string x.r.t.v.s, q.v, .int .i64 x.pos] 63)) W → Calls Tryz.prog 39 #[.agg #[.int .i64 x.r.op, .string x.r.t.x, .int .i64 x.r.t.v.k, .int .i64 x.r.t.v.n, .string x.r.t.v.s, q.v]] W (RetBool P2 W)) := fun W h => by rw [HP2.out]; exact rightExp_any x.r q.A q.n q.c d W (HH.out.rk.keep h) HH.out.rx (HW.out.on h)
  clear hrb HB HP1 HP2 HH HW Hla hc HE hk3 hk12 hg1
  generalize hwb : (w.alloc (.cells #[.int .i64 x.k, .string x.atom.rel, a.v, .int .i64 x.op, .int .i64 x.l.op, .string x.l.t.x, .int .i64 x.l.t.v.k, .int .i64 x.l.t.v.n, .string x.l.t.v.s, p.v, .int .i64 x.r.op, .string x.r.t.x, .int .i64 x.r.t.v.k, .int .i64 x.r.t.v.n, .string x.r.t.v.s, q.v, .int .i64 x.pos] 63)) = wb at *
  have Hbw0 := Lib.hid (Below.refl wb.heap.size wb)
  go_enter Tryz.func17, Tryz.ntmps17
  go_wp2_with fail
  try simp only [hwb]
  go_wp2_with fail
  refine (C1.out _ Hbw0.out).mono ?_
  rintro e1 w1 ⟨rfl, hq1⟩
  have Hbw1 := Lib.hid (below_next Hbw0.out hq1)
  obtain ⟨f1_0, f1_1, f1_2, f1_3, f1_4, f1_5, f1_6, f1_7, f1_8, f1_9, f1_10, f1_11, f1_12, f1_13, f1_14, f1_15, f1_16⟩ := facts17 (Hrow.out _ Hbw1.out)
  clear hq1 f0_0 f0_1 f0_2 f0_3 f0_4 f0_5 f0_6 f0_7 f0_8 f0_9 f0_10 f0_11 f0_12 f0_13 f0_14 f0_15 f0_16
  cases P1 with
  | false =>
    go_wp2_with fail
    go_ret
    exact ⟨by rw [HE2.out]; rfl, below_next hba Hbw1.out⟩
  | true =>
    go_wp2_with fail
    refine (C2.out _ Hbw1.out).mono ?_
    rintro e2 w2 ⟨rfl, hq2⟩
    have Hbw2 := Lib.hid (below_next Hbw1.out hq2)
    obtain ⟨f2_0, f2_1, f2_2, f2_3, f2_4, f2_5, f2_6, f2_7, f2_8, f2_9, f2_10, f2_11, f2_12, f2_13, f2_14, f2_15, f2_16⟩ := facts17 (Hrow.out _ Hbw2.out)
    clear hq2 f1_0 f1_1 f1_2 f1_3 f1_4 f1_5 f1_6 f1_7 f1_8 f1_9 f1_10 f1_11 f1_12 f1_13 f1_14 f1_15 f1_16
    cases P2 <;>
    · go_wp2_with fail
      go_ret
      exact ⟨by rw [HE2.out]; rfl, below_next hba Hbw2.out⟩
end Go.Proofs.YtiffmiabhapfnaaGreatDoor

/- term.every over a list of literals. -/
namespace Go.Proofs.YtiffmiabhapfnaaGreatDoor
open Go.RowKit

set_option maxRecDepth 100000 in
set_option maxHeartbeats 1000000 in
theorem ev1L_any (x : GLit) (a p q : Hd) (g : Nat) (w : World) (hg : w.cell? ⟨g, 0, none⟩ = some (.func (.func 17) #[] #[])) (HC : Hid (∀ W, Below w.heap.size w W → Calls Tryz.prog 17 #[.agg #[.int .i64 x.k, .string x.atom.rel, a.v, .int .i64 x.op, .int .i64 x.l.op, .string x.l.t.x, .int .i64 x.l.t.v.k, .int .i64 x.l.t.v.n, .string x.l.t.v.s, p.v, .int .i64 x.r.op, .string x.r.t.x, .int .i64 x.r.t.v.k, .int .i64 x.r.t.v.n, .string x.r.t.v.s, q.v, .int .i64 x.pos]] W (RetBool (rightLit x) W))) :
    Calls Tryz.prog 61 #[.agg #[.int .i64 x.k, .string x.atom.rel, a.v, .int .i64 x.op, .int .i64 x.l.op, .string x.l.t.x, .int .i64 x.l.t.v.k, .int .i64 x.l.t.v.n, .string x.l.t.v.s, p.v, .int .i64 x.r.op, .string x.r.t.x, .int .i64 x.r.t.v.k, .int .i64 x.r.t.v.n, .string x.r.t.v.s, q.v, .int .i64 x.pos], .pointer (some ⟨g, 0, none⟩)] w (RetBool (!rightLit x) w) := by
  have hrb : (w.alloc (.cells #[.int .i64 x.k, .string x.atom.rel, a.v, .int .i64 x.op, .int .i64 x.l.op, .string x.l.t.x, .int .i64 x.l.t.v.k, .int .i64 x.l.t.v.n, .string x.l.t.v.s, p.v, .int .i64 x.r.op, .string x.r.t.x, .int .i64 x.r.t.v.k, .int .i64 x.r.t.v.n, .string x.r.t.v.s, q.v, .int .i64 x.pos] 63)).heap[w.heap.size]? = some (.cells #[.int .i64 x.k, .string x.atom.rel, a.v, .int .i64 x.op, .int .i64 x.l.op, .string x.l.t.x, .int .i64 x.l.t.v.k, .int .i64 x.l.t.v.n, .string x.l.t.v.s, p.v, .int .i64 x.r.op, .string x.r.t.x, .int .i64 x.r.t.v.k, .int .i64 x.r.t.v.n, .string x.r.t.v.s, q.v, .int .i64 x.pos] 63 (0, 0)) := heapNew rfl
  obtain ⟨b0, b1, b2, b3, b4, b5, b6, b7, b8, b9, b10, b11, b12, b13, b14, b15, b16⟩ := facts17 hrb
  have cg : (w.alloc (.cells #[.int .i64 x.k, .string x.atom.rel, a.v, .int .i64 x.op, .int .i64 x.l.op, .string x.l.t.x, .int .i64 x.l.t.v.k, .int .i64 x.l.t.v.n, .string x.l.t.v.s, p.v, .int .i64 x.r.op, .string x.r.t.x, .int .i64 x.r.t.v.k, .int .i64 x.r.t.v.n, .string x.r.t.v.s, q.v, .int .i64 x.pos] 63)).cell? ⟨g, 0, none⟩ = some (.func (.func 17) #[] #[]) := cellA hg
  clear hrb hg
  generalize rightLit x = B at *
  go_enter Tryz.func61, Tryz.ntmps61
  go_wp2_with fail
  refine (HC.out _ (by first | exact Below.refl _ _ | exact belowA (Below.refl _ _) _)).mono ?_
  rintro e w1 ⟨rfl, hb⟩
  have Hb := Lib.hid hb
  clear hb
  go_wp2_with fail
  go_ret
  exact ⟨rfl, below_next (belowA (Below.refl _ _) _) Hb.out⟩

set_option maxRecDepth 100000 in
set_option maxHeartbeats 1000000 in
theorem evIL_any (d : Nat) (A : Option Addr) (n c : Nat) (l : List GLit) (g : Nat) (w : World) (hl : SliceIs (Enc.lit d) w w.heap.size A n c l) (hg : w.cell? ⟨g, 0, none⟩ = some (.func (.func 17) #[] #[]))
    (HC : Hid (∀ (x : GLit) (a p q : Hd) W, LitAt d W W.heap.size x a p q → Below w.heap.size w W → Calls Tryz.prog 17 #[.agg #[.int .i64 x.k, .string x.atom.rel, a.v, .int .i64 x.op, .int .i64 x.l.op, .string x.l.t.x, .int .i64 x.l.t.v.k, .int .i64 x.l.t.v.n, .string x.l.t.v.s, p.v, .int .i64 x.r.op, .string x.r.t.x, .int .i64 x.r.t.v.k, .int .i64 x.r.t.v.n, .string x.r.t.v.s, q.v, .int .i64 x.pos]] W (RetBool (rightLit x) W))) :
    Calls Tryz.prog 87 #[.slice A n c, .func (.func 61) #[] #[.pointer (some ⟨g, 0, none⟩)]] w (fun e w' => ∃ k : Int, e = .returned (.int .i64 k) ∧ decide (0 ≤ k) = !(l.all rightLit) ∧ Below w.heap.size w w') := by
  have hn := hl.bound
  have HL := Lib.hid hl
  have hlen := Lib.hid hl.1
  have Hg := Lib.hid hg
  clear hl hg
  go_enter Tryz.func87, Tryz.ntmps87
  go_wp2_with fail
  go_loopw [5, 8] (fun _ i wr => ∃ k : Nat, k ≤ n ∧ i = .int .i64 k ∧ Hid ((l.take k).all rightLit = true) ∧ Below w.heap.size w wr) (fun _ i _ => n - (intOf i).toNat)
  case atStart => exact ⟨0, by omega, rfl, by simp [Hid], Below.refl _ _⟩
  case round =>
    obtain ⟨k, hk, rfl, hpre, hbr⟩ := hrel
    by_cases hlt : k < n
    · have HLr := (HL.out.below hbr)
      obtain ⟨b, o, x, a, p, q, rfl, hbb, hx, hat, z0, z1, z2, z3, z4, z5, z6, z7, z8, z9, z10, z11, z12, z13, z14, z15, z16⟩ := HLr.lit_at hlt
      have hokx : LitAt d wr wr.heap.size x a p q := hat.mono' hbr.size (Kept.of fun _ _ => rfl)
      have C := Lib.hid (ev1L_any x a p q g wr (below_cell hbr Hg.out) (fun W hW => HC.out x a p q W (hokx.keep hW) (below_next hbr hW)))
      have i0 : (0 : Int) ≤ (k : Int) := by omega
      have i1 : (k : Int) < (n : Int) := by omega
      have HT : Hid ((l.take (k + 1)).all rightLit = rightLit x) := by
        show _ = _
        obtain ⟨g1, g2⟩ := List.getElem?_eq_some_iff.1 hx.out
        rw [List.take_succ_eq_append_getElem g1, g2, List.all_append, hpre.out]; simp
      have HF : Hid (rightLit x = false → l.all rightLit = false) := fun h => by
        rw [List.all_eq_false]
        exact ⟨x, List.mem_of_getElem? hx.out, by simp [h]⟩
      clear HLr hokx
      generalize rightLit x = B at *
      cases B with
      | true =>
        clear HF
        go_wp2_with fail
        refine C.out.mono ?_
        rintro e w1 ⟨rfl, hb⟩
        have Hb := Lib.hid hb
        clear hb
        go_wp2_with fail
        go_roundw
        case rel => exact ⟨k + 1, by omega, by go_num, HT, below_next hbr Hb.out⟩
        case measure => simp [intOf]; omega
      | false =>
        have HF' : Hid (l.all rightLit = false) := HF.out rfl
        clear HF
        go_wp2_with fail
        refine C.out.mono ?_
        rintro e w1 ⟨rfl, hb⟩
        have Hb := Lib.hid hb
        clear hb
        go_wp2_with fail
        go_ret
        exact ⟨_, rfl, by rw [HF'.out]; simp, below_next hbr Hb.out⟩
    · have i1 : ¬ (k : Int) < (n : Int) := by omega
      have HA : Hid (l.all rightLit = true) := by
        show _ = _
        have h := hpre.out
        rw [List.take_of_length_le (by have := hlen.out; omega)] at h
        exact h
      go_wp2_with fail
      go_ret
      exact ⟨_, rfl, by rw [HA.out]; rfl, hbr⟩

set_option maxRecDepth 100000 in
set_option maxHeartbeats 1000000 in
theorem everyL_any (d : Nat) (A : Option Addr) (n c : Nat) (l : List GLit) (w : World) (hl : SliceIs (Enc.lit d) w w.heap.size A n c l)
    (HC : Hid (∀ (x : GLit) (a p q : Hd) W, LitAt d W W.heap.size x a p q → Below w.heap.size w W → Calls Tryz.prog 17 #[.agg #[.int .i64 x.k, .string x.atom.rel, a.v, .int .i64 x.op, .int .i64 x.l.op, .string x.l.t.x, .int .i64 x.l.t.v.k, .int .i64 x.l.t.v.n, .string x.l.t.v.s, p.v, .int .i64 x.r.op, .string x.r.t.x, .int .i64 x.r.t.v.k, .int .i64 x.r.t.v.n, .string x.r.t.v.s, q.v, .int .i64 x.pos]] W (RetBool (rightLit x) W))) :
    Calls Tryz.prog 35 #[.slice A n c, .func (.func 17) #[] #[]] w (RetBool (l.all rightLit) w) := by
  have hba : Below w.heap.size w (w.alloc (.cells #[.func (.func 17) #[] #[]] 64)) := belowA (Below.refl _ _) _
  have C := Lib.hid (evIL_any d A n c l w.heap.size (w.alloc (.cells #[.func (.func 17) #[] #[]] 64)) (hl.keep hba) ((cell_of_row _ _ 0 _ _ _ (heapNew rfl)).trans rfl) (fun x a p q W h hW => HC.out x a p q W h (below_next hba hW)))
  generalize l.all rightLit = B at *
  clear hl HC
  have CC : Hid (Calls Tryz.prog 60 #[.slice A n c, .func (.func 61) #[] #[.pointer (some ⟨w.heap.size, 0, none⟩)]] (w.alloc (.cells #[.func (.func 17) #[] #[]] 64)) (RetBool (!B) (w.alloc (.cells #[.func (.func 17) #[] #[]] 64)))) := by
    show Calls _ _ _ _ _
    generalize w.alloc (.cells #[.func (.func 17) #[] #[]] 64) = wb at *
    go_enter Tryz.func60, Tryz.ntmps60
    go_wp2_with fail
    refine C.out.mono ?_
    rintro e w1 ⟨k, rfl, hk, hb⟩
    have Hb := Lib.hid hb
    have Hk := Lib.hid hk
    clear hb hk
    go_wp2_with fail
    go_ret
    exact ⟨by rw [← Hk.out]; rfl, Hb.out⟩
  clear C
  go_enter Tryz.func35, Tryz.ntmps35
  go_wp2_with fail
  refine CC.out.mono ?_
  rintro e w1 ⟨rfl, hb⟩
  have Hb := Lib.hid hb
  clear hb CC
  go_wp2_with fail
  go_ret
  exact ⟨by cases B <;> rfl, below_next hba Hb.out⟩
end Go.Proofs.YtiffmiabhapfnaaGreatDoor

/- term.aggregated, term.RightRule. -/
namespace Go.Proofs.YtiffmiabhapfnaaGreatDoor
open Go.RowKit

def varAt (l : List GTold) (k : Nat) : Bool := match l[k]? with | some t => !decide (t.x.size = 0) | none => false
def aggB (x : GRule) : Bool := if x.agg = 0 then decide (x.col = 0) else decide (0 ≤ x.agg ∧ x.agg ≤ 4 ∧ 0 ≤ x.col) && varAt x.head.args x.col.toNat
set_option maxRecDepth 100000 in
set_option maxHeartbeats 2000000 in
theorem agg_any (x : GRule) (a m : Hd) (w : World) (hl : SliceIs Enc.told w w.heap.size a.A a.n a.c x.head.args) : Calls Tryz.prog 34 #[.agg #[.string x.head.rel, a.v, .int .i64 x.agg, .int .i64 x.col, m.v, .int .i64 x.pos]] w (RetBool (aggB x) w) := by
  obtain ⟨B, HB⟩ : ∃ B, Hid (B = aggB x) := ⟨_, rfl⟩
  rw [← HB.out]
  have hn := hl.bound
  have Hlen := Lib.hid hl.1
  have HL := Lib.hid hl
  clear hl
  by_cases h0 : x.agg = 0
  · have q0 : (x.agg == 0) = true := by simp [h0]
    have HE : Hid (B = decide (x.col = 0)) := by show _ = _; rw [HB.out]; unfold aggB; rw [if_pos h0]
    clear h0 HB
    by_cases h1 : x.col = 0
    · have q1 : (x.col == 0) = true := by simp [h1]
      rw [decide_eq_true h1] at HE
      clear h1
      go_enter Tryz.func34, Tryz.ntmps34
      go_wp2_with fail
      go_ret
      exact ⟨by rw [HE.out]; rfl, belowA (Below.refl _ _) _⟩
    · have q1 : (x.col == 0) = false := by simp [h1]
      rw [decide_eq_false h1] at HE
      clear h1
      go_enter Tryz.func34, Tryz.ntmps34
      go_wp2_with fail
      go_ret
      exact ⟨by rw [HE.out]; rfl, belowA (Below.refl _ _) _⟩
  have q0 : (x.agg == 0) = false := by simp [h0]
  have HE : Hid (B = (decide (0 ≤ x.agg ∧ x.agg ≤ 4 ∧ 0 ≤ x.col) && varAt x.head.args x.col.toNat)) := by show _ = _; rw [HB.out]; unfold aggB; rw [if_neg h0]
  clear h0 HB
  by_cases hb : 0 ≤ x.agg ∧ x.agg ≤ 4 ∧ 0 ≤ x.col ∧ x.col < (a.n : Int)
  rotate_left
  · have HE2 : Hid (B = false) := by
      show _ = _
      rw [HE.out]
      by_cases h1 : 0 ≤ x.agg ∧ x.agg ≤ 4 ∧ 0 ≤ x.col
      · have : varAt x.head.args x.col.toNat = false := by
          unfold varAt
          rw [List.getElem?_eq_none (by have := Hlen.out; omega)]
        rw [this]; simp
      · rw [decide_eq_false h1]; rfl
    have hd : x.agg < 0 ∨ (¬ x.agg < 0 ∧ 4 < x.agg) ∨ (¬ x.agg < 0 ∧ ¬ 4 < x.agg ∧ x.col < 0) ∨ (¬ x.agg < 0 ∧ ¬ 4 < x.agg ∧ ¬ x.col < 0 ∧ (a.n : Int) ≤ x.col) := by omega
    clear HE hb
    rcases hd with h | ⟨h1, h⟩ | ⟨h1, h2, h⟩ | ⟨h1, h2, h3, h⟩ <;>
    · go_enter Tryz.func34, Tryz.ntmps34
      go_wp2_with fail
      go_ret
      exact ⟨by rw [HE2.out]; rfl, belowA (Below.refl _ _) _⟩
  obtain ⟨c1, c2, c3, c4⟩ := hb
  obtain ⟨k, hk⟩ : ∃ k : Nat, x.col = (k : Int) := ⟨x.col.toNat, by omega⟩
  have c5 : ¬ x.agg < 0 := by omega
  have c6 : ¬ 4 < x.agg := by omega
  have c7 : ¬ x.col < 0 := by omega
  have c8 : ¬ (a.n : Int) ≤ x.col := by omega
  have hkn : k < a.n := by omega
  obtain ⟨b, o, t, hA, hbb, ht, y0, -, -, -, -, -⟩ := HL.out.told_at hkn
  have HE2 : Hid (B = !decide (t.x.size = 0)) := by
    show _ = _
    rw [HE.out, decide_eq_true ⟨c1, c2, c3⟩, hk, Int.toNat_natCast]
    unfold varAt
    rw [ht.out]; rfl
  obtain ⟨A, n, c⟩ := a
  simp only at hA hkn c4 c8 hn
  subst hA
  rw [hk] at c3 c4 c7 c8
  have z0 := cellA (o := .cells #[.string x.head.rel, .slice (some ⟨b, o, none⟩) n c, .int .i64 x.agg, .int .i64 (k : Int), m.v, .int .i64 x.pos] 56) y0
  simp only [hk]
  clear HE HL Hlen ht hbb y0 hk c1 c2
  by_cases he : t.x.size = 0
  · have e0 : t.x.toList = [] := str_empty.2 he
    have e1 : t.x.toList.isEmpty = true := by rw [e0]; rfl
    have HE3 : Hid (B = false) := by show _ = _; rw [HE2.out, decide_eq_true he]; rfl
    clear he HE2
    dsimp only [Hd.v, ruleC]
    go_enter Tryz.func34, Tryz.ntmps34
    go_wp2_with fail
    go_ret
    exact ⟨by rw [HE3.out]; rfl, belowA (Below.refl _ _) _⟩
  · have e0 : ¬ t.x.toList = [] := fun h => he (str_empty.1 h)
    have e1 : t.x.toList.isEmpty = false := by cases hl : t.x.toList with
      | nil => exact absurd hl e0
      | cons _ _ => rfl
    have HE3 : Hid (B = true) := by show _ = _; rw [HE2.out, decide_eq_false he]; rfl
    clear he HE2
    dsimp only [Hd.v, ruleC]
    go_enter Tryz.func34, Tryz.ntmps34
    go_wp2_with fail
    go_ret
    exact ⟨by rw [HE3.out]; rfl, belowA (Below.refl _ _) _⟩

def rightRule (x : GRule) : Bool := atomB x.head && (aggB x && (decide (x.body.length ≤ 8) && x.body.all rightLit))
set_option maxRecDepth 100000 in
set_option maxHeartbeats 2000000 in
theorem rightRule_any (d : Nat) (x : GRule) (a m : Hd) (w : World) (h : RuleAt d w w.heap.size x a m) (hW : LexW w) : Calls Tryz.prog 15 #[.agg #[.string x.head.rel, a.v, .int .i64 x.agg, .int .i64 x.col, m.v, .int .i64 x.pos]] w (RetBool (rightRule x) w) := by
  obtain ⟨B, HB⟩ : ∃ B, Hid (B = rightRule x) := ⟨_, rfl⟩
  rw [← HB.out]
  have hrb : (w.alloc (.cells #[.string x.head.rel, a.v, .int .i64 x.agg, .int .i64 x.col, m.v, .int .i64 x.pos] 56)).heap[w.heap.size]? = some (.cells #[.string x.head.rel, a.v, .int .i64 x.agg, .int .i64 x.col, m.v, .int .i64 x.pos] 56 (0, 0)) := heapNew rfl
  have hba : Below w.heap.size w (w.alloc (.cells #[.string x.head.rel, a.v, .int .i64 x.agg, .int .i64 x.col, m.v, .int .i64 x.pos] 56)) := belowA (Below.refl _ _) _
  have hn := h.body.bound
  have Hlen := Lib.hid h.body.1
  have HH := Lib.hid (h.keep hba)
  have HW := Lib.hid (hW.on hba)
  clear h hW
  obtain ⟨P1, HP1⟩ : ∃ E, Hid (E = atomB x.head) := ⟨_, rfl⟩
  obtain ⟨P2, HP2⟩ : ∃ E, Hid (E = aggB x) := ⟨_, rfl⟩
  obtain ⟨P3, HP3⟩ : ∃ E, Hid (E = x.body.all rightLit) := ⟨_, rfl⟩
  have HE : Hid (B = (P1 && (P2 && (decide (x.body.length ≤ 8) && P3)))) := by show _ = _; rw [HB.out, HP1.out, HP2.out, HP3.out]; rfl
  have Hrow : Hid (∀ W, Below (w.alloc (.cells #[.string x.head.rel, a.v, .int .i64 x.agg, .int .i64 x.col, m.v, .int .i64 x.pos] 56)).heap.size (w.alloc (.cells #[.string x.head.rel, a.v, .int .i64 x.agg, .int .i64 x.col, m.v, .int .i64 x.pos] 56)) W → W.heap[w.heap.size]? = some (.cells #[.string x.head.rel, a.v, .int .i64 x.agg, .int .i64 x.col, m.v, .int .i64 x.pos] 56 (0, 0))) := fun W h => (h.block _ (Array.getElem?_eq_some_iff.1 hrb).1).trans hrb
  obtain ⟨f0_0, f0_1, f0_2, f0_3, f0_4, f0_5⟩ := facts6 hrb
  have C1 : Hid (∀ W, Below (w.alloc (.cells #[.string x.head.rel, a.v, .int .i64 x.agg, .int .i64 x.col, m.v, .int .i64 x.pos] 56)).heap.size (w.alloc (.cells #[.string x.head.rel, a.v, .int .i64 x.agg, .int .i64 x.col, m.v, .int .i64 x.pos] 56)) W → Calls Tryz.prog 33 #[.agg #[.string x.head.rel, a.v]] W (RetBool P1 W)) := fun W h => by rw [HP1.out]; exact aright_any x.head a W HH.out.rel (HH.out.args.keep h) (HW.out.on h)
  have C2 : Hid (∀ W, Below (w.alloc (.cells #[.string x.head.rel, a.v, .int .i64 x.agg, .int .i64 x.col, m.v, .int .i64 x.pos] 56)).heap.size (w.alloc (.cells #[.string x.head.rel, a.v, .int .i64 x.agg, .int .i64 x.col, m.v, .int .i64 x.pos] 56)) W → Calls Tryz.prog 34 #[.agg #[.string x.head.rel, a.v, .int .i64 x.agg, .int .i64 x.col, m.v, .int .i64 x.pos]] W (RetBool P2 W)) := fun W h => by rw [HP2.out]; exact agg_any x a m W (HH.out.args.keep h)
  have C3 : Hid (∀ W, Below (w.alloc (.cells #[.string x.head.rel, a.v, .int .i64 x.agg, .int .i64 x.col, m.v, .int .i64 x.pos] 56)).heap.size (w.alloc (.cells #[.string x.head.rel, a.v, .int .i64 x.agg, .int .i64 x.col, m.v, .int .i64 x.pos] 56)) W → Calls Tryz.prog 35 #[m.v, .func (.func 17) #[] #[]] W (RetBool P3 W)) := fun W h => by
    rw [HP3.out]
    exact everyL_any d m.A m.n m.c x.body W (HH.out.body.keep h) (fun y a p q W' hy h' => rightLit_any d y a p q W' hy ((HW.out.on h).on h'))
  clear hrb HB HP1 HP2 HP3 HH HW
  by_cases h8 : m.n ≤ 8
  · have z8 : (m.n : Int) ≤ 8 := by omega
    have HE2 : Hid (B = (P1 && (P2 && P3))) := by show _ = _; rw [HE.out, decide_eq_true (by rw [Hlen.out]; exact h8)]; rfl
    clear HE Hlen h8
    generalize hwb : (w.alloc (.cells #[.string x.head.rel, a.v, .int .i64 x.agg, .int .i64 x.col, m.v, .int .i64 x.pos] 56)) = wb at *
    have Hbw0 := Lib.hid (Below.refl wb.heap.size wb)
    go_enter Tryz.func15, Tryz.ntmps15
    go_wp2_with fail
    try simp only [hwb]
    go_wp2_with fail
    refine (C1.out _ Hbw0.out).mono ?_
    rintro e1 w1 ⟨rfl, hq1⟩
    have Hbw1 := Lib.hid (below_next Hbw0.out hq1)
    obtain ⟨f1_0, f1_1, f1_2, f1_3, f1_4, f1_5⟩ := facts6 (Hrow.out _ Hbw1.out)
    clear hq1 f0_0 f0_1 f0_2 f0_3 f0_4 f0_5
    cases P1 with
    | false =>
      go_wp2_with fail
      go_ret
      exact ⟨by rw [HE2.out]; rfl, below_next hba Hbw1.out⟩
    | true =>
      go_wp2_with fail
      refine (C2.out _ Hbw1.out).mono ?_
      rintro e2 w2 ⟨rfl, hq2⟩
      have Hbw2 := Lib.hid (below_next Hbw1.out hq2)
      obtain ⟨f2_0, f2_1, f2_2, f2_3, f2_4, f2_5⟩ := facts6 (Hrow.out _ Hbw2.out)
      clear hq2 f1_0 f1_1 f1_2 f1_3 f1_4 f1_5
      cases P2 with
      | false =>
        go_wp2_with fail
        go_ret
        exact ⟨by rw [HE2.out]; rfl, below_next hba Hbw2.out⟩
      | true =>
        go_wp2_with fail
        refine (C3.out _ Hbw2.out).mono ?_
        rintro e3 w3 ⟨rfl, hq3⟩
        have Hbw3 := Lib.hid (below_next Hbw2.out hq3)
        obtain ⟨f3_0, f3_1, f3_2, f3_3, f3_4, f3_5⟩ := facts6 (Hrow.out _ Hbw3.out)
        clear hq3 f2_0 f2_1 f2_2 f2_3 f2_4 f2_5
        cases P3 <;>
        · go_wp2_with fail
          go_ret
          exact ⟨by rw [HE2.out]; rfl, below_next hba Hbw3.out⟩
  · have z8 : ¬ (m.n : Int) ≤ 8 := by omega
    have HE2 : Hid (B = false) := by show _ = _; rw [HE.out, decide_eq_false (by rw [Hlen.out]; exact h8)]; simp
    clear HE Hlen h8 C3
    generalize hwb : (w.alloc (.cells #[.string x.head.rel, a.v, .int .i64 x.agg, .int .i64 x.col, m.v, .int .i64 x.pos] 56)) = wb at *
    have Hbw0 := Lib.hid (Below.refl wb.heap.size wb)
    go_enter Tryz.func15, Tryz.ntmps15
    go_wp2_with fail
    try simp only [hwb]
    go_wp2_with fail
    refine (C1.out _ Hbw0.out).mono ?_
    rintro e1 w1 ⟨rfl, hq1⟩
    have Hbw1 := Lib.hid (below_next Hbw0.out hq1)
    obtain ⟨f1_0, f1_1, f1_2, f1_3, f1_4, f1_5⟩ := facts6 (Hrow.out _ Hbw1.out)
    clear hq1 f0_0 f0_1 f0_2 f0_3 f0_4 f0_5
    cases P1 with
    | false =>
      go_wp2_with fail
      go_ret
      exact ⟨by rw [HE2.out]; rfl, below_next hba Hbw1.out⟩
    | true =>
      go_wp2_with fail
      refine (C2.out _ Hbw1.out).mono ?_
      rintro e2 w2 ⟨rfl, hq2⟩
      have Hbw2 := Lib.hid (below_next Hbw1.out hq2)
      obtain ⟨f2_0, f2_1, f2_2, f2_3, f2_4, f2_5⟩ := facts6 (Hrow.out _ Hbw2.out)
      clear hq2 f1_0 f1_1 f1_2 f1_3 f1_4 f1_5
      cases P2 <;>
      · go_wp2_with fail
        go_ret
        exact ⟨by rw [HE2.out]; rfl, below_next hba Hbw2.out⟩
end Go.Proofs.YtiffmiabhapfnaaGreatDoor

/- corollarylaw05.alive. -/
namespace Go.Proofs.YtiffmiabhapfnaaGreatDoor
open Go.RowKit

abbrev vC (s : ByteArray) : List Value := [.int .i64 0, .string s, .int .i64 0, .int .i64 0, .string ⟨#[]⟩, .slice none 0 0]
def VPost (s : ByteArray) (w : World) (r : Ending) (w' : World) : Prop := r = .returned (.agg (vC s).toArray) ∧ w' = w.alloc (.cells (vC s).toArray 29)
set_option maxRecDepth 100000 in
theorem v_any (s : ByteArray) (w : World) : Calls Tryz.prog 23 #[.string s] w (VPost s w) := by
  have hrb : (w.alloc (.cells (vC s).toArray 29)).heap[w.heap.size]? = some (.cells (vC s).toArray 29 (0, 0)) := heapNew rfl
  obtain ⟨b0, b1, b2, b3, b4, b5⟩ := facts6 hrb
  clear hrb
  go_enter Tryz.func23, Tryz.ntmps23
  go_wp2_with fail
  refine bodyPost_ret (v := .agg (vC s).toArray) ?_ rfl ⟨rfl, rfl⟩
  simp [results, Tryz.results23, go_sem]

abbrev bX : ByteArray := ⟨#[88]⟩
abbrev bY : ByteArray := ⟨#[89]⟩
abbrev bZ : ByteArray := ⟨#[90]⟩
abbrev tv (s : ByteArray) : GTold := ⟨s, gv0⟩
abbrev xExp (s : ByteArray) : GExp := .mk 0 (tv s) []
abbrev alLit1 : GLit := ⟨1, ⟨⟨#[113]⟩, [tv bY, tv bZ]⟩, 0, .mk 0 zT [], .mk 0 zT [], 0⟩
abbrev alLit2 : GLit := ⟨3, ⟨⟨#[]⟩, []⟩, 1, xExp bX, xExp bZ, 0⟩
abbrev alRule : GRule := ⟨⟨⟨#[112]⟩, [tv bX, tv bY]⟩, 0, 0, [alLit1, alLit2], 0⟩
abbrev zRule : GRule := ⟨⟨⟨#[]⟩, []⟩, 0, 0, [], 0⟩
abbrev hN : Hd := ⟨none, 0, 0⟩
abbrev hd2 (b : Nat) : Hd := ⟨some ⟨b, 0, none⟩, 2, 2⟩
abbrev tC (s : ByteArray) : List Value := [.string s, .int .i64 0, .int .i64 0, .string ⟨#[]⟩]
def alF (n0 i : Nat) (v : Value) (W : World) : Prop := match i with
  | 0 => v = .agg (tC bX).toArray
  | 1 => v = .agg (tC bY).toArray
  | 2 => ∃ b, v = (hd2 b).v ∧ W.heap[b]? = some (.cells (tC bX ++ tC bY).toArray 26 (0, 0))
  | 3 => ∃ b, v = .agg #[.string ⟨#[112]⟩, (hd2 b).v] ∧ W.heap[b]? = some (.cells (tC bX ++ tC bY).toArray 26 (0, 0))
  | 4 => v = .agg (tC bY).toArray
  | 5 => v = .agg (tC bZ).toArray
  | 6 => ∃ b, v = (hd2 b).v ∧ W.heap[b]? = some (.cells (tC bY ++ tC bZ).toArray 26 (0, 0))
  | 7 => ∃ b, v = .agg #[.string ⟨#[113]⟩, (hd2 b).v] ∧ W.heap[b]? = some (.cells (tC bY ++ tC bZ).toArray 26 (0, 0))
  | 8 => ∃ b, v = .agg (litC alLit1 (hd2 b) hN hN).toArray ∧ W.heap[b]? = some (.cells (tC bY ++ tC bZ).toArray 26 (0, 0))
  | 9 => v = .agg (vC bX).toArray
  | 10 => v = .agg (vC bZ).toArray
  | 11 => v = .agg (litC alLit2 hN hN hN).toArray
  | 12 => ∃ b b', v = (hd2 b').v ∧ W.heap[b]? = some (.cells (tC bY ++ tC bZ).toArray 26 (0, 0)) ∧ W.heap[b']? = some (.cells (litC alLit1 (hd2 b) hN hN ++ litC alLit2 hN hN hN).toArray 63 (0, 0))
  | 13 => ∃ a b b', v = .agg (ruleC alRule (hd2 a) (hd2 b')).toArray ∧ W.heap[a]? = some (.cells (tC bX ++ tC bY).toArray 26 (0, 0)) ∧ W.heap[b]? = some (.cells (tC bY ++ tC bZ).toArray 26 (0, 0)) ∧ W.heap[b']? = some (.cells (litC alLit1 (hd2 b) hN hN ++ litC alLit2 hN hN hN).toArray 63 (0, 0))
  | 14 => ∃ (b : Nat) (cs : List Value), v = .pointer (some ⟨b, 0, none⟩) ∧ n0 ≤ b ∧ cs.length = 6 ∧ W.heap[b]? = some (.cells cs.toArray 56 (0, 0))
  | _ => True
theorem leaf_one (o : Int) (t : GTold) : leavesE (.mk o t []) = [t] := leavesE_nil rfl
theorem al_vars : putL [] (ruleT alRule) = [bX, bY, bZ] := by
  have hz : zT.x = (⟨#[]⟩ : ByteArray) := rfl
  have hX : ((⟨#[88]⟩ : ByteArray)).toList = [88] := toList_mk _
  have hY : ((⟨#[89]⟩ : ByteArray)).toList = [89] := toList_mk _
  have hZ : ((⟨#[90]⟩ : ByteArray)).toList = [90] := toList_mk _
  have h0 : ((⟨#[]⟩ : ByteArray)).toList = [] := toList_mk _
  have n1 : ¬ (⟨#[89]⟩ : ByteArray) = ⟨#[88]⟩ := by decide
  have n2 : ¬ (⟨#[90]⟩ : ByteArray) = ⟨#[88]⟩ := by decide
  have n3 : ¬ (⟨#[90]⟩ : ByteArray) = ⟨#[89]⟩ := by decide
  simp [ruleT, insideL, leaf_one, putL, put1, hz, hX, hY, hZ, h0, n1, n2, n3]
theorem al_rule : rightRule alRule = true := by kernel_rfl
theorem al_X : singleB 3 ⟨#[88]⟩ = true := by kernel_rfl
theorem al_x : singleB 3 ⟨#[120]⟩ = false := by kernel_rfl
instance (n : Int) : Decidable (fits n) := inferInstanceAs (Decidable (_ = true))
theorem tv_ok (s : ByteArray) (w : World) (B : Nat) (hs : s.size ≤ 1) : Enc.told.ok w B (GTold.cells (tv s)) (tv s) := ⟨rfl, by simp [reachN]; omega, GV.ok_zero⟩
theorem al_two {w : World} {g : Nat} {s t : ByteArray} (h : w.heap[g]? = some (.cells (tC s ++ tC t).toArray 26 (0, 0))) (hs : s.size ≤ 1) (ht : t.size ≤ 1) : SliceIs Enc.told w w.heap.size (hd2 g).A (hd2 g).n (hd2 g).c [tv s, tv t] :=
  SliceIs.of_block (E := Enc.told) GTold.cells (fun _ => rfl) h rfl (by simp [reachN]) (fun x hx => by
    simp at hx
    rcases hx with rfl | rfl
    · exact tv_ok _ _ _ hs
    · exact tv_ok _ _ _ ht)
theorem al_lits {w : World} {b b' : Nat} (h : w.heap[b']? = some (.cells (litC alLit1 (hd2 b) hN hN ++ litC alLit2 hN hN hN).toArray 63 (0, 0))) (hb : SliceIs Enc.told w w.heap.size (hd2 b).A (hd2 b).n (hd2 b).c [tv bY, tv bZ]) :
    SliceIs (Enc.lit 1) w w.heap.size (hd2 b').A (hd2 b').n (hd2 b').c [alLit1, alLit2] :=
  SliceIs.of_block (E := Enc.lit 1) (fun x => if x.k = 1 then litC x (hd2 b) hN hN else litC x hN hN hN) (fun x => by split <;> rfl) h (by simp) (by simp [reachN]) (fun x hx => by
    simp at hx
    rcases hx with rfl | rfl
    · refine ⟨hd2 b, hN, hN, by simp, ⟨by decide, by decide, by decide, by decide, hb, by decide, by decide, GV.ok_zero, SliceIs.nil, by decide, by decide, GV.ok_zero, SliceIs.nil⟩⟩
    · refine ⟨hN, hN, hN, by simp, ⟨by decide, by decide, by decide, by decide, SliceIs.nil, by decide, by decide, GV.ok_zero, SliceIs.nil, by decide, by decide, GV.ok_zero, SliceIs.nil⟩⟩)
theorem alF_keep {n0 i : Nat} {v : Value} {w w' : World} (hF : alF n0 i v w) (hb : Below w.heap.size w w') : alF n0 i v w' := by
  have hB : ∀ (g : Nat) (cs : Array Value) (t : TypeId), w.heap[g]? = some (.cells cs t (0, 0)) → w'.heap[g]? = some (.cells cs t (0, 0)) := fun g cs t h => (hb.block g (Array.getElem?_eq_some_iff.1 h).1).trans h
  match i, hF with
  | 0, h => exact h
  | 1, h => exact h
  | 2, ⟨b, h, h1⟩ => exact ⟨b, h, hB _ _ _ h1⟩
  | 3, ⟨b, h, h1⟩ => exact ⟨b, h, hB _ _ _ h1⟩
  | 4, h => exact h
  | 5, h => exact h
  | 6, ⟨b, h, h1⟩ => exact ⟨b, h, hB _ _ _ h1⟩
  | 7, ⟨b, h, h1⟩ => exact ⟨b, h, hB _ _ _ h1⟩
  | 8, ⟨b, h, h1⟩ => exact ⟨b, h, hB _ _ _ h1⟩
  | 9, h => exact h
  | 10, h => exact h
  | 11, h => exact h
  | 12, ⟨a, b, h, h1, hd2⟩ => exact ⟨a, b, h, hB _ _ _ h1, hB _ _ _ hd2⟩
  | 13, ⟨a, b, c, h, h1, hd2, h3⟩ => exact ⟨a, b, c, h, hB _ _ _ h1, hB _ _ _ hd2, hB _ _ _ h3⟩
  | 14, ⟨a, cs, h, h0, h1, hd2⟩ => exact ⟨a, cs, h, h0, h1, hB _ _ _ hd2⟩
  | n + 15, _ => exact trivial
/-- what the boxes of the three variables hold -/
structure AlG (w wb W : World) : Prop where
  x : W.heap[w.heap.size]? = some (.cells (tC bX).toArray 26 (0, 0))
  y : W.heap[w.heap.size + 1]? = some (.cells (tC bY).toArray 26 (0, 0))
  z : W.heap[w.heap.size + 2]? = some (.cells (tC bZ).toArray 26 (0, 0))
  below : Below w.heap.size w W
  len : w.heap.size + 3 ≤ W.heap.size
theorem AlG.keep {w wb W W' : World} (h : AlG w wb W) (hb : Below W.heap.size W W') : AlG w wb W' :=
  ⟨(hb.block _ (Array.getElem?_eq_some_iff.1 h.x).1).trans h.x, (hb.block _ (Array.getElem?_eq_some_iff.1 h.y).1).trans h.y, (hb.block _ (Array.getElem?_eq_some_iff.1 h.z).1).trans h.z, below_next h.below hb, Nat.le_trans h.len hb.size⟩
theorem term_size (s : ByteArray) : (Tryz.prog.info? 26).map (·.size) = some (tC s).length := by
  show _ = some 4
  kernel_rfl
set_option maxRecDepth 100000 in
set_option maxHeartbeats 40000000 in
theorem alive_any (w : World) (hW : LexW w) : Calls Tryz.prog 6 #[] w (RetBool true w) := by
  have mixed : Tryz.prog.follows .mixedOrders = true := by kernel_rfl
  have x0 : ((((w.alloc (.cells (tC bX).toArray 26)).alloc (.cells (tC bY).toArray 26)).alloc (.cells (tC bZ).toArray 26))).heap[w.heap.size]? = some (.cells (tC bX).toArray 26 (0, 0)) := heapOld (heapOld (heapNew rfl))
  have x1 : ((((w.alloc (.cells (tC bX).toArray 26)).alloc (.cells (tC bY).toArray 26)).alloc (.cells (tC bZ).toArray 26))).heap[w.heap.size + 1]? = some (.cells (tC bY).toArray 26 (0, 0)) := heapOld (heapNew (by simp))
  have x2 : ((((w.alloc (.cells (tC bX).toArray 26)).alloc (.cells (tC bY).toArray 26)).alloc (.cells (tC bZ).toArray 26))).heap[w.heap.size + 2]? = some (.cells (tC bZ).toArray 26 (0, 0)) := heapNew (by simp)
  have hbb : Below w.heap.size w (((w.alloc (.cells (tC bX).toArray 26)).alloc (.cells (tC bY).toArray 26)).alloc (.cells (tC bZ).toArray 26)) := belowA (belowA (belowA (Below.refl _ _) _) _) _
  have hzz : w.heap.size + 3 ≤ (((w.alloc (.cells (tC bX).toArray 26)).alloc (.cells (tC bY).toArray 26)).alloc (.cells (tC bZ).toArray 26)).heap.size := by simp
  go_enter Tryz.func6, Tryz.ntmps6
  go_wp2_with fail
  generalize hwb : ((w.alloc _).alloc _).alloc _ = wb
  rw [hwb] at x0 x1 x2 hbb hzz
  have HG := Lib.hid (show AlG w wb wb from ⟨x0, x1, x2, hbb, hzz⟩)
  clear hwb x0 x1 x2 hbb hzz
  refine drawn mixed 15 37 (fun _ W => AlG w wb W) (alF w.heap.size) (fun _ W W' => Below W.heap.size W W') rfl (by kernel_rfl) rfl (fun j _ => HG.out.keep (below_drewN _ 1 _)) (fun _ _ _ _ _ _ _ _ h h' => alF_keep h h') (fun _ _ _ _ _ _ _ _ h h' => h.keep h') ?_ ?_
  · intro i o a' W hi ho hd hold hG _ hw
    have hr1 : a'.tmps[1]? = some (.pointer (some ⟨w.heap.size, 0, none⟩)) := hold 1 (by kernel_rfl)
    have hr2 : a'.tmps[2]? = some (.pointer (some ⟨w.heap.size + 1, 0, none⟩)) := hold 2 (by kernel_rfl)
    have hr3 : a'.tmps[3]? = some (.pointer (some ⟨w.heap.size + 1 + 1, 0, none⟩)) := hold 3 (by kernel_rfl)
    clear hold
    match i, hi, ho with
    | 0, _, ho =>
      injection ho with ho; subst ho
      exact wp_load_mid 26 (.tmp 1) rfl _ _ (eval_tmp hr1) (tC bX) _ (range_row hG.x) Tryz.underlying26 rfl (term_size bX) ⟨_, rfl, Below.refl _ _, rfl⟩
    | 1, _, ho =>
      injection ho with ho; subst ho
      exact wp_load_mid 26 (.tmp 2) rfl _ _ (eval_tmp hr2) (tC bY) _ (range_row hG.y) Tryz.underlying26 rfl (term_size bY) ⟨_, rfl, Below.refl _ _, rfl⟩
    | 2, _, ho =>
      injection ho with ho; subst ho
      obtain ⟨v0, h0, e0⟩ := hw 0 8 (by kernel_rfl)
      obtain ⟨v1, h1, e1⟩ := hw 1 9 (by kernel_rfl)
      obtain rfl : v0 = .agg (tC bX).toArray := e0
      obtain rfl : v1 = .agg (tC bY).toArray := e1
      exact op_bslice 51 26 2 _ rfl 4 [.agg (tC bX).toArray, .agg (tC bY).toArray] Tryz.underlying51 (by kernel_rfl) (by decide) rfl (by decide) (by decide) (by simp [Act.eval, h0, h1]) (fun v hv => by simp at hv; rcases hv with rfl | rfl <;> rfl) ⟨_, rfl, belowA (Below.refl _ _) _, _, rfl, heapNew rfl⟩
    | 3, _, ho =>
      injection ho with ho; subst ho
      obtain ⟨v0, h0, b, e0, hb⟩ := hw 2 10 (by kernel_rfl)
      obtain rfl : v0 = (hd2 b).v := e0
      exact op_build 53 _ rfl [(0, .string ⟨#[112]⟩), (1, (hd2 b).v)] #[.string ⟨#[112]⟩, (hd2 b).v] (by simp [Act.eval, h0]) (by kernel_rfl) ⟨_, rfl, Below.refl _ _, _, rfl, hb⟩
    | 4, _, ho =>
      injection ho with ho; subst ho
      exact wp_load_mid 26 (.tmp 2) rfl _ _ (eval_tmp hr2) (tC bY) _ (range_row hG.y) Tryz.underlying26 rfl (term_size bY) ⟨_, rfl, Below.refl _ _, rfl⟩
    | 5, _, ho =>
      injection ho with ho; subst ho
      exact wp_load_mid 26 (.tmp 3) rfl _ _ (eval_tmp hr3) (tC bZ) _ (range_row hG.z) Tryz.underlying26 rfl (term_size bZ) ⟨_, rfl, Below.refl _ _, rfl⟩
    | 6, _, ho =>
      injection ho with ho; subst ho
      obtain ⟨v0, h0, e0⟩ := hw 4 12 (by kernel_rfl)
      obtain ⟨v1, h1, e1⟩ := hw 5 13 (by kernel_rfl)
      obtain rfl : v0 = .agg (tC bY).toArray := e0
      obtain rfl : v1 = .agg (tC bZ).toArray := e1
      exact op_bslice 51 26 2 _ rfl 4 [.agg (tC bY).toArray, .agg (tC bZ).toArray] Tryz.underlying51 (by kernel_rfl) (by decide) rfl (by decide) (by decide) (by simp [Act.eval, h0, h1]) (fun v hv => by simp at hv; rcases hv with rfl | rfl <;> rfl) ⟨_, rfl, belowA (Below.refl _ _) _, _, rfl, heapNew rfl⟩
    | 7, _, ho =>
      injection ho with ho; subst ho
      obtain ⟨v0, h0, b, e0, hb⟩ := hw 6 14 (by kernel_rfl)
      obtain rfl : v0 = (hd2 b).v := e0
      exact op_build 53 _ rfl [(0, .string ⟨#[113]⟩), (1, (hd2 b).v)] #[.string ⟨#[113]⟩, (hd2 b).v] (by simp [Act.eval, h0]) (by kernel_rfl) ⟨_, rfl, Below.refl _ _, _, rfl, hb⟩
    | 8, _, ho =>
      injection ho with ho; subst ho
      obtain ⟨v0, h0, b, e0, hb⟩ := hw 7 15 (by kernel_rfl)
      obtain rfl : v0 = .agg #[.string ⟨#[113]⟩, (hd2 b).v] := e0
      exact op_build 63 _ rfl [(0, .int .i64 1), (1, .agg #[.string ⟨#[113]⟩, (hd2 b).v])] (litC alLit1 (hd2 b) hN hN).toArray (by simp [Act.eval, h0]) (by kernel_rfl) ⟨_, rfl, Below.refl _ _, _, rfl, hb⟩
    | 9, _, ho =>
      injection ho with ho; subst ho
      refine op_call 23 _ rfl rfl #[.string bX] (by simp [Act.eval]) _ Tryz.func23 (by kernel_rfl) (by kernel_rfl) ((v_any bX _).mono ?_)
      rintro e w1 ⟨rfl, rfl⟩
      exact ⟨_, rfl, _, rfl, belowA (Below.refl _ _) _, rfl⟩
    | 10, _, ho =>
      injection ho with ho; subst ho
      refine op_call 23 _ rfl rfl #[.string bZ] (by simp [Act.eval]) _ Tryz.func23 (by kernel_rfl) (by kernel_rfl) ((v_any bZ _).mono ?_)
      rintro e w1 ⟨rfl, rfl⟩
      exact ⟨_, rfl, _, rfl, belowA (Below.refl _ _) _, rfl⟩
    | 11, _, ho =>
      injection ho with ho; subst ho
      obtain ⟨v0, h0, e0⟩ := hw 9 17 (by kernel_rfl)
      obtain ⟨v1, h1, e1⟩ := hw 10 18 (by kernel_rfl)
      obtain rfl : v0 = .agg (vC bX).toArray := e0
      obtain rfl : v1 = .agg (vC bZ).toArray := e1
      exact op_build 63 _ rfl [(0, .int .i64 3), (2, .int .i64 1), (3, .agg (vC bX).toArray), (4, .agg (vC bZ).toArray)] (litC alLit2 hN hN hN).toArray (by simp [Act.eval, h0, h1]) (by kernel_rfl) ⟨_, rfl, Below.refl _ _, rfl⟩
    | 12, _, ho =>
      injection ho with ho; subst ho
      obtain ⟨v0, h0, b, e0, hb⟩ := hw 8 16 (by kernel_rfl)
      obtain ⟨v1, h1, e1⟩ := hw 11 19 (by kernel_rfl)
      obtain rfl : v0 = .agg (litC alLit1 (hd2 b) hN hN).toArray := e0
      obtain rfl : v1 = .agg (litC alLit2 hN hN hN).toArray := e1
      exact op_bslice 54 63 2 _ rfl 17 [.agg (litC alLit1 (hd2 b) hN hN).toArray, .agg (litC alLit2 hN hN hN).toArray] Tryz.underlying54 (by kernel_rfl) (by decide) rfl (by decide) (by decide) (by simp [Act.eval, h0, h1]) (fun v hv => by simp at hv; rcases hv with rfl | rfl <;> rfl) ⟨_, rfl, belowA (Below.refl _ _) _, _, _, rfl, heapOld hb, heapNew rfl⟩
    | 13, _, ho =>
      injection ho with ho; subst ho
      obtain ⟨v0, h0, a, e0, ha⟩ := hw 3 11 (by kernel_rfl)
      obtain ⟨v1, h1, b, b', e1, hb, hb'⟩ := hw 12 20 (by kernel_rfl)
      obtain rfl : v0 = .agg #[.string ⟨#[112]⟩, (hd2 a).v] := e0
      obtain rfl : v1 = (hd2 b').v := e1
      exact op_build 56 _ rfl [(0, .agg #[.string ⟨#[112]⟩, (hd2 a).v]), (3, (hd2 b').v)] (ruleC alRule (hd2 a) (hd2 b')).toArray (by simp [Act.eval, h0, h1]) (by kernel_rfl) ⟨_, rfl, Below.refl _ _, _, _, _, rfl, ha, hb, hb'⟩
    | 14, _, ho =>
      injection ho with ho; subst ho
      exact op_alloc 56 rfl (ruleC zRule hN hN).toArray 6 (by kernel_rfl) ⟨_, rfl, belowA (Below.refl _ _) _, _, (ruleC zRule hN hN), rfl, hG.below.size, rfl, heapNew rfl⟩
    | n + 15, hi, ho => omega
  · intro o a' W ho hd hs hold hG hw
    obtain ⟨v0, h0, a, b, b', e0, ha, hb, hb'⟩ := hw 13 21 (by decide) (by kernel_rfl)
    obtain ⟨v1, h1, g, cs, e1, hgn, hcs, hg⟩ := hw 14 4 (by decide) (by kernel_rfl)
    obtain rfl : v0 = _ := e0
    obtain rfl : v1 = _ := e1
    clear hw hold
    injection ho with ho; subst ho
    refine wp_store_row 56 (.tmp 4) (.tmp 21) rfl g (ruleC alRule (hd2 a) (hd2 b')).toArray (eval_tmp h1) (eval_tmp h0) 56 cs.toArray hg (by kernel_rfl) (by simp [hcs]) (by simp [Value.oneCell']) ?_
    have ng : ∀ x : Nat, ∀ (c : Array Value) (t : TypeId), W.heap[x]? = some (.cells c t (0, 0)) → t ≠ 56 → (W.setRow g (ruleC alRule (hd2 a) (hd2 b')).toArray).heap[x]? = some (.cells c t (0, 0)) := fun x c t hx ht => by
      refine (setRow_ne (fun e => ?_)).trans hx
      subst e
      rw [hg] at hx
      injection hx with hx
      injection hx with _ h3 _
      exact ht h3.symm
    have ha := ng _ _ _ ha (by decide)
    have hb := ng _ _ _ hb (by decide)
    have hb' := ng _ _ _ hb' (by decide)
    have hg := setRow_at (cs' := (ruleC alRule (hd2 a) (hd2 b')).toArray) hg
    obtain ⟨f, hf, hf2⟩ := act_lit 37 hs hd
    have f4 := hf2 _ _ h1
    have hrep : Hid ((List.range 37).map f = [f 0, f 1, f 2, f 3, f 4, f 5, f 6, f 7, f 8, f 9, f 10, f 11, f 12, f 13, f 14, f 15, f 16, f 17, f 18, f 19, f 20, f 21, f 22, f 23, f 24, f 25, f 26, f 27, f 28, f 29, f 30, f 31, f 32, f 33, f 34, f 35, f 36]) := rfl
    rw [hrep.out, f4] at hf
    subst hf
    clear hf2 hrep h1 h0 f4 hs hd
    have hbW : Below w.heap.size w (W.setRow g (ruleC alRule (hd2 a) (hd2 b')).toArray) := ⟨hG.below.os, hG.below.tape, hG.below.output, by rw [setRow_size]; exact hG.below.size, fun x hx => (setRow_ne (by omega)).trans (hG.below.block x hx)⟩
    clear hG ng hcs hgn HG
    generalize W.setRow g _ = W2 at *
    have HX := Lib.hid (show RuleAt 1 W2 W2.heap.size alRule (hd2 a) (hd2 b') from ⟨by decide, al_two ha (by decide) (by decide), by decide, by decide, al_lits hb' (al_two hb (by decide) (by decide)), by decide⟩)
    have HWx := Lib.hid (fun (W : World) (h : Below w.heap.size w W) => hW.on h)
    obtain ⟨c0, c1, c2, c3, c4, c5⟩ := facts6 hg
    clear hW ha hb hb'
    simp only [Act.put]
    go_wp2_with fail
    refine (vars_any 1 alRule (hd2 a) (hd2 b') W2 HX.out (by simp [ruleT, insideL, leaf_one])).mono ?_
    rintro e W3 ⟨A3, d3, rfl, ho3, hb3⟩
    rw [al_vars] at ho3
    have hS3 := TextsPost.is ho3 (by decide) (by intro s hs; simp at hs; rcases hs with rfl | rfl | rfl <;> decide)
    have HX3 := Lib.hid (HX.out.keep hb3)
    have hgW3 := (hb3.block _ (Array.getElem?_eq_some_iff.1 hg).1).trans hg
    have hbW3 := below_next hbW hb3
    clear ho3 hb3 HX hg hbW c0 c1 c2 c3 c4 c5
    rw [al_vars]
    simp only [List.length_cons, List.length_nil, Nat.reduceAdd]
    have hL : SliceIs Enc.str (W3.alloc (.cells #[.string bX, .string bY, .string bZ] 9)) (W3.alloc (.cells #[.string bX, .string bY, .string bZ] 9)).heap.size (some ⟨W3.heap.size, 0, none⟩) 3 3 [bX, bY, bZ] :=
      SliceIs.of_block (E := Enc.str) strC (fun _ => rfl) (heapNew (o := .cells #[.string bX, .string bY, .string bZ] 9) rfl) rfl (by simp [reachN]) (fun s hs => ⟨rfl, by simp at hs; rcases hs with rfl | rfl | rfl <;> decide⟩)
    have hbA : Below W3.heap.size W3 (W3.alloc (.cells #[.string bX, .string bY, .string bZ] 9)) := belowA (Below.refl _ _) _
    have HT := Lib.hid (texts_eq A3 (some ⟨W3.heap.size, 0, none⟩) 3 3 d3 3 _ _ (hS3.mono' hbA.size (Kept.of hbA.block)) hL)
    have hgA := (hbA.block _ (Array.getElem?_eq_some_iff.1 hgW3).1).trans hgW3
    have HXA := Lib.hid (HX3.out.keep hbA)
    have hbWA := below_next hbW3 hbA
    clear hS3 HX3 hgW3 hbW3 hL hbA
    go_wp2_with fail
    refine HT.out.mono ?_
    rintro e W4 ⟨rfl, hb4⟩
    have hg4 := (hb4.block _ (Array.getElem?_eq_some_iff.1 hgA).1).trans hgA
    have HX4 := Lib.hid (HXA.out.keep hb4)
    have hbW4 := below_next hbWA hb4
    obtain ⟨c0, c1, c2, c3, c4, c5⟩ := facts6 hg4
    clear hgA HXA hbWA hb4 HT hg4
    go_wp2_with fail
    refine (rightRule_any 1 alRule (hd2 a) (hd2 b') W4 HX4.out (HWx.out _ hbW4)).mono ?_
    rintro e W5 ⟨rfl, hb5⟩
    have hbW5 := below_next hbW4 hb5
    rw [al_rule]
    clear HX4 hbW4 hb5 c0 c1 c2 c3 c4 c5
    go_wp2_with fail
    refine (variable_any ⟨#[88]⟩ (by decide) W5 (HWx.out _ hbW5)).mono ?_
    rintro e W6 ⟨rfl, hb6⟩
    have hbW6 := below_next hbW5 hb6
    rw [al_X]
    clear hbW5 hb6
    go_wp2_with fail
    refine (variable_any ⟨#[120]⟩ (by decide) W6 (HWx.out _ hbW6)).mono ?_
    rintro e W7 ⟨rfl, hb7⟩
    have hbW7 := below_next hbW6 hb7
    rw [al_x]
    clear hbW6 hb7
    go_wp2_with fail
    go_ret
    exact ⟨rfl, hbW7⟩
end Go.Proofs.YtiffmiabhapfnaaGreatDoor

/- TermTerms: the walk. -/
namespace Go.Proofs.YtiffmiabhapfnaaGreatDoor
open Go.RowKit Go.Shelf
attribute [local go_sem] Oper.semAt_some

theorem run_neq_term (x : GTold) (w : World) : (binOp .neq 34 (.agg #[.string x.x, .int .i64 x.v.k, .int .i64 x.v.n, .string x.v.s]) (.agg #[.string x.x, .int .i64 x.v.k, .int .i64 x.v.n, .string x.v.s])).run Tryz.prog w = .ok (.bool false) w := by
  rw [run_neq_struct, run_equalIn_agg (ht := by kernel_rfl) (hp := by kernel_rfl)]
  simp [go_sem]
theorem stop10 (x : Int) : ∃ k : Nat, 1 ≤ k ∧ k ≤ 10 ∧ wrap64 (1 + wrap64 ((IntKind.u64.wrap x).tmod 10)) = (k : Int) := by
  have h0 : 0 ≤ IntKind.u64.wrap x := by simp [IntKind.wrap, IntKind.signed, IntKind.bits]; omega
  rw [Int.tmod_eq_emod_of_nonneg h0]
  generalize IntKind.u64.wrap x = q at h0
  refine ⟨(1 + q % 10).toNat, by omega, by omega, ?_⟩
  unfold wrap64; omega
theorem told5_own {w : World} {base : Nat} {A : Option Addr} {n c : Nat} {l : List GTold} (h : w.ownsRow base 34 4 (.slice A n c) n (l.flatMap GTold.cells)) (hl : l.length = n) (hn : n ≤ 1000000) (hok : ∀ t ∈ l, t.x.size ≤ reachN ∧ t.v.ok) : SliceIs Enc.told w w.heap.size A n c l :=
  SliceIs.of_flat (E := Enc.told) GTold.cells (fun _ => rfl) h hl (by simp [reachN]; omega) (fun q hq => ⟨rfl, hok q hq⟩)

set_option maxRecDepth 100000 in
set_option maxHeartbeats 4000000 in
theorem termTerms_walk (d : Nat) (e : GExp) (A : Option Addr) (n c : Nat) (s : ByteArray) (stop : Int) (w : World) (hk : SliceIs (Enc.exp d) w w.heap.size A n c e.kids) (hop : fits e.op) (hx : e.t.x.size ≤ reachN) (hv : e.t.v.ok) (hs : s.size ≤ 140737488351232) (hW : LexW w) :
    Calls Tryz.prog 3 #[expV e A n c, .string s, .int .i64 stop] w (RetBool true w) := by
  have HA := Lib.hid (fun (W : World) (hb : Below w.heap.size w W) => alive_any W (hW.on hb))
  have HVar := Lib.hid (fun (W : World) (hb : Below w.heap.size w W) => variable_any s hs W (hW.on hb))
  have HRVar := Lib.hid (fun (W : World) => refVariable_any s W)
  have HK := Lib.hid (fun (W : World) (hb : Below w.heap.size w W) => hk.keep hb)
  have HK0 := Lib.hid hk
  have HLok := Lib.hid (leaves_ok d e A n c w w.heap.size hk hx hv)
  have Hop := Lib.hid hop
  have Hx := Lib.hid hx
  have Hv := Lib.hid hv
  have hvs : e.t.v.s.size ≤ reachN := hv.2.2
  have hsz := Lib.hid (fun W h => exp_any d e A n c 500 W h hx hvs (by decide) (by decide))
  have hn := hk.bound
  clear hW hk hop hx hv hvs
  refine (callsIn_wide (n := 8)).1 ?_
  refine callsIn_of_wp_marks Tryz.func3 rfl trivial ?_ rfl
  simp only [Tryz.ntmps3, List.size_toArray, List.length_cons, List.length_nil, Nat.reduceAdd, Nat.reduceSub, Array.replicate_succ, Array.replicate_zero, List.push_toArray, List.append_toArray, List.nil_append, List.cons_append]
  refine wpIn_wide.2 ?_
  have hb1 : Below w.heap.size w (((w.alloc (.cells (expC e A n c).toArray 29)).alloc (.cells #[.int .i64 stop] 3)).alloc (.cells #[.bool false] 4)) := belowA (belowA (belowA (Below.refl _ _) _) _) _
  have hr0 : (((w.alloc (.cells (expC e A n c).toArray 29)).alloc (.cells #[.int .i64 stop] 3)).alloc (.cells #[.bool false] 4)).heap[w.heap.size]? = some (.cells (expC e A n c).toArray 29 (0, 0)) := heapOld (heapOld (heapNew rfl))
  have hr1 : (((w.alloc (.cells (expC e A n c).toArray 29)).alloc (.cells #[.int .i64 stop] 3)).alloc (.cells #[.bool false] 4)).heap[w.heap.size + 1]? = some (.cells #[.int .i64 stop] 3 (0, 0)) := heapOld (heapNew (by simp))
  have hr2 : (((w.alloc (.cells (expC e A n c).toArray 29)).alloc (.cells #[.int .i64 stop] 3)).alloc (.cells #[.bool false] 4)).heap[w.heap.size + 1 + 1]? = some (.cells #[.bool false] 4 (0, 0)) := heapNew (by simp)
  go_wp2_with fail
  generalize hw1 : ((w.alloc _).alloc _).alloc _ = w1
  rw [hw1] at hb1 hr0 hr1 hr2
  clear hw1
  refine (HA.out w1 hb1).mono ?_
  rintro r w2 ⟨rfl, hb2⟩
  replace hr0 := (hb2.block _ (Array.getElem?_eq_some_iff.1 hr0).1).trans hr0
  replace hr1 := (hb2.block _ (Array.getElem?_eq_some_iff.1 hr1).1).trans hr1
  replace hr2 := (hb2.block _ (Array.getElem?_eq_some_iff.1 hr2).1).trans hr2
  replace hb1 := below_next hb1 hb2
  obtain ⟨c0, c1, c2, c3, c4, c5⟩ := facts6 hr0
  have HSz := Lib.hid (hsz.out w2 (HK.out w2 hb1))
  clear hb2 HA hsz
  go_wp2_with fail
  refine HSz.out.mono ?_
  rintro r w3 ⟨rfl, hb3⟩
  replace hr0 := (hb3.block _ (Array.getElem?_eq_some_iff.1 hr0).1).trans hr0
  replace hr1 := (hb3.block _ (Array.getElem?_eq_some_iff.1 hr1).1).trans hr1
  replace hr2 := (hb3.block _ (Array.getElem?_eq_some_iff.1 hr2).1).trans hr2
  replace hb1 := below_next hb1 hb3
  clear hb3 HSz c0 c1 c2 c3 c4 c5
  obtain ⟨c0, c1, c2, c3, c4, c5⟩ := facts6 hr0
  have cr : w3.cell? ⟨w.heap.size + 1 + 1, 0, none⟩ = some (.bool false) := (cell_of_row _ _ 0 _ _ _ hr2).trans rfl
  have cf : w3.frozen? ⟨w.heap.size + 1 + 1, 0, none⟩ = false := frozen_of_row _ _ _ _ _ hr2
  by_cases hneg : szE e 500 < 0
  · go_wp2_with fail
    exact ⟨.bool true, by simp [results, Tryz.results3, go_sem, cr], rfl, hb1.setCell (by show w.heap.size ≤ w.heap.size + 1 + 1; omega) _⟩
  by_cases hs5 : 500 < s.size
  · have z0 : (500 : Int) < (s.size : Int) := by omega
    go_wp2_with fail
    exact ⟨.bool true, by simp [results, Tryz.results3, go_sem, cr], rfl, hb1.setCell (by show w.heap.size ≤ w.heap.size + 1 + 1; omega) _⟩
  have z0 : ¬ (500 : Int) < (s.size : Int) := by omega
  have HSm : Hid (Sm e) := Sm.of (l := 500) (by omega) (by decide)
  have HCp := Lib.hid (copyExp_any d e A n c w3 (HK.out w3 hb1) HSm.out Hop.out Hx.out Hv.out)
  have hrz := (Array.getElem?_eq_some_iff.1 hr2).1
  clear cr cf
  go_wp2_with fail
  refine HCp.out.mono ?_
  rintro r w4 ⟨A4, c4', rfl, hs4, hb4⟩
  have HRT := Lib.hid (refTerms_any w4.heap.size d e A4 e.kids.length c4' none 0 0 [] w4 hs4.is (Nat.le_refl _) rfl (World.ownsRow_nil _ _ _ _) (by have := HSm.out.leaves; omega))
  rw [List.nil_append] at HRT
  obtain ⟨L, HL⟩ : ∃ L, Hid (leavesE e = L) := ⟨_, rfl⟩
  have HLl : Hid (L.length ≤ 1500) := by show _ ≤ _; rw [← HL.out]; exact HSm.out.leaves
  rw [HL.out] at HRT HLok
  clear hs4 HCp
  go_wp2_with fail
  refine HRT.out.mono ?_
  rintro r w5 ⟨A5, c5', rfl, ho5, hb5, hz5, -⟩
  obtain ⟨st, hst1, hst2, hst⟩ := stop10 stop
  have hb35 : Below w3.heap.size w3 w5 := hb4.trans (hb5.mono hb4.size)
  replace hr0 := (hb35.block _ (Array.getElem?_eq_some_iff.1 hr0).1).trans hr0
  replace hr1 := (hb35.block _ (Array.getElem?_eq_some_iff.1 hr1).1).trans hr1
  replace hr2 := (hb35.block _ (Array.getElem?_eq_some_iff.1 hr2).1).trans hr2
  have hbw := below_next hb1 hb35
  have hz3 := hb35.size
  have hz4 := hb4.size
  have Hblk : Hid (∀ b, (Value.slice A5 L.length c5').ownBlock = some b → w4.heap.size ≤ b ∧ b < w5.heap.size) := fun b hb => own_blk ho5 hb
  have HO5 := Lib.hid ho5
  have q1 : w5.cell? ⟨w.heap.size + 1, 0, none⟩ = some (.int .i64 stop) := (cell_of_row _ _ 0 _ _ _ hr1).trans rfl
  have f1 : w5.frozen? ⟨w.heap.size + 1, 0, none⟩ = false := frozen_of_row _ _ _ _ _ hr1
  have hrA : (w5.alloc (.cells #[.slice A5 L.length c5'] 32)).heap[w.heap.size + 1]? = some (.cells #[.int .i64 stop] 3 (0, 0)) := heapOld hr1
  have cA0 : (w5.alloc (.cells #[.slice A5 L.length c5'] 32)).cell? ⟨w.heap.size + 1, 0, none⟩ = some (.int .i64 stop) := (cell_of_row _ _ 0 _ _ _ hrA).trans rfl
  have fA0 : (w5.alloc (.cells #[.slice A5 L.length c5'] 32)).frozen? ⟨w.heap.size + 1, 0, none⟩ = false := frozen_of_row _ _ _ _ _ hrA
  have hzs : (w5.setCell ⟨w.heap.size + 1, 0, none⟩ (.int .i64 st)).heap.size = w5.heap.size := World.size_setCell'
  have hl0 := (Array.getElem?_eq_some_iff.1 hr0).1
  have hl1 := (Array.getElem?_eq_some_iff.1 hr1).1
  have hl2 := (Array.getElem?_eq_some_iff.1 hr2).1
  have hoW : Out [w.heap.size + 1] w5 (((w5.setCell ⟨w.heap.size + 1, 0, none⟩ (.int .i64 st)).alloc (.cells #[.slice A5 L.length c5'] 32)).alloc (.cells #[.int .i64 0] 3)) :=
    (set_out w5 (w.heap.size + 1) 0 _).trans (Out.of_below (belowA (belowA (Below.refl _ _) _) _) []) (by simp)
  have m0 : (((w5.setCell ⟨w.heap.size + 1, 0, none⟩ (.int .i64 st)).alloc (.cells #[.slice A5 L.length c5'] 32)).alloc (.cells #[.int .i64 0] 3)).heap[w.heap.size]? = some (.cells (expC e A n c).toArray 29 (0, 0)) := (hoW.block _ hl0 (by simp)).trans hr0
  have m1 : (((w5.setCell ⟨w.heap.size + 1, 0, none⟩ (.int .i64 st)).alloc (.cells #[.slice A5 L.length c5'] 32)).alloc (.cells #[.int .i64 0] 3)).heap[w.heap.size + 1]? = some (.cells #[.int .i64 st] 3 (0, 0)) := heapOld (heapOld (set_zero hr1))
  have m2 := (hoW.block _ hl2 (by simp)).trans hr2
  have m3 : (((w5.setCell ⟨w.heap.size + 1, 0, none⟩ (.int .i64 st)).alloc (.cells #[.slice A5 L.length c5'] 32)).alloc (.cells #[.int .i64 0] 3)).heap[w5.heap.size]? = some (.cells #[.slice A5 L.length c5'] 32 (0, 0)) := heapOld (heapNew hzs)
  have m4 : (((w5.setCell ⟨w.heap.size + 1, 0, none⟩ (.int .i64 st)).alloc (.cells #[.slice A5 L.length c5'] 32)).alloc (.cells #[.int .i64 0] 3)).heap[w5.heap.size + 1]? = some (.cells #[.int .i64 0] 3 (0, 0)) := heapNew (by rw [World.size_alloc, hzs])
  have hzW : (((w5.setCell ⟨w.heap.size + 1, 0, none⟩ (.int .i64 st)).alloc (.cells #[.slice A5 L.length c5'] 32)).alloc (.cells #[.int .i64 0] 3)).heap.size = w5.heap.size + 1 + 1 := by rw [World.size_alloc, World.size_alloc, hzs]
  have hbW : Below w.heap.size w (((w5.setCell ⟨w.heap.size + 1, 0, none⟩ (.int .i64 st)).alloc (.cells #[.slice A5 L.length c5'] 32)).alloc (.cells #[.int .i64 0] 3)) := hbw.trans (hoW.below (by simp) (by omega))
  have HOW := Lib.hid (own_out' HO5.out hoW (fun b hb hb' => by have := Hblk.out b hb; simp at hb'; omega))
  have HzW := Lib.hid hzW
  clear hzs hzW hoW HO5 hr0 hr1 hr2 hb35 hb5 hb4 ho5 HRT q1
  obtain ⟨c0, c1, c2, c3, c4, c5⟩ := facts6 m0
  go_wp2_with fail
  clear c0 c1 c2 c3 c4 c5
  generalize hw6 : ((w5.setCell _ _).alloc _).alloc _ = w6
  rw [hw6] at m0 m1 m2 m3 m4 hbW HOW HzW
  clear hw6 f1 hrA cA0 fA0
  refine (termsF_any w6 e A n c).mono ?_
  rintro r w7 ⟨rfl, hw7⟩
  rw [HzW.out]
  have hb7 : Below w6.heap.size w6 w7 := by rw [hw7]; exact belowA (Below.refl _ _) _
  have hg7 : w7.heap[w5.heap.size + 1 + 1]? = some (.cells #[.int .i64 e.op, .string e.t.x, .int .i64 e.t.v.k, .int .i64 e.t.v.n, .string e.t.v.s, .slice A n c] 29 (0, 0)) := by rw [hw7]; exact heapNew HzW.out
  have hz6 := HzW.out
  have n0 := (hb7.block _ (Array.getElem?_eq_some_iff.1 m1).1).trans m1
  have n1 := (hb7.block _ (Array.getElem?_eq_some_iff.1 m2).1).trans m2
  have n2 := (hb7.block _ (Array.getElem?_eq_some_iff.1 m3).1).trans m3
  have n3 := (hb7.block _ (Array.getElem?_eq_some_iff.1 m4).1).trans m4
  have HO7 := Lib.hid (own_below HOW.out hb7)
  have hbw7 := below_next hbW hb7
  have hg7l := (Array.getElem?_eq_some_iff.1 hg7).1
  have HQ := Lib.hid (terms_seq hg7 [w.heap.size + 1 + 1, w5.heap.size + 1] w (by omega) hbw7 HK0.out (by intro b hb; simp at hb; omega))
  rw [HL.out] at HQ
  have Hz6 := Lib.hid hz6
  clear hw7 hb7 hg7 m0 m1 m2 m3 m4 HOW hbW hz6
  go_wp2_with fail
  refine (wpIn_wide (n := 8)).1 (range_law2 (hg := rfl) (eg := enters_of Tryz.func25 (by kernel_rfl) rfl) (hseq := HQ.out) (hb0 := Below.refl _ _) ?hS (hps := fun _ => rfl)
    (I := fun N pre W => pre.length < st ∧ pre.length ≤ L.length ∧ W.heap[w.heap.size + 1]? = some (.cells #[.int .i64 st] 3 (0, 0)) ∧ W.heap[w.heap.size + 1 + 1]? = some (.cells #[.bool false] 4 (0, 0)) ∧ W.heap[w5.heap.size]? = some (.cells #[.slice A5 L.length c5'] 32 (0, 0)) ∧ W.heap[w5.heap.size + 1]? = some (.cells #[.int .i64 pre.length] 3 (0, 0)) ∧ Below w.heap.size w W ∧
      Hid (W.ownsRow w4.heap.size 34 4 (.slice A5 L.length c5') L.length (L.flatMap GTold.cells)))
    (Ix := fun cd N pre W => cd = .exit 0 ∧ pre.length = st ∧ pre.length ≤ L.length ∧ W.heap[w.heap.size + 1]? = some (.cells #[.int .i64 st] 3 (0, 0)) ∧ W.heap[w.heap.size + 1 + 1]? = some (.cells #[.bool false] 4 (0, 0)) ∧ W.heap[w5.heap.size]? = some (.cells #[.slice A5 L.length c5'] 32 (0, 0)) ∧ W.heap[w5.heap.size + 1]? = some (.cells #[.int .i64 pre.length] 3 (0, 0)) ∧ Below w.heap.size w W)
    ?hI ?hIx ?h0 ?round ?done ?stop)
  case hS => intro b hb; simp at hb; omega
  case hI =>
    rintro N pre W W' ⟨h1, h2, h3, h4, h5, h6, h7, h8⟩ hs'
    exact ⟨h1, h2, hs'.row h3, hs'.row h4, hs'.row h5, hs'.row h6, h7.trans (hs'.below (by omega) h7.size), hs'.own h8.out⟩
  case hIx =>
    rintro cd N pre W W' ⟨h1, h2, h2', h3, h4, h5, h6, h7⟩ hs'
    exact ⟨h1, h2, h2', hs'.row h3, hs'.row h4, hs'.row h5, hs'.row h6, h7.trans (hs'.below (by omega) h7.size)⟩
  case h0 =>
    intro N W hs' _ _
    exact ⟨by simp; omega, by simp, hs'.row n0, hs'.row n1, hs'.row n2, hs'.row n3, hbw7.trans (hs'.below (by omega) hbw7.size), hs'.own HO7.out⟩
  case round =>
    rintro k N pre x W0 W1 K ⟨h1, h2, h3, h4, h5, h6, h7, h8⟩ hs' hN hN2 hW01 hx hK
    have HK := Lib.hid hK
    obtain ⟨hlt, hLx⟩ : pre.length < L.length ∧ Hid (L[pre.length]? = some x) := by
      obtain ⟨t, ht⟩ := hx
      have h10 : L[pre.length]? = some x := by rw [← ht]; simp
      exact ⟨(List.getElem?_eq_some_iff.1 h10).1, h10⟩
    have hb6 : Below w.heap.size w W1 := h7.trans (hs'.below (by omega) h7.size)
    have t0 := hs'.row h3
    have t1 := hs'.row h4
    have t2 := hs'.row h5
    have t3 := hs'.row h6
    have HO1 := Lib.hid (hs'.own h8.out)
    have Hpl : Hid ((pre ++ [x]).length = pre.length + 1) := by show _ = _; simp
    have hW0l := (Array.getElem?_eq_some_iff.1 h6).1
    clear hK hx h3 h4 h5 h6 h7 h8 HQ n0 n1 n2 n3 hs'
    rw [encT_eq]
    gi_wp2
    refine HK.out _ _ (belowA (Below.refl _ _) _) (fun W2 hs2 hz2 => ?_)
    clear HK
    have v0 := hs2.row (heapOld (o := .cells #[.string x.x, .int .i64 x.v.k, .int .i64 x.v.n, .string x.v.s] 26) t0)
    have v1 := hs2.row (heapOld (o := .cells #[.string x.x, .int .i64 x.v.k, .int .i64 x.v.n, .string x.v.s] 26) t1)
    have v2 := hs2.row (heapOld (o := .cells #[.string x.x, .int .i64 x.v.k, .int .i64 x.v.n, .string x.v.s] 26) t2)
    have v3 := hs2.row (heapOld (o := .cells #[.string x.x, .int .i64 x.v.k, .int .i64 x.v.n, .string x.v.s] 26) t3)
    have vb := hs2.row (heapNew (w := W1) (o := .cells #[.string x.x, .int .i64 x.v.k, .int .i64 x.v.n, .string x.v.s] 26) (g := W1.heap.size) rfl)
    have hb2 : Below w.heap.size w W2 := (belowA hb6 (.cells #[.string x.x, .int .i64 x.v.k, .int .i64 x.v.n, .string x.v.s] 26)).trans (hs2.below (by omega) (belowA hb6 _).size)
    obtain ⟨x0, x1, x2, x4⟩ := facts4 vb
    have hzW : W1.heap.size < W2.heap.size := by rw [hz2]; simp
    have HO2 := Lib.hid (hs2.own (own_below HO1.out (belowA (Below.refl _ _) (.cells #[.string x.x, .int .i64 x.v.k, .int .i64 x.v.n, .string x.v.s] 26))))
    have HZ2 := Lib.hid hz2
    clear hz2 t0 t1 t2 t3
    have hsl := told5_own HO2.out rfl (by have := HLl.out; omega) HLok.out
    obtain ⟨b, o, q', rfl, hbb, hq', y0, y1, y2, y3, -, -⟩ := hsl.told_at hlt
    have hqq : q' = x := by have h10 := hq'.out; rw [hLx.out] at h10; injection h10 with h10; exact h10.symm
    subst hqq
    have cw : W2.cell? ⟨w5.heap.size, 0, none⟩ = some (.slice (some ⟨b, o, none⟩) L.length c5') := (cell_of_row _ _ 0 _ _ _ v2).trans rfl
    have cn : W2.cell? ⟨w5.heap.size + 1, 0, none⟩ = some (.int .i64 pre.length) := (cell_of_row _ _ 0 _ _ _ v3).trans rfl
    have f4 : W2.frozen? ⟨w5.heap.size + 1, 0, none⟩ = false := frozen_of_row _ _ _ _ _ v3
    have z1 : (0 : Int) ≤ (pre.length : Int) := by omega
    have z2 : (pre.length : Int) < (L.length : Int) := by omega
    have z3 : ¬ (L.length : Int) ≤ (pre.length : Int) := by omega
    have hrn := run_neq_term q'
    have mixed : Tryz.prog.follows .mixedOrders = true := by kernel_rfl
    clear hsl hq' vb hLx
    generalize pre.length = kk at *
    gi_wp2_with fail
    gi_region
    all_goals
      have hdr : Below W2.heap.size W2 W2.drew := below_drewN W2 1 _
      have u0 : W2.drew.heap[w.heap.size + 1]? = _ := v0
      have u1 : W2.drew.heap[w.heap.size + 1 + 1]? = _ := v1
      have u2 : W2.drew.heap[w5.heap.size]? = _ := v2
      have u3 : W2.drew.heap[w5.heap.size + 1]? = _ := v3
      have HO3 := Lib.hid (own_below HO2.out hdr)
      clear v0 v1 v2 v3 x0 x1 x2 x4 y0 y1 y2 y3 cw cn f4 HO2
      generalize W2.drew = w6' at *
      have w3' : w6'.cell? ⟨w5.heap.size + 1, 0, none⟩ = some (.int .i64 kk) := (cell_of_row _ _ 0 _ _ _ u3).trans rfl
      have f3' : w6'.frozen? ⟨w5.heap.size + 1, 0, none⟩ = false := frozen_of_row _ _ _ _ _ u3
      have X0 : Hid ((w6'.setCell ⟨w5.heap.size + 1, 0, none⟩ (.int .i64 ((kk : Int) + 1))).heap[w.heap.size + 1]? = some (.cells #[.int .i64 st] 3 (0, 0))) := (World.heap_setCells_other' (by omega)).trans u0
      have X1 : Hid ((w6'.setCell ⟨w5.heap.size + 1, 0, none⟩ (.int .i64 ((kk : Int) + 1))).heap[w.heap.size + 1 + 1]? = some (.cells #[.bool false] 4 (0, 0))) := (World.heap_setCells_other' (by omega)).trans u1
      have X2 : Hid ((w6'.setCell ⟨w5.heap.size + 1, 0, none⟩ (.int .i64 ((kk : Int) + 1))).heap[w5.heap.size]? = some (.cells #[.slice (some ⟨b, o, none⟩) L.length c5'] 32 (0, 0))) := (World.heap_setCells_other' (by omega)).trans u2
      have X3 : Hid ((w6'.setCell ⟨w5.heap.size + 1, 0, none⟩ (.int .i64 ((kk : Int) + 1))).heap[w5.heap.size + 1]? = some (.cells #[.int .i64 ((kk : Int) + 1)] 3 (0, 0))) := set_zero u3
      have y0' : (w6'.setCell ⟨w5.heap.size + 1, 0, none⟩ (.int .i64 ((kk : Int) + 1))).cell? ⟨w.heap.size + 1, 0, none⟩ = some (.int .i64 st) := (cell_of_row _ _ 0 _ _ _ X0.out).trans rfl
      have y4' : (w6'.setCell ⟨w5.heap.size + 1, 0, none⟩ (.int .i64 ((kk : Int) + 1))).cell? ⟨w5.heap.size + 1, 0, none⟩ = some (.int .i64 ((kk : Int) + 1)) := (cell_of_row _ _ 0 _ _ _ X3.out).trans rfl
      have HBz : Hid (Below w.heap.size w (w6'.setCell ⟨w5.heap.size + 1, 0, none⟩ (.int .i64 ((kk : Int) + 1)))) := (hb2.trans (hdr.mono hb2.size)).setCell (by show w.heap.size ≤ w5.heap.size + 1; omega) _
      have HT : Hid (Turn2 [w.heap.size + 1 + 1, w5.heap.size + 1] N W0.heap.size W2 (w6'.setCell ⟨w5.heap.size + 1, 0, none⟩ (.int .i64 ((kk : Int) + 1)))) :=
        Turn2.of_out (T := [w5.heap.size + 1]) ((Out.of_below hdr [w5.heap.size + 1]).trans (set_out w6' _ 0 _) (fun b hb _ => hb)) (by omega) (fun b hb _ => by simp at hb; subst hb; exact ⟨.inl (by simp), hW0l⟩)
      have HOz : Hid ((w6'.setCell ⟨w5.heap.size + 1, 0, none⟩ (.int .i64 ((kk : Int) + 1))).ownsRow w4.heap.size 34 4 (.slice (some ⟨b, o, none⟩) L.length c5') L.length (L.flatMap GTold.cells)) :=
        own_out' HO3.out (set_out w6' _ 0 _) (fun b hb hb' => by have := Hblk.out b hb; simp at hb'; omega)
      clear u0 u1 u2 u3 hdr HO3 HO1
      by_cases hks : kk + 1 = st
      · have hq : ((kk : Int) + 1 == (st : Int)) = true := by simp; omega
        have Hks := Lib.hid hks
        clear hks
        gi_wp2_with fail
        exact ⟨HT.out, rfl, by rw [Hpl.out]; exact Hks.out, by rw [Hpl.out]; omega, X0.out, X1.out, X2.out, by rw [Hpl.out]; exact X3.out, HBz.out⟩
      · have hq : ((kk : Int) + 1 == (st : Int)) = false := by simp; omega
        have Hks : Hid (kk + 1 < st) := by show _ < _; omega
        clear hks
        gi_wp2_with fail
        exact ⟨HT.out, by rw [Hpl.out]; exact Hks.out, by rw [Hpl.out]; omega, X0.out, X1.out, X2.out, by rw [Hpl.out]; exact X3.out, HBz.out, HOz⟩
  case done =>
    rintro N xs W hxs ⟨h1, h2, h3, h4, h5, h6, h7, h8⟩ hD
    obtain rfl : xs = L := hxs.out
    have q1 : ((xs.length : Int) == min (st : Int) (xs.length : Int)) = true := by rw [Int.min_eq_right (by omega)]; simp
    clear hxs h8 h2
    have c1 : W.cell? ⟨w5.heap.size + 1, 0, none⟩ = some (.int .i64 xs.length) := (cell_of_row _ _ 0 _ _ _ h6).trans rfl
    have c2 : W.cell? ⟨w.heap.size + 1, 0, none⟩ = some (.int .i64 st) := (cell_of_row _ _ 0 _ _ _ h3).trans rfl
    have c3 : W.cell? ⟨w5.heap.size, 0, none⟩ = some (.slice A5 xs.length c5') := (cell_of_row _ _ 0 _ _ _ h5).trans rfl
    have HC1 := Lib.hid (HVar.out W h7)
    have HR1 := Lib.hid h4
    have HLw := Lib.hid h7
    have HDD := Lib.hid hD
    have hzz := hbw7.size
    clear h3 h4 h5 h6 h7 HQ n0 n1 n2 n3 HVar hD
    go_wp2_with fail
    refine HC1.out.mono ?_
    rintro r V1 ⟨rfl, hv1⟩
    go_wp2_with fail
    refine (HRVar.out V1).mono ?_
    rintro r V2 ⟨rfl, hv2⟩
    have hvv := below_next hv1 hv2
    have r2 := (hvv.block _ (Array.getElem?_eq_some_iff.1 HR1.out).1).trans HR1.out
    have hD3 := (hvv.block _ (Array.getElem?_eq_some_iff.1 HDD.out).1).trans HDD.out
    have c4 : V2.cell? ⟨w.heap.size + 1 + 1, 0, none⟩ = some (.bool false) := (cell_of_row _ _ 0 _ _ _ r2).trans rfl
    have f4 : V2.frozen? ⟨w.heap.size + 1 + 1, 0, none⟩ = false := frozen_of_row _ _ _ _ _ r2
    have HLv := Lib.hid (below_next HLw.out hvv)
    have HR2 := Lib.hid r2
    have HD3 := Lib.hid hD3
    clear hv1 hv2 hvv r2 hD3 HC1 HR1 HLw HDD c1 c2 c3
    have q2 : ∀ bb : Bool, (bb == bb) = true := fun bb => by simp
    generalize singleB 3 s = bb at *
    go_wp2_with fail
    have v2 := set_zero (v := .bool true) HR2.out
    have hD2 : (V2.setCell ⟨w.heap.size + 1 + 1, 0, none⟩ (.bool true)).heap[w7.heap.size]? = some (.deferred (some [])) := (World.heap_setCells_other' (by omega)).trans HD3.out
    refine ⟨by simp, .inl ⟨_, _, rfl, run_takeDeferred hD2, ?_⟩⟩
    have cr2 : ((V2.setCell ⟨w.heap.size + 1 + 1, 0, none⟩ (.bool true)).putObj w7.heap.size (.deferred none)).cell? ⟨w.heap.size + 1 + 1, 0, none⟩ = some (.bool true) := (cell_of_row _ _ 0 _ _ _ ((World.putObj_heap_other (by omega)).trans v2)).trans rfl
    have hb20 : Below w.heap.size w ((V2.setCell ⟨w.heap.size + 1 + 1, 0, none⟩ (.bool true)).putObj w7.heap.size (.deferred none)) :=
      (HLv.out.setCell (by show w.heap.size ≤ w.heap.size + 1 + 1; omega) _).trans ((Soft.putObj _ (Nat.le_refl _) hD2 rfl).below (by omega) (by rw [World.size_setCell']; have := HLv.out.size; exact this))
    clear v2 hD2 HLv
    exact ⟨.bool true, by simp [results, Tryz.results3, go_sem, cr2], rfl, hb20⟩
  case stop =>
    rintro cd N pre W hSp ⟨rfl, h1, h2, h3, h4, h5, h6, h7⟩ hD
    rw [h1] at h6 h2
    have q1 : ((st : Int) == min (st : Int) (L.length : Int)) = true := by rw [Int.min_eq_left (by omega)]; simp
    clear hSp h1
    refine wpIn_wide.2 ?_
    have c1 : W.cell? ⟨w5.heap.size + 1, 0, none⟩ = some (.int .i64 st) := (cell_of_row _ _ 0 _ _ _ h6).trans rfl
    have c2 : W.cell? ⟨w.heap.size + 1, 0, none⟩ = some (.int .i64 st) := (cell_of_row _ _ 0 _ _ _ h3).trans rfl
    have c3 : W.cell? ⟨w5.heap.size, 0, none⟩ = some (.slice A5 L.length c5') := (cell_of_row _ _ 0 _ _ _ h5).trans rfl
    have HC1 := Lib.hid (HVar.out W h7)
    have HR1 := Lib.hid h4
    have HLw := Lib.hid h7
    have HDD := Lib.hid hD
    have hzz := hbw7.size
    clear h3 h4 h5 h6 h7 HQ n0 n1 n2 n3 HVar hD
    go_wp2_with fail
    refine HC1.out.mono ?_
    rintro r V1 ⟨rfl, hv1⟩
    go_wp2_with fail
    refine (HRVar.out V1).mono ?_
    rintro r V2 ⟨rfl, hv2⟩
    have hvv := below_next hv1 hv2
    have r2 := (hvv.block _ (Array.getElem?_eq_some_iff.1 HR1.out).1).trans HR1.out
    have hD3 := (hvv.block _ (Array.getElem?_eq_some_iff.1 HDD.out).1).trans HDD.out
    have c4 : V2.cell? ⟨w.heap.size + 1 + 1, 0, none⟩ = some (.bool false) := (cell_of_row _ _ 0 _ _ _ r2).trans rfl
    have f4 : V2.frozen? ⟨w.heap.size + 1 + 1, 0, none⟩ = false := frozen_of_row _ _ _ _ _ r2
    have HLv := Lib.hid (below_next HLw.out hvv)
    have HR2 := Lib.hid r2
    have HD3 := Lib.hid hD3
    clear hv1 hv2 hvv r2 hD3 HC1 HR1 HLw HDD c1 c2 c3
    have q2 : ∀ bb : Bool, (bb == bb) = true := fun bb => by simp
    generalize singleB 3 s = bb at *
    go_wp2_with fail
    have v2 := set_zero (v := .bool true) HR2.out
    have hD2 : (V2.setCell ⟨w.heap.size + 1 + 1, 0, none⟩ (.bool true)).heap[w7.heap.size]? = some (.deferred (some [])) := (World.heap_setCells_other' (by omega)).trans HD3.out
    refine ⟨by simp, .inl ⟨_, _, rfl, run_takeDeferred hD2, ?_⟩⟩
    have cr2 : ((V2.setCell ⟨w.heap.size + 1 + 1, 0, none⟩ (.bool true)).putObj w7.heap.size (.deferred none)).cell? ⟨w.heap.size + 1 + 1, 0, none⟩ = some (.bool true) := (cell_of_row _ _ 0 _ _ _ ((World.putObj_heap_other (by omega)).trans v2)).trans rfl
    have hb20 : Below w.heap.size w ((V2.setCell ⟨w.heap.size + 1 + 1, 0, none⟩ (.bool true)).putObj w7.heap.size (.deferred none)) :=
      (HLv.out.setCell (by show w.heap.size ≤ w.heap.size + 1 + 1; omega) _).trans ((Soft.putObj _ (Nat.le_refl _) hD2 rfl).below (by omega) (by rw [World.size_setCell']; have := HLv.out.size; exact this))
    clear v2 hD2 HLv
    exact ⟨.bool true, by simp [results, Tryz.results3, go_sem, cr2], rfl, hb20⟩
end Go.Proofs.YtiffmiabhapfnaaGreatDoor

/- The frame of the rows on values: opening the arguments, the tables, a start that fits. -/
namespace Go.Proofs.YtiffmiabhapfnaaGreatDoor
open Go.ChangeShapes Go.WideShapes Go.ChangeAt Go.RowKit
set_option linter.unusedVariables false

theorem own : ownKnob Tryz.prog.godebug = none := by kernel_rfl
theorem laidOut : laidOutB Tryz.prog = true := by kernel_rfl
theorem u_bool : Tryz.prog.underlying 4 = some .bool := by kernel_rfl

def laid {H : Type} : List (String × DataW H) := [("math/bits.deBruijn32tab", Rows.laid_math_bits_deBruijn32tab), ("math/bits.deBruijn64tab", Rows.laid_math_bits_deBruijn64tab), ("internal/strconv.uint64pow10", Rows.laid_internal_strconv_uint64pow10)]

theorem gP : Tryz.prog.globalNamed "internal/strconv.uint64pow10" = some 5 := by kernel_rfl
theorem gPT : (Tryz.prog.globals[5]?).map (·.type) = some 212 := by kernel_rfl
theorem pow_eq : (Rows.laid_internal_strconv_uint64pow10 : DataW Unit) = Lib.tabData .u64 Lib.pow10Tab := by kernel_rfl
theorem tab_of_laid {W : World} (h : laidMet Tryz.prog laid W) : TabW W :=
  TabW.of (Lib.tabIs_of_head gP gPT Tryz.underlying212 Tryz.underlying194 (by kernel_rfl) (by kernel_rfl) (rest := []) (by rw [← pow_eq]; exact laidMet.tail (laidMet.tail h)))

/-- a value as an argument -/
theorem open_value {H : Type} {enc : TypeId × Value → H} {P : Program} {w : World} {t : TypeId} {v : Value} {d : DataW H} {p : List MemPlace} {r : Reach} {b0 : Nat} {fs : Array Field} (hs : P.underlying t = some (.struct fs)) (hz : P.cellsOf t = 3) (ho : Opens P t Enc.val)
    (hval : Value.okWide P w r b0 t v) (h : DataW.Trod enc P w 0 (fun _ => true) true t v d p) (hwt : ∀ n ∈ d.weights P t, n ≤ reachBytes) :
    ∃ x : GV, v = x.v := by
  obtain ⟨cs, rfl, hsz⟩ := okWide_struct hs hval
  obtain ⟨fuel, hx⟩ := h
  obtain ⟨x, hx, -⟩ := ho H enc w fuel _ _ hx hwt
  refine ⟨x, ?_⟩
  have : cs = #[.int .i64 x.k, .int .i64 x.n, .string x.s] := by
    cases cs; simpa [Value.cells] using hx
  rw [this]
theorem open_value' {H : Type} {enc : TypeId × Value → H} {P : Program} {w : World} {t : TypeId} {v : Value} {d : DataW H} {p : List MemPlace} {r : Reach} {b0 : Nat} {fs : Array Field} (hs : P.underlying t = some (.struct fs)) (hz : P.cellsOf t = 3) (ho : Opens P t Enc.val)
    (hval : Value.okWide P w r b0 t v) (h : DataW.Trod enc P w 0 (fun _ => true) true t v d p) (hwt : ∀ n ∈ d.weights P t, n ≤ reachBytes) :
    ∃ x : GV, v = x.v ∧ x.ok := by
  obtain ⟨cs, rfl, hsz⟩ := okWide_struct hs hval
  obtain ⟨fuel, hx⟩ := h
  obtain ⟨x, hx, hok⟩ := ho H enc w fuel _ _ hx hwt
  refine ⟨x, ?_, hok⟩
  have : cs = #[.int .i64 x.k, .int .i64 x.n, .string x.s] := by
    cases cs; simpa [Value.cells] using hx
  rw [this]
theorem open_str' {H : Type} {enc : TypeId × Value → H} {P : Program} {w : World} {t : TypeId} {v : Value} {d : DataW H} {p : List MemPlace} {r : Reach} {b0 : Nat} (hs : P.underlying t = some .string) (hval : Value.okWide P w r b0 t v)
    (h : DataW.Trod enc P w 0 (fun _ => true) true t v d p) (hwt : ∀ n ∈ d.weights P t, n ≤ reachBytes) : ∃ s : ByteArray, v = .string s ∧ s.size ≤ reachN := by
  obtain ⟨fuel, hx⟩ := h
  obtain ⟨s0, rfl⟩ := okWide_string hs hval
  obtain ⟨s, e, hok⟩ := opens_str hs H enc w fuel _ _ hx hwt
  simp [Value.cells] at e
  subst e
  exact ⟨_, rfl, hok⟩
theorem open_int' {H : Type} {enc : TypeId × Value → H} {P : Program} {w : World} {t : TypeId} {v : Value} {d : DataW H} {p : List MemPlace} {r : Reach} {b0 : Nat} {k : IntKind} (hs : P.underlying t = some (.int k)) (hval : Value.okWide P w r b0 t v)
    (h : DataW.Trod enc P w 0 (fun _ => true) true t v d p) : ∃ n : Int, v = .int k n ∧ (Lit.int k n).wf = true := by
  obtain ⟨n, rfl, -, -, hw⟩ := open_int hs hval h
  exact ⟨n, rfl, hw⟩
theorem o_val : Opens Tryz.prog 24 Enc.val := opens_val (a := 22) (b := 3) (c := 9) (by kernel_rfl) (by kernel_rfl) (by kernel_rfl) (by kernel_rfl) (by kernel_rfl)
theorem z_val : Tryz.prog.cellsOf 24 = 3 := by kernel_rfl
theorem u_val : ∃ fs, Tryz.prog.underlying 24 = some (.struct fs) := ⟨_, Tryz.underlying24⟩


/-- a start that fits: the settled world, the three tables laid -/
noncomputable def laidWorld (os : Os) : World :=
  let w0 := World.holding Tryz.prog os ⟨#[], #[], []⟩
  let put (h : Array Obj) (g : Nat) (cs : Array Value) : Array Obj := h.modify g fun
    | .cells _ t frozen => .cells cs t frozen
    | o => o
  let tab (d : DataW Unit) : Array Value := match d with
    | .agg l => (l.map fun | .lit (.int k n) => Value.int k n | _ => undef).toArray
    | _ => #[]
  let h1 := put w0.heap 6 (tab Rows.laid_math_bits_deBruijn32tab)
  let h2 := put h1 7 (tab Rows.laid_math_bits_deBruijn64tab)
  let h3 := put h2 5 (tab Rows.laid_internal_strconv_uint64pow10)
  { w0 with heap := h3 }
set_option maxRecDepth 100000 in
theorem laidWorld_met (os : Os) (args : Array Value) : laidMet Tryz.prog laid ((laidWorld os).forCall (fun _ _ => 0) ⟨#[], args, []⟩).memory :=
  laidMet_of_run' 8 (by kernel_rfl) (by kernel_rfl)
end Go.Proofs.YtiffmiabhapfnaaGreatDoor

/- The frame of the rows that list the two errors of strconv besides the three tables. -/
namespace Go.Proofs.YtiffmiabhapfnaaGreatDoor
open Go.ChangeShapes Go.WideShapes Go.ChangeAt Go.RowKit
set_option linter.unusedVariables false

theorem open_u32' {H : Type} {enc : TypeId × Value → H} {P : Program} {w : World} {t : TypeId} {v : Value} {d : DataW H} {p : List MemPlace} {r : Reach} {b0 : Nat} (hs : P.underlying t = some (.int .u32)) (hval : Value.okWide P w r b0 t v)
    (h : DataW.Trod enc P w 0 (fun _ => true) true t v d p) : ∃ n : Nat, v = .int .u32 n ∧ n < 4294967296 := by
  obtain ⟨n, rfl, hw⟩ := open_int' hs hval h
  have hw' : 0 ≤ n ∧ n < 4294967296 := by
    simp [Lit.wf, IntKind.min, IntKind.max, IntKind.signed, IntKind.bits] at hw; omega
  exact ⟨n.toNat, by congr 1; omega, by omega⟩
def laidE {H : Type} : List (String × DataW H) := [("math/bits.deBruijn32tab", Rows.laid_math_bits_deBruijn32tab), ("math/bits.deBruijn64tab", Rows.laid_math_bits_deBruijn64tab), ("internal/strconv.uint64pow10", Rows.laid_internal_strconv_uint64pow10), ("strconv.ErrRange", Rows.laid_strconv_ErrRange), ("strconv.ErrSyntax", Rows.laid_strconv_ErrSyntax)]

theorem tab_of_laidE {W : World} (h : laidMet Tryz.prog laidE W) : TabW W :=
  TabW.of (Lib.tabIs_of_head gP gPT Tryz.underlying212 Tryz.underlying194 (by kernel_rfl) (by kernel_rfl) (rest := [("strconv.ErrRange", Rows.laid_strconv_ErrRange), ("strconv.ErrSyntax", Rows.laid_strconv_ErrSyntax)]) (by rw [← pow_eq]; exact laidMet.tail (laidMet.tail h)))

theorem gER : Tryz.prog.globalNamed "strconv.ErrRange" = some 4 := by kernel_rfl
theorem gERT : (Tryz.prog.globals[4]?).map (·.type) = some 80 := by kernel_rfl
theorem gES : Tryz.prog.globalNamed "strconv.ErrSyntax" = some 3 := by kernel_rfl
theorem gEST : (Tryz.prog.globals[3]?).map (·.type) = some 80 := by kernel_rfl
theorem cellsES : Tryz.prog.cellsOf 210 = 1 := by kernel_rfl
theorem cellsStr : Tryz.prog.cellsOf 9 = 1 := by kernel_rfl
theorem starES : "*" ++ "errors.errorString" = "*errors.errorString" := by decide
theorem rowES (u : TypeId) (h : Tryz.prog.typeName? 3 u = some "*errors.errorString") : u = 208 :=
  typeName_ptr_named (nm := "errors.errorString") (by rw [starES]; kernel_rfl) (by kernel_rfl) (by decide) u (by rw [starES]; exact h)
theorem err_of_laidE {W : World} (h : laidMet Tryz.prog laidE W) : ErrW W := by
  have h3 := laidMet.tail (laidMet.tail (laidMet.tail h))
  obtain ⟨a0, s0, hv0, -, -, -⟩ := laid_sentinel h3 gER gERT Tryz.underlying80 rowES Tryz.underlying208 Tryz.underlying210 rfl rfl Tryz.underlying9 cellsES cellsStr
  obtain ⟨a1, s1, hv1, -, -, -⟩ := laid_sentinel (laidMet.tail h3) gES gEST Tryz.underlying80 rowES Tryz.underlying208 Tryz.underlying210 rfl rfl Tryz.underlying9 cellsES cellsStr
  exact ⟨⟨_, _, by have h0 := World.var?_cell gES hv1 0; simpa using h0⟩, ⟨_, _, by have h0 := World.var?_cell gER hv0 0; simpa using h0⟩⟩

abbrev synS : ByteArray := { data := #[105, 110, 118, 97, 108, 105, 100, 32, 115, 121, 110, 116, 97, 120] }
abbrev rngS : ByteArray := { data := #[118, 97, 108, 117, 101, 32, 111, 117, 116, 32, 111, 102, 32, 114, 97, 110, 103, 101] }
noncomputable def low : Nat := (World.holding Tryz.prog default ⟨#[], #[], []⟩).heap.size
noncomputable def laidWorldE (os : Os) : World :=
  let w0 := World.holding Tryz.prog os ⟨#[.cells #[.string synS] 210, .cells #[.string rngS] 210], #[], []⟩
  let put (h : Array Obj) (g : Nat) (cs : Array Value) : Array Obj := h.modify g fun
    | .cells _ t frozen => .cells cs t frozen
    | o => o
  let tab (d : DataW Unit) : Array Value := match d with
    | .agg l => (l.map fun | .lit (.int k n) => Value.int k n | _ => undef).toArray
    | _ => #[]
  let h1 := put w0.heap 6 (tab Rows.laid_math_bits_deBruijn32tab)
  let h2 := put h1 7 (tab Rows.laid_math_bits_deBruijn64tab)
  let h3 := put h2 5 (tab Rows.laid_internal_strconv_uint64pow10)
  let h4 := put h3 3 #[.iface 208 (.pointer (some ⟨low, 0, none⟩))]
  let h5 := put h4 4 #[.iface 208 (.pointer (some ⟨low + 1, 0, none⟩))]
  { w0 with heap := h5 }
set_option maxRecDepth 100000 in
theorem laidWorldE_met (os : Os) (args : Array Value) : laidMet Tryz.prog laidE ((laidWorldE os).forCall (fun _ _ => 0) ⟨#[], args, []⟩).memory :=
  laidMet_of_run' 8 (by kernel_rfl) (by kernel_rfl)
end Go.Proofs.YtiffmiabhapfnaaGreatDoor

/- The frame of the rows on tokens: the three tables and two errors of the library, and the program's own two lists. -/
namespace Go.Proofs.YtiffmiabhapfnaaGreatDoor
open Go.ChangeShapes Go.WideShapes Go.ChangeAt Go.RowKit
set_option linter.unusedVariables false

def laidL {H : Type} : List (String × DataW H) := [("math/bits.deBruijn32tab", Rows.laid_math_bits_deBruijn32tab), ("math/bits.deBruijn64tab", Rows.laid_math_bits_deBruijn64tab), ("internal/strconv.uint64pow10", Rows.laid_internal_strconv_uint64pow10), ("strconv.ErrRange", Rows.laid_strconv_ErrRange), ("strconv.ErrSyntax", Rows.laid_strconv_ErrSyntax), ("corollary/lex.keys", Rows.laid_corollary_lex_keys), ("corollary/lex.signs", Rows.laid_corollary_lex_signs)]

/-- a list of texts as laid data -/
def strsData {H : Type} (L : List (List UInt8)) : DataW H := .agg (L.map fun l => .lit (.string l))
theorem cells_of_strs {H : Type} {enc : TypeId × Value → H} {P : Program} {w : World} {base : Nat} {sp : Nat → Bool} {held : Bool} {fuel : Nat} {t e : TypeId} {n : Nat} {cs : List Value} {L : List (List UInt8)} {p : List MemPlace}
    (ht : P.underlying t = some (.array n e)) (he : P.underlying e = some .string) (hce : P.cellsOf e = 1) (hct : P.cellsOf t = n)
    (h : DataW.trod enc P w base sp held fuel t cs = some (strsData L, p)) : cs = L.map fun l => Value.string (bytes l) := by
  cases fuel with
  | zero => simp [DataW.trod] at h
  | succ fuel =>
    simp only [DataW.trod, ht, hce, hct, Nat.mul_one] at h
    split at h
    · rename_i hl
      obtain ⟨xs, hm, hx⟩ := Option.map_eq_some_iff.1 h
      have hxs : xs.map (·.1) = L.map fun l => (DataW.lit (.string l) : DataW H) := by
        have := congrArg Prod.fst hx
        simpa [strsData] using this
      have hxl : xs.length = n := by simpa using Lib.mapM_length hm
      have hzl : L.length = n := by
        have := congrArg List.length hxs
        simp at this
        omega
      apply List.ext_getElem?
      intro i
      by_cases hi : i < n
      · obtain ⟨b, hb, hf⟩ := Lib.mapM_at hm i i (by simp [hi])
        obtain ⟨z, hc, rfl, _⟩ := DataW.trod_string he hf
        have h1 : cs[i]? = some (.string z) := by
          have := congrArg (·[0]?) hc
          simpa [List.getElem?_take, List.getElem?_drop] using this
        have h2 : (xs.map (·.1))[i]? = some (DataW.lit (.string z.data.toList) : DataW H) := by simp [hb]
        rw [hxs] at h2
        simp only [List.getElem?_map, Option.map_eq_some_iff, DataW.lit.injEq, Lit.string.injEq] at h2
        obtain ⟨z', hz', hzz⟩ := h2
        have e1 : bytes z' = z := by rw [hzz]; rfl
        simp [h1, hz', e1]
      · rw [List.getElem?_eq_none (by omega), List.getElem?_eq_none (by simp; omega)]
    · cases h
theorem strs_of_head {P : Program} {W : World} {name : String} {L : List (List UInt8)} {rest : List (String × DataW Unit)} {g : Nat} {t e : TypeId} {n : Nat}
    (hg : P.globalNamed name = some g) (hty : (P.globals[g]?).map (·.type) = some t) (ht : P.underlying t = some (.array n e)) (he : P.underlying e = some .string) (hce : P.cellsOf e = 1) (hct : P.cellsOf t = n)
    (h : laidMet P ((name, strsData L) :: rest) W) : StrsW g L W := by
  obtain ⟨ps, ⟨g', t', cs, fuel, p, q, hg', ht', hvar, hd, _, _⟩, _⟩ := h
  obtain rfl := Option.some.inj (hg.symm.trans hg')
  obtain rfl := Option.some.inj (hty.symm.trans ht')
  have e1 := cells_of_strs ht he hce hct hd
  simp only [World.var?, hg, Option.bind_some] at hvar
  split at hvar
  · rename_i c t2 fr hb
    injection hvar with hvar
    refine ⟨t2, fr, hb.trans ?_⟩
    rw [hvar, ← e1]
  · cases hvar
theorem keys_eq {H : Type} : (Rows.laid_corollary_lex_keys : DataW H) = strsData keysL := rfl
theorem signs_eq {H : Type} : (Rows.laid_corollary_lex_signs : DataW H) = strsData signsL := rfl
theorem gK : Tryz.prog.globalNamed "corollary/lex.keys" = some 1 := by kernel_rfl
theorem gKT : (Tryz.prog.globals[1]?).map (·.type) = some 170 := by kernel_rfl
theorem gS : Tryz.prog.globalNamed "corollary/lex.signs" = some 0 := by kernel_rfl
theorem gST : (Tryz.prog.globals[0]?).map (·.type) = some 162 := by kernel_rfl
abbrev restL : List (String × DataW Unit) := [("strconv.ErrRange", Rows.laid_strconv_ErrRange), ("strconv.ErrSyntax", Rows.laid_strconv_ErrSyntax), ("corollary/lex.keys", Rows.laid_corollary_lex_keys), ("corollary/lex.signs", Rows.laid_corollary_lex_signs)]
theorem lexW_of_laidL {W : World} (h : laidMet Tryz.prog laidL W) : LexW W := by
  have h3 := laidMet.tail (laidMet.tail (laidMet.tail h))
  have h5 := laidMet.tail (laidMet.tail h3)
  have h6 := laidMet.tail h5
  refine ⟨TabW.of (Lib.tabIs_of_head gP gPT Tryz.underlying212 Tryz.underlying194 (by kernel_rfl) (by kernel_rfl) (rest := restL) (by rw [← pow_eq]; exact laidMet.tail (laidMet.tail h))), ?_, ?_, ?_⟩
  · obtain ⟨a0, s0, hv0, -, -, -⟩ := laid_sentinel h3 gER gERT Tryz.underlying80 rowES Tryz.underlying208 Tryz.underlying210 rfl rfl Tryz.underlying9 cellsES cellsStr
    obtain ⟨a1, s1, hv1, -, -, -⟩ := laid_sentinel (laidMet.tail h3) gES gEST Tryz.underlying80 rowES Tryz.underlying208 Tryz.underlying210 rfl rfl Tryz.underlying9 cellsES cellsStr
    exact ⟨⟨_, _, by have h0 := World.var?_cell gES hv1 0; simpa using h0⟩, ⟨_, _, by have h0 := World.var?_cell gER hv0 0; simpa using h0⟩⟩
  · rw [keys_eq] at h5
    exact strs_of_head gK gKT Tryz.underlying170 Tryz.underlying9 (by kernel_rfl) (by kernel_rfl) h5
  · rw [signs_eq] at h6
    exact strs_of_head gS gST Tryz.underlying162 Tryz.underlying9 (by kernel_rfl) (by kernel_rfl) h6
noncomputable def laidWorldL (os : Os) : World :=
  let w0 := World.holding Tryz.prog os ⟨#[.cells #[.string synS] 210, .cells #[.string rngS] 210], #[], []⟩
  let put (h : Array Obj) (g : Nat) (cs : Array Value) : Array Obj := h.modify g fun
    | .cells _ t frozen => .cells cs t frozen
    | o => o
  let tab (d : DataW Unit) : Array Value := match d with
    | .agg l => (l.map fun | .lit (.int k n) => Value.int k n | .lit (.string s) => Value.string ⟨s.toArray⟩ | _ => undef).toArray
    | _ => #[]
  let h1 := put w0.heap 6 (tab Rows.laid_math_bits_deBruijn32tab)
  let h2 := put h1 7 (tab Rows.laid_math_bits_deBruijn64tab)
  let h3 := put h2 5 (tab Rows.laid_internal_strconv_uint64pow10)
  let h4 := put h3 3 #[.iface 208 (.pointer (some ⟨low, 0, none⟩))]
  let h5 := put h4 4 #[.iface 208 (.pointer (some ⟨low + 1, 0, none⟩))]
  let h6 := put h5 1 (tab Rows.laid_corollary_lex_keys)
  let h7 := put h6 0 (tab Rows.laid_corollary_lex_signs)
  { w0 with heap := h7 }
set_option maxRecDepth 100000 in
theorem laidWorldL_met (os : Os) (args : Array Value) : laidMet Tryz.prog laidL ((laidWorldL os).forCall (fun _ _ => 0) ⟨#[], args, []⟩).memory :=
  laidMet_of_run' 8 (by kernel_rfl) (by kernel_rfl)
end Go.Proofs.YtiffmiabhapfnaaGreatDoor

/- The frame of the rows on expressions and programs: how such arguments are read. -/
namespace Go.Proofs.YtiffmiabhapfnaaGreatDoor
open Go.RowKit Go.WideShapes

theorem open_encB {α : Type} {E : Nat → Enc α} {H : Type} {enc : TypeId × Value → H} {P : Program} {w : World} {t : TypeId} {v : Value} {d : DataW H} {p : List MemPlace} {r : Reach} {b0 : Nat} (hs : ∃ fs, P.underlying t = some (.struct fs)) (ho : ∀ N, OpensB N P t (E N))
    (hval : Value.okWide P w r b0 t v) (h : DataW.Trod enc P w 0 (fun _ => true) true t v d p) (hwt : ∀ n ∈ d.weights P t, n ≤ reachBytes) : ∃ (N : Nat) (x : α) (cs : List Value), v = .agg cs.toArray ∧ (E N).ok w w.heap.size cs x := by
  obtain ⟨fs, hs⟩ := hs
  obtain ⟨cs, rfl, hsz⟩ := okWide_struct hs hval
  obtain ⟨fuel, hx⟩ := h
  obtain ⟨y, hy⟩ := ho fuel _ _ _ fuel _ _ (Nat.le_refl _) hx hwt
  obtain ⟨cs⟩ := cs
  exact ⟨fuel, y, cs, rfl, by simpa [Value.cells] using hy⟩
theorem o_val2 : Opens Tryz.prog 24 Enc.val := opens_val (a := 22) (b := 3) (c := 9) (by kernel_rfl) (by kernel_rfl) Tryz.underlying22 Tryz.underlying3 Tryz.underlying9
theorem o_term : Opens Tryz.prog 26 Enc.told := opens_told (a := 9) (b := 24) (by kernel_rfl) (by kernel_rfl) Tryz.underlying9 o_val2
theorem o_exp (N : Nat) : OpensB N Tryz.prog 29 (Enc.exp (N + 1)) := opens_exp (a := 3) (b := 26) (c := 27) (by kernel_rfl) (by kernel_rfl) (of_decide_eq_true (by kernel_rfl)) Tryz.underlying3 o_term Tryz.underlying27 N
theorem u_exp : ∃ fs, Tryz.prog.underlying 29 = some (.struct fs) := ⟨_, Tryz.underlying29⟩
theorem o_terms : Opens Tryz.prog 51 (Enc.slice Enc.told) := opens_slice Tryz.underlying51 o_term (by kernel_rfl) (by show 0 < _; decide) (of_decide_eq_true (by kernel_rfl))
theorem o_lit (N : Nat) : OpensB N Tryz.prog 63 (Enc.lit N) := opens_lit (k := 61) (at_ := 53) (o := 3) (e := 29) (s := 9) (al := 51) (by kernel_rfl) (by kernel_rfl) Tryz.underlying61 Tryz.underlying3 (by kernel_rfl) (by kernel_rfl) Tryz.underlying9 o_terms (o_exp N)
theorem o_lits (N : Nat) : OpensB N Tryz.prog 54 (Enc.slice (Enc.lit N)) := opensB_slice' Tryz.underlying54 (o_lit N) (by show _ = 17; kernel_rfl) (show 0 < 17 by decide) (of_decide_eq_true (by kernel_rfl))
theorem o_rule (N : Nat) : OpensB N Tryz.prog 56 (Enc.rule N) := opens_rule (at_ := 53) (o := 3) (lt := 54) (s := 9) (al := 51) (by kernel_rfl) (by kernel_rfl) Tryz.underlying3 (by kernel_rfl) (by kernel_rfl) Tryz.underlying9 o_terms (o_lits N)
theorem o_rules (N : Nat) : OpensB N Tryz.prog 46 (Enc.slice (Enc.rule N)) := opensB_slice' Tryz.underlying46 (o_rule N) (by show _ = 6; kernel_rfl) (show 0 < 6 by decide) (of_decide_eq_true (by kernel_rfl))
theorem o_kind : Opens Tryz.prog 22 Enc.int := opens_int Tryz.underlying22
theorem o_kinds : Opens Tryz.prog 87 (Enc.slice Enc.int) := opens_slice Tryz.underlying87 o_kind (by kernel_rfl) (by show 0 < _; decide) (of_decide_eq_true (by kernel_rfl))
theorem o_decl : Opens Tryz.prog 89 Enc.decl := opens_decl (s := 9) (k := 87) (o := 3) (by kernel_rfl) (by kernel_rfl) Tryz.underlying9 o_kinds Tryz.underlying3
theorem o_decls : Opens Tryz.prog 45 (Enc.slice Enc.decl) := opens_slice Tryz.underlying45 o_decl (by kernel_rfl) (by show 0 < _; decide) (of_decide_eq_true (by kernel_rfl))
theorem o_prog (N : Nat) : OpensB N Tryz.prog 48 (Enc.prog N) := opens_prog (a := 45) (b := 46) (by kernel_rfl) (by kernel_rfl) o_decls (o_rules N)
theorem u_prog : ∃ fs, Tryz.prog.underlying 48 = some (.struct fs) := ⟨_, Tryz.underlying48⟩
end Go.Proofs.YtiffmiabhapfnaaGreatDoor
