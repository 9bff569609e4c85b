/- My own texts TEvT, TDeep, ShowX, as far as this claim needs them. -/
import Derived.Test.YtgabkmibfhmkmaaGreatDoorZs4
import Derived.Test.YtgabkmibfhmkmaaGreatDoorZs10
import Derived.Deep.RegionHeld3
set_option linter.unusedVariables false
set_option linter.unusedSimpArgs false
namespace Go.Proofs.YtgabkmibfhmkmaaGreatDoor
open Go.RowKit
set_option maxRecDepth 100000 in
set_option maxHeartbeats 1000000 in
theorem ev1T_any (x : GTold) (g : Nat) (w : World) (hg : w.cell? ⟨g, 0, none⟩ = some (.func (.func 219) #[] #[])) (HC : Hid (∀ W, Below w.heap.size w W → Calls Tryz.prog 219 #[.agg #[.string x.x, .int .i64 x.v.k, .int .i64 x.v.n, .string x.v.s]] W (RetBool (rightT x) W))) :
    Calls Tryz.prog 273 #[.agg #[.string x.x, .int .i64 x.v.k, .int .i64 x.v.n, .string x.v.s], .pointer (some ⟨g, 0, none⟩)] w (RetBool (!rightT x) w) := by
  have hrb : (w.alloc (.cells #[.string x.x, .int .i64 x.v.k, .int .i64 x.v.n, .string x.v.s] 30)).heap[w.heap.size]? = some (.cells #[.string x.x, .int .i64 x.v.k, .int .i64 x.v.n, .string x.v.s] 30 (0, 0)) := heapNew rfl
  obtain ⟨b0, b1, b2, b3⟩ := facts4 hrb
  have cg : (w.alloc (.cells #[.string x.x, .int .i64 x.v.k, .int .i64 x.v.n, .string x.v.s] 30)).cell? ⟨g, 0, none⟩ = some (.func (.func 219) #[] #[]) := cellA hg
  clear hrb hg
  generalize rightT x = B at *
  go_enter Tryz.func273, Tryz.ntmps273
  go_wp2_with fail
  refine (HC.out _ (by first | exact Below.refl _ _ | exact belowA (Below.refl _ _) _)).mono ?_
  rintro e w1 ⟨rfl, hb⟩
  have Hb := Lib.hid hb
  clear hb
  go_wp2_with fail
  go_ret
  exact ⟨rfl, below_next (belowA (Below.refl _ _) _) Hb.out⟩
set_option maxRecDepth 100000 in
set_option maxHeartbeats 1000000 in
theorem evIT_any (A : Option Addr) (n c : Nat) (l : List GTold) (g : Nat) (w : World) (hl : SliceIs Enc.told w w.heap.size A n c l) (hg : w.cell? ⟨g, 0, none⟩ = some (.func (.func 219) #[] #[]))
    (HC : Hid (∀ (x : GTold) W, (x.x.size ≤ reachN ∧ x.v.ok) → Below w.heap.size w W → Calls Tryz.prog 219 #[.agg #[.string x.x, .int .i64 x.v.k, .int .i64 x.v.n, .string x.v.s]] W (RetBool (rightT x) W))) :
    Calls Tryz.prog 323 #[.slice A n c, .func (.func 273) #[] #[.pointer (some ⟨g, 0, none⟩)]] w (fun e w' => ∃ k : Int, e = .returned (.int .i64 k) ∧ decide (0 ≤ k) = !(l.all rightT) ∧ Below w.heap.size w w') := by
  have hn := hl.bound
  have HL := Lib.hid hl
  have hlen := Lib.hid hl.1
  have Hg := Lib.hid hg
  clear hl hg
  go_enter Tryz.func323, Tryz.ntmps323
  go_wp2_with fail
  go_loopw [5, 8] (fun _ i wr => ∃ k : Nat, k ≤ n ∧ i = .int .i64 k ∧ Hid ((l.take k).all rightT = true) ∧ Below w.heap.size w wr) (fun _ i _ => n - (intOf i).toNat)
  case atStart => exact ⟨0, by omega, rfl, by simp [Hid], Below.refl _ _⟩
  case round =>
    obtain ⟨k, hk, rfl, hpre, hbr⟩ := hrel
    by_cases hlt : k < n
    · have HLr := (HL.out.below hbr)
      obtain ⟨b, o, x, rfl, hbb, hx, z0, z1, z2, z3, f0, f1⟩ := HLr.told_at hlt
      have hokx : x.x.size ≤ reachN ∧ x.v.ok := ⟨f0, f1⟩
      have C := Lib.hid (ev1T_any x g wr (below_cell hbr Hg.out) (fun W hW => HC.out x W (hokx) (below_next hbr hW)))
      have i0 : (0 : Int) ≤ (k : Int) := by omega
      have i1 : (k : Int) < (n : Int) := by omega
      have HT : Hid ((l.take (k + 1)).all rightT = rightT x) := by
        show _ = _
        obtain ⟨g1, g2⟩ := List.getElem?_eq_some_iff.1 hx.out
        rw [List.take_succ_eq_append_getElem g1, g2, List.all_append, hpre.out]; simp
      have HF : Hid (rightT x = false → l.all rightT = false) := fun h => by
        rw [List.all_eq_false]
        exact ⟨x, List.mem_of_getElem? hx.out, by simp [h]⟩
      clear HLr hokx
      generalize rightT x = B at *
      cases B with
      | true =>
        clear HF
        go_wp2_with fail
        refine C.out.mono ?_
        rintro e w1 ⟨rfl, hb⟩
        have Hb := Lib.hid hb
        clear hb
        go_wp2_with fail
        go_roundw
        case rel => exact ⟨k + 1, by omega, by go_num, HT, below_next hbr Hb.out⟩
        case measure => simp [intOf]; omega
      | false =>
        have HF' : Hid (l.all rightT = false) := HF.out rfl
        clear HF
        go_wp2_with fail
        refine C.out.mono ?_
        rintro e w1 ⟨rfl, hb⟩
        have Hb := Lib.hid hb
        clear hb
        go_wp2_with fail
        go_ret
        exact ⟨_, rfl, by rw [HF'.out]; simp, below_next hbr Hb.out⟩
    · have i1 : ¬ (k : Int) < (n : Int) := by omega
      have HA : Hid (l.all rightT = true) := by
        show _ = _
        have h := hpre.out
        rw [List.take_of_length_le (by have := hlen.out; omega)] at h
        exact h
      go_wp2_with fail
      go_ret
      exact ⟨_, rfl, by rw [HA.out]; rfl, hbr⟩
set_option maxRecDepth 100000 in
set_option maxHeartbeats 1000000 in
theorem everyT_any (A : Option Addr) (n c : Nat) (l : List GTold) (w : World) (hl : SliceIs Enc.told w w.heap.size A n c l)
    (HC : Hid (∀ (x : GTold) W, (x.x.size ≤ reachN ∧ x.v.ok) → Below w.heap.size w W → Calls Tryz.prog 219 #[.agg #[.string x.x, .int .i64 x.v.k, .int .i64 x.v.n, .string x.v.s]] W (RetBool (rightT x) W))) :
    Calls Tryz.prog 218 #[.slice A n c, .func (.func 219) #[] #[]] w (RetBool (l.all rightT) w) := by
  have hba : Below w.heap.size w (w.alloc (.cells #[.func (.func 219) #[] #[]] 303)) := belowA (Below.refl _ _) _
  have C := Lib.hid (evIT_any A n c l w.heap.size (w.alloc (.cells #[.func (.func 219) #[] #[]] 303)) (hl.keep hba) ((cell_of_row _ _ 0 _ _ _ (heapNew rfl)).trans rfl) (fun x W h hW => HC.out x W h (below_next hba hW)))
  generalize l.all rightT = B at *
  clear hl HC
  have CC : Hid (Calls Tryz.prog 272 #[.slice A n c, .func (.func 273) #[] #[.pointer (some ⟨w.heap.size, 0, none⟩)]] (w.alloc (.cells #[.func (.func 219) #[] #[]] 303)) (RetBool (!B) (w.alloc (.cells #[.func (.func 219) #[] #[]] 303)))) := by
    show Calls _ _ _ _ _
    generalize w.alloc (.cells #[.func (.func 219) #[] #[]] 303) = wb at *
    go_enter Tryz.func272, Tryz.ntmps272
    go_wp2_with fail
    refine C.out.mono ?_
    rintro e w1 ⟨k, rfl, hk, hb⟩
    have Hb := Lib.hid hb
    have Hk := Lib.hid hk
    clear hb hk
    go_wp2_with fail
    go_ret
    exact ⟨by rw [← Hk.out]; rfl, Hb.out⟩
  clear C
  go_enter Tryz.func218, Tryz.ntmps218
  go_wp2_with fail
  refine CC.out.mono ?_
  rintro e w1 ⟨rfl, hb⟩
  have Hb := Lib.hid hb
  clear hb CC
  go_wp2_with fail
  go_ret
  exact ⟨by cases B <;> rfl, below_next hba Hb.out⟩
end Go.Proofs.YtgabkmibfhmkmaaGreatDoor

namespace Go.Proofs.YtgabkmibfhmkmaaGreatDoor
open Go.RowKit
def zT : GTold := ⟨⟨#[]⟩, gv0⟩
instance : DecidableEq GTold := fun a b => if h : a.x = b.x ∧ a.v = b.v then isTrue (by cases a; cases b; simp_all) else isFalse (fun e => h (by rw [e]; exact ⟨rfl, rfl⟩))
theorem told_zero {t : GTold} : t = zT ↔ t.x.toList = [] ∧ t.v.k = 0 ∧ t.v.n = 0 ∧ t.v.s.toList = [] := by
  rw [← gv_zero]
  cases t
  simp [zT, ← toList_inj, show (⟨#[]⟩ : ByteArray).toList = [] from by rw [ByteArray.toList_eq]]
theorem told_not_zero {t : GTold} (h : t ≠ zT) : (¬ t.x.toList = []) ∨ (t.x.toList = [] ∧ ¬ t.v.k = 0) ∨ (t.x.toList = [] ∧ t.v.k = 0 ∧ ¬ t.v.n = 0) ∨ (t.x.toList = [] ∧ t.v.k = 0 ∧ t.v.n = 0 ∧ ¬ t.v.s.toList = []) := by
  rw [ne_eq, told_zero] at h
  by_cases h1 : t.x.toList = [] <;> by_cases h2 : t.v.k = 0 <;> by_cases h3 : t.v.n = 0 <;> by_cases h4 : t.v.s.toList = [] <;> simp_all
def opE (e : GExp) : Bool := (decide (1 ≤ e.op) && decide (e.op ≤ 3)) && decide (e.t = zT)
theorem opE_lo {e : GExp} (h : e.op < 1) : opE e = false := by
  have h' : ¬ 1 ≤ e.op := by omega
  simp [opE, h']
theorem opE_hi {e : GExp} (h : 3 < e.op) : opE e = false := by
  have h' : ¬ e.op ≤ 3 := by omega
  simp [opE, h']
/-- is an expression as told, and at most so deep? -/
def rightE : Nat → GExp → Bool
  | 0, e => decide (e.op = 0) && (e.kids.isEmpty && rightT e.t)
  | k + 1, e => if e.op = 0 then e.kids.isEmpty && rightT e.t else opE e && (match e.kids with | [a, b] => rightE k a && rightE k b | _ => false)
theorem rightE_leaf {k : Nat} {e : GExp} (h : e.op = 0) : rightE k e = (e.kids.isEmpty && rightT e.t) := by
  cases k <;> simp [rightE, h]
theorem rightE_flat {e : GExp} (h : ¬ e.op = 0) : rightE 0 e = false := by simp [rightE, h]
theorem rightE_bad {k : Nat} {e : GExp} (h : ¬ e.op = 0) (h2 : opE e = false) : rightE k e = false := by
  cases k <;> simp [rightE, h, h2]
theorem rightE_kids {k : Nat} {e : GExp} (h : ¬ e.op = 0) (h2 : e.kids.length ≠ 2) : rightE k e = false := by
  cases k with
  | zero => exact rightE_flat h
  | succ k =>
    simp only [rightE, h, if_false]
    match hk : e.kids, h2 with
    | [], _ => simp
    | [a], _ => simp
    | [a, b], h2 => exact absurd rfl h2
    | a :: b :: c :: l, _ => simp
theorem rightE_two {k : Nat} {e a b : GExp} (h : ¬ e.op = 0) (h2 : opE e = true) (hk : e.kids = [a, b]) : rightE (k + 1) e = (rightE k a && rightE k b) := by
  simp [rightE, h, h2, hk]
def RetDeep (k : Nat) (e : GExp) (w : World) (ex : Ending) (w' : World) : Prop := ∃ m : Int, ex = .returned (.int .i64 m) ∧ decide (0 ≤ m) = rightE k e ∧ -1 ≤ m ∧ m ≤ k ∧ Below w.heap.size w w'
set_option maxRecDepth 100000 in
set_option maxHeartbeats 4000000 in
theorem deep_any : ∀ (k : Nat) (e : GExp) (A : Option Addr) (n c d : Nat) (w : World), k ≤ 20 → SliceIs (Enc.exp d) w w.heap.size A n c e.kids → e.t.x.size ≤ reachN → LexW w →
    Calls Tryz.prog 189 #[.agg #[.int .i64 e.op, .string e.t.x, .int .i64 e.t.v.k, .int .i64 e.t.v.n, .string e.t.v.s, .slice A n c], .int .i64 (k : Int)] w (RetDeep k e w) := by
  intro k
  induction k using Nat.strongRecOn with
  | ind k ih =>
    intro e A n c d w hk20 hk hx hW
    have IH := Lib.hid ih
    have hn := hk.bound
    have HK := Lib.hid hk
    have Hlen := Lib.hid hk.1
    have HW := Lib.hid hW
    have Hx := Lib.hid hx
    have hrb : (w.alloc (.cells #[.int .i64 e.op, .string e.t.x, .int .i64 e.t.v.k, .int .i64 e.t.v.n, .string e.t.v.s, .slice A n c] 33)).heap[w.heap.size]? = some (.cells #[.int .i64 e.op, .string e.t.x, .int .i64 e.t.v.k, .int .i64 e.t.v.n, .string e.t.v.s, .slice A n c] 33 (0, 0)) := heapNew rfl
    have hba : Below w.heap.size w (w.alloc (.cells #[.int .i64 e.op, .string e.t.x, .int .i64 e.t.v.k, .int .i64 e.t.v.n, .string e.t.v.s, .slice A n c] 33)) := belowA (Below.refl _ _) _
    clear hk hW hx ih
    obtain ⟨P, HP⟩ : ∃ P, Hid (P = RetDeep k e w) := ⟨_, rfl⟩
    rw [← HP.out]
    have HBad : Hid (rightE k e = false → ∀ w', Below w.heap.size w w' → P (.returned (.int .i64 (-1))) w') := fun h w' hb => by rw [HP.out]; exact ⟨-1, rfl, by rw [h]; rfl, by omega, by omega, hb⟩
    obtain ⟨b0, b1, b2, b3, b4, b5⟩ := facts6 hrb
    have Hlt := Lib.hid (Array.getElem?_eq_some_iff.1 hrb).1
    have HR := Lib.hid (tright_any e.t Hx.out (w.alloc (.cells #[.int .i64 e.op, .string e.t.x, .int .i64 e.t.v.k, .int .i64 e.t.v.n, .string e.t.v.s, .slice A n c] 33)) (HW.out.on hba))
    by_cases h0 : e.op = 0
    · have q0 : (e.op == 0) = true := by simp [h0]
      have q1 : e.op < 1 := by omega
      have HL : Hid (rightE k e = (e.kids.isEmpty && rightT e.t)) := rightE_leaf h0
      by_cases hn0 : n = 0
      · have q2 : ((n : Int) == 0) = true := by simp [hn0]
        have hke : e.kids.isEmpty = true := by have := Hlen.out; simp; exact List.eq_nil_of_length_eq_zero (by omega)
        cases hr : rightT e.t with
        | true =>
          have HG : Hid (∀ w', Below w.heap.size w w' → P (.returned (.int .i64 0)) w') := fun w' hb => by rw [HP.out]; exact ⟨0, rfl, by rw [HL.out, hke, hr]; rfl, by omega, by omega, hb⟩
          rw [hr] at HR
          clear HP hke hr h0 hn0 HL HBad HK
          generalize hwb : (w.alloc (.cells #[.int .i64 e.op, .string e.t.x, .int .i64 e.t.v.k, .int .i64 e.t.v.n, .string e.t.v.s, .slice A n c] 33)) = wb at *
          go_enter Tryz.func189, Tryz.ntmps189
          go_wp2_with fail
          try simp only [hwb]
          go_wp2_with fail
          refine HR.out.mono ?_
          rintro e1 w1 ⟨rfl, hb⟩
          have Hb := Lib.hid hb
          clear hb
          go_wp2_with fail
          exact HG.out _ (below_next hba Hb.out)
        | false =>
          have HG : Hid (∀ w', Below w.heap.size w w' → P (.returned (.int .i64 (-1))) w') := HBad.out (by rw [HL.out, hr]; simp)
          rw [hr] at HR
          clear HP hke hr h0 hn0 HL HBad HK
          generalize hwb : (w.alloc (.cells #[.int .i64 e.op, .string e.t.x, .int .i64 e.t.v.k, .int .i64 e.t.v.n, .string e.t.v.s, .slice A n c] 33)) = wb at *
          go_enter Tryz.func189, Tryz.ntmps189
          go_wp2_with fail
          try simp only [hwb]
          go_wp2_with fail
          refine HR.out.mono ?_
          rintro e1 w1 ⟨rfl, hb⟩
          have Hb := Lib.hid hb
          obtain ⟨c0, c1, c2, c3, c4, c5⟩ := facts6 ((hb.block _ Hlt.out).trans hrb)
          clear hb
          go_wp2_with fail
          exact HG.out _ (below_next hba Hb.out)
      · have q2 : ((n : Int) == 0) = false := by rw [beq_eq_false_iff_ne]; omega
        have hke : e.kids.isEmpty = false := by
          have := Hlen.out
          cases h : e.kids with
          | nil => rw [h] at this; simp at this; omega
          | cons a l => rfl
        have HG : Hid (∀ w', Below w.heap.size w w' → P (.returned (.int .i64 (-1))) w') := HBad.out (by rw [HL.out, hke]; simp)
        clear HP hke h0 hn0 HL HBad HK HR
        go_enter Tryz.func189, Tryz.ntmps189
        go_wp2_with fail
        exact HG.out _ hba
    · have q0 : (e.op == 0) = false := by simp [h0]
      by_cases h1 : e.op < 1
      · have HG : Hid (∀ w', Below w.heap.size w w' → P (.returned (.int .i64 (-1))) w') := HBad.out (rightE_bad h0 (opE_lo (by omega)))
        clear HP h0 HBad HK HR
        go_enter Tryz.func189, Tryz.ntmps189
        go_wp2_with fail
        exact HG.out _ hba
      by_cases h3 : 3 < e.op
      · have HG : Hid (∀ w', Below w.heap.size w w' → P (.returned (.int .i64 (-1))) w') := HBad.out (rightE_bad h0 (opE_hi (by omega)))
        clear HP h0 HBad HK HR
        go_enter Tryz.func189, Tryz.ntmps189
        go_wp2_with fail
        exact HG.out _ hba
      by_cases hn2 : n = 2
      rotate_left
      · have q2 : ((n : Int) != 2) = true := by simp; omega
        have HG : Hid (∀ w', Below w.heap.size w w' → P (.returned (.int .i64 (-1))) w') := HBad.out (rightE_kids h0 (by have := Hlen.out; omega))
        clear HP h0 HBad HK HR
        go_enter Tryz.func189, Tryz.ntmps189
        go_wp2_with fail
        exact HG.out _ hba
      subst hn2
      by_cases hz : e.t = zT
      rotate_left
      · have HG : Hid (∀ w', Below w.heap.size w w' → P (.returned (.int .i64 (-1))) w') := HBad.out (rightE_bad h0 (by simp [opE, hz]))
        rcases told_not_zero hz with hz | ⟨z0, hz⟩ | ⟨z0, z1, hz⟩ | ⟨z0, z1, z2, hz⟩ <;>
        · clear HP h0 HBad HK HR
          go_enter Tryz.func189, Tryz.ntmps189
          go_wp2_with fail
          exact HG.out _ (belowA (Below.refl _ _) _)
      have hop : opE e = true := by
        have : 1 ≤ e.op := by omega
        have : e.op ≤ 3 := by omega
        simp [opE, *]
      obtain ⟨z0, z1, z2, z3⟩ := told_zero.1 hz
      by_cases hk0 : k = 0
      · have HG : Hid (∀ w', Below w.heap.size w w' → P (.returned (.int .i64 (-1))) w') := HBad.out (by rw [hk0]; exact rightE_flat h0)
        have q4 : ((k : Int) == 0) = true := by simp [hk0]
        clear HP h0 HBad HK HR hop hz
        go_enter Tryz.func189, Tryz.ntmps189
        go_wp2_with fail
        exact HG.out _ (belowA (Below.refl _ _) _)
      obtain ⟨k', hk'⟩ : ∃ k', k = k' + 1 := ⟨k - 1, by omega⟩
      have q4 : ((k : Int) == 0) = false := by rw [beq_eq_false_iff_ne]; omega
      have q5 : (k : Int) - 1 = (k' : Int) := by omega
      have q7 : wrap64 (k' : Int) = (k' : Int) := by unfold wrap64; omega
      have q6 : IntKind.i64.wrap (k' : Int) = (k' : Int) := by rw [IntWalk.i64_left]; exact q7
      obtain ⟨b, o, x, Ax, nx, cx, dx, rfl, hbb, hkx, hdx, x0, x1, x2, x3, x4, x5, fx0, fx1, fx2, hkkx⟩ := HK.out.exp_at (i := 0) (by omega)
      obtain ⟨b', o', y, Ay, ny, cy, dy, hAy, hbb', hky, hdy, y0, y1, y2, y3, y4, y5, fy0, fy1, fy2, hkky⟩ := HK.out.exp_at (i := 1) (by omega)
      injection hAy with hAy
      injection hAy with e1 e2 _
      subst e1 e2
      have hks : e.kids = [x, y] := by
        have h1 := hkx.out
        have h2 := hky.out
        have h3 := Hlen.out
        match e.kids, h1, h2, h3 with
        | [a, b], h1, h2, _ => simp at h1 h2; rw [h1, h2]
      have HT : Hid (rightE k e = (rightE k' x && rightE k' y)) := by show _ = _; rw [hk']; exact rightE_two h0 hop hks
      have HGood : Hid (∀ (m : Int) w', decide (0 ≤ m) = (rightE k' x && rightE k' y) → -1 ≤ m → m ≤ k → Below w.heap.size w w' → P (.returned (.int .i64 m)) w') := fun m w' h h1 h2 hb => by rw [HP.out]; exact ⟨m, rfl, by rw [HT.out]; exact h, h1, h2, hb⟩
      have ex : e.t.x = ⟨#[]⟩ := by rw [hz]; rfl
      have ek : e.t.v.k = 0 := by rw [hz]; rfl
      have en : e.t.v.n = 0 := by rw [hz]; rfl
      have es : e.t.v.s = ⟨#[]⟩ := by rw [hz]; rfl
      clear z0 z1 z2 z3 HR
      simp only [ex, ek, en, es] at hba hrb b0 b1 b2 b3 b4 b5 Hlt
      have CX : Hid (∀ W, Below (w.alloc (.cells #[.int .i64 e.op, .string ⟨#[]⟩, .int .i64 0, .int .i64 0, .string ⟨#[]⟩, .slice (some ⟨b, o, none⟩) 2 c] 33)).heap.size (w.alloc (.cells #[.int .i64 e.op, .string ⟨#[]⟩, .int .i64 0, .int .i64 0, .string ⟨#[]⟩, .slice (some ⟨b, o, none⟩) 2 c] 33)) W → Calls Tryz.prog 189 #[.agg #[.int .i64 x.op, .string x.t.x, .int .i64 x.t.v.k, .int .i64 x.t.v.n, .string x.t.v.s, .slice Ax nx cx], .int .i64 (k' : Int)] W (RetDeep k' x W)) := fun W hW =>
        IH.out k' (by omega) x Ax nx cx dx W (by omega) ((hkkx.keep hba).keep hW) fx1 ((HW.out.on hba).on hW)
      have CY : Hid (∀ W, Below (w.alloc (.cells #[.int .i64 e.op, .string ⟨#[]⟩, .int .i64 0, .int .i64 0, .string ⟨#[]⟩, .slice (some ⟨b, o, none⟩) 2 c] 33)).heap.size (w.alloc (.cells #[.int .i64 e.op, .string ⟨#[]⟩, .int .i64 0, .int .i64 0, .string ⟨#[]⟩, .slice (some ⟨b, o, none⟩) 2 c] 33)) W → Calls Tryz.prog 189 #[.agg #[.int .i64 y.op, .string y.t.x, .int .i64 y.t.v.k, .int .i64 y.t.v.n, .string y.t.v.s, .slice Ay ny cy], .int .i64 (k' : Int)] W (RetDeep k' y W)) := fun W hW =>
        IH.out k' (by omega) y Ay ny cy dy W (by omega) ((hkky.keep hba).keep hW) fy1 ((HW.out.on hba).on hW)
      simp only [Nat.zero_mul, Nat.add_zero, Nat.one_mul] at x0 x1 x2 x3 x4 x5 y0 y1 y2 y3 y4 y5
      have Hk := Lib.hid (fun W (hW : Below (w.alloc (.cells #[.int .i64 e.op, .string ⟨#[]⟩, .int .i64 0, .int .i64 0, .string ⟨#[]⟩, .slice (some ⟨b, o, none⟩) 2 c] 33)).heap.size (w.alloc (.cells #[.int .i64 e.op, .string ⟨#[]⟩, .int .i64 0, .int .i64 0, .string ⟨#[]⟩, .slice (some ⟨b, o, none⟩) 2 c] 33)) W) => show W.cell? ⟨w.heap.size, 5, none⟩ = some (.slice (some ⟨b, o, none⟩) 2 c) ∧ W.cell? ⟨b, o, none⟩ = some (.int .i64 x.op) ∧ W.cell? ⟨b, o + 1, none⟩ = some (.string x.t.x) ∧ W.cell? ⟨b, o + 2, none⟩ = some (.int .i64 x.t.v.k) ∧ W.cell? ⟨b, o + 3, none⟩ = some (.int .i64 x.t.v.n) ∧ W.cell? ⟨b, o + 4, none⟩ = some (.string x.t.v.s) ∧ W.cell? ⟨b, o + 5, none⟩ = some (.slice Ax nx cx) ∧ W.cell? ⟨b, o + 6, none⟩ = some (.int .i64 y.op) ∧ W.cell? ⟨b, o + 6 + 1, none⟩ = some (.string y.t.x) ∧ W.cell? ⟨b, o + 6 + 2, none⟩ = some (.int .i64 y.t.v.k) ∧ W.cell? ⟨b, o + 6 + 3, none⟩ = some (.int .i64 y.t.v.n) ∧ W.cell? ⟨b, o + 6 + 4, none⟩ = some (.string y.t.v.s) ∧ W.cell? ⟨b, o + 6 + 5, none⟩ = some (.slice Ay ny cy) from ⟨below_cell hW b5, below_cell hW (cellA x0), below_cell hW (cellA x1), below_cell hW (cellA x2), below_cell hW (cellA x3), below_cell hW (cellA x4), below_cell hW (cellA x5), below_cell hW (cellA y0), below_cell hW (cellA y1), below_cell hW (cellA y2), below_cell hW (cellA y3), below_cell hW (cellA y4), below_cell hW (cellA y5)⟩)
      have r5 : k' + 1 = k := hk'.symm
      have R5 := Lib.hid r5
      clear HP h0 HBad HK hop IH hks HT hkx hky hk' r5 fx0 fx1 fx2 fy0 fy1 fy2 hkkx hkky hdx hdy x0 x1 x2 x3 x4 x5 y0 y1 y2 y3 y4 y5 hbb hbb' hz hk0 Hx Hlen
      generalize hX : rightE k' x = X at *
      generalize hY : rightE k' y = Y at *
      go_enter Tryz.func189, Tryz.ntmps189
      go_wp2_with fail
      generalize (w.alloc (.cells #[.int .i64 e.op, .string ⟨#[]⟩, .int .i64 0, .int .i64 0, .string ⟨#[]⟩, .slice (some ⟨b, o, none⟩) 2 c] 33)) = wb at *
      have hb1 := Below.refl wb.heap.size wb
      have Hfirst : Hid True := trivial
      go_region_held3 (fun W => W.cell? ⟨w.heap.size, 5, none⟩ = some (.slice (some ⟨b, o, none⟩) 2 c) ∧ W.cell? ⟨b, o, none⟩ = some (.int .i64 x.op) ∧ W.cell? ⟨b, o + 1, none⟩ = some (.string x.t.x) ∧ W.cell? ⟨b, o + 2, none⟩ = some (.int .i64 x.t.v.k) ∧ W.cell? ⟨b, o + 3, none⟩ = some (.int .i64 x.t.v.n) ∧ W.cell? ⟨b, o + 4, none⟩ = some (.string x.t.v.s) ∧ W.cell? ⟨b, o + 5, none⟩ = some (.slice Ax nx cx) ∧ W.cell? ⟨b, o + 6, none⟩ = some (.int .i64 y.op) ∧ W.cell? ⟨b, o + 6 + 1, none⟩ = some (.string y.t.x) ∧ W.cell? ⟨b, o + 6 + 2, none⟩ = some (.int .i64 y.t.v.k) ∧ W.cell? ⟨b, o + 6 + 3, none⟩ = some (.int .i64 y.t.v.n) ∧ W.cell? ⟨b, o + 6 + 4, none⟩ = some (.string y.t.v.s) ∧ W.cell? ⟨b, o + 6 + 5, none⟩ = some (.slice Ay ny cy))
        (first
          | (refine Hk.out _ ?_; (repeat (first | with_reducible exact Below.refl _ _ | with_reducible assumption | with_reducible refine Below.drew ?_ | with_reducible refine belowA ?_ _)); done)
          | go_keep)
        ((first
          | (go_at_call 189
             clear Hfirst
             refine (CX.out _ (Below.refl _ _).drew).mono ?_
             rintro e1 w1 ⟨m1, rfl, hm1, l1, u1, hq1⟩
             have hb1 : Below wb.heap.size wb w1 := ((Below.refl wb.heap.size wb).drew).trans hq1
             have Hm1 := Lib.hid hm1
             clear hq1 hm1)
          | (go_at_call 189
             refine (CY.out _ hb1).mono ?_
             rintro e1 w2 ⟨m2, rfl, hm2, l2, u2, hq2⟩
             have hb2 : Below wb.heap.size wb w2 := hb1.trans (hq2.mono hb1.size)
             have Hm2 := Lib.hid hm2
             clear hq2 hm2)))
      have HB2 : Hid (Below w.heap.size w w2) := below_next hba hb2
      have K0 : (k' : Int) ≤ (k : Int) - 1 := by have := R5.out; omega
      clear Hk CX CY b0 b1 b2 b3 b4 b5 hrb hb1 hb2
      by_cases p1 : m1 < 0
      · have HG : Hid (∀ w', Below w.heap.size w w' → P (.returned (.int .i64 (-1))) w') := fun w' hb => HGood.out (-1) w' (by
          have h1 := Hm1.out
          have h2 : decide (0 ≤ m1) = false := by simp; omega
          rw [← hX, ← h1, h2]; rfl) (by omega) (by omega) hb
        clear HGood Hm1 Hm2
        go_wp2_with fail
        exact HG.out _ HB2.out
      by_cases p2 : m2 < 0
      · have HG : Hid (∀ w', Below w.heap.size w w' → P (.returned (.int .i64 (-1))) w') := fun w' hb => HGood.out (-1) w' (by
          have h1 := Hm2.out
          have h2 : decide (0 ≤ m2) = false := by simp; omega
          rw [← hY, ← h1, h2]; simp) (by omega) (by omega) hb
        clear HGood Hm1 Hm2
        go_wp2_with fail
        exact HG.out _ HB2.out
      have hX1 : X = true := by rw [← hX, ← Hm1.out]; simp; omega
      have hY1 : Y = true := by rw [← hY, ← Hm2.out]; simp; omega
      have HG : Hid (∀ (m : Int) w', 0 ≤ m → m ≤ (k : Int) → Below w.heap.size w w' → P (.returned (.int .i64 m)) w') := fun m w' h1 h2 hb => HGood.out m w' (by rw [hX1, hY1]; simp; omega) (by omega) h2 hb
      clear HGood Hm1 Hm2 hX hY hX1 hY1
      by_cases p3 : m1 ≤ m2
      · have e3 : max m1 m2 = m2 := by omega
        have e4 : wrap64 (1 + m2) = 1 + m2 := by unfold wrap64; omega
        go_wp2_with fail
        exact HG.out _ _ (by omega) (by omega) HB2.out
      · have e3 : max m1 m2 = m1 := by omega
        have e4 : wrap64 (1 + m1) = 1 + m1 := by unfold wrap64; omega
        go_wp2_with fail
        exact HG.out _ _ (by omega) (by omega) HB2.out
set_option maxRecDepth 100000 in
set_option maxHeartbeats 1000000 in
theorem rightExp_any (e : GExp) (A : Option Addr) (n c d : Nat) (w : World) (hk : SliceIs (Enc.exp d) w w.heap.size A n c e.kids) (hx : e.t.x.size ≤ reachN) (hW : LexW w) :
    Calls Tryz.prog 114 #[.agg #[.int .i64 e.op, .string e.t.x, .int .i64 e.t.v.k, .int .i64 e.t.v.n, .string e.t.v.s, .slice A n c]] w (RetBool (rightE 20 e) w) := by
  have hrb : (w.alloc (.cells #[.int .i64 e.op, .string e.t.x, .int .i64 e.t.v.k, .int .i64 e.t.v.n, .string e.t.v.s, .slice A n c] 33)).heap[w.heap.size]? = some (.cells #[.int .i64 e.op, .string e.t.x, .int .i64 e.t.v.k, .int .i64 e.t.v.n, .string e.t.v.s, .slice A n c] 33 (0, 0)) := heapNew rfl
  have hba : Below w.heap.size w (w.alloc (.cells #[.int .i64 e.op, .string e.t.x, .int .i64 e.t.v.k, .int .i64 e.t.v.n, .string e.t.v.s, .slice A n c] 33)) := belowA (Below.refl _ _) _
  have HC := Lib.hid (deep_any 20 e A n c d _ (by omega) (hk.keep hba) hx (hW.on hba))
  obtain ⟨b0, b1, b2, b3, b4, b5⟩ := facts6 hrb
  clear hk hx hW hrb
  generalize hwb : (w.alloc (.cells #[.int .i64 e.op, .string e.t.x, .int .i64 e.t.v.k, .int .i64 e.t.v.n, .string e.t.v.s, .slice A n c] 33)) = wb at *
  go_enter Tryz.func114, Tryz.ntmps114
  go_wp2_with fail
  try simp only [hwb]
  go_wp2_with fail
  refine HC.out.mono ?_
  rintro e1 w1 ⟨m, rfl, hm, -, -, hb⟩
  have Hm := Lib.hid hm
  have Hb := Lib.hid hb
  clear hm hb
  go_wp2_with fail
  go_ret
  exact ⟨by rw [← Hm.out]; rfl, below_next hba Hb.out⟩
/-- a zero expression -/
def noneE (e : GExp) : Bool := decide (e.op = 0) && (decide (e.t = zT) && e.kids.isEmpty)
set_option maxRecDepth 100000 in
set_option maxHeartbeats 1000000 in
theorem none_any (e : GExp) (A : Option Addr) (n c : Nat) (w : World) (hn : e.kids.length = n) (hn2 : n ≤ reachN) :
    Calls Tryz.prog 188 #[.agg #[.int .i64 e.op, .string e.t.x, .int .i64 e.t.v.k, .int .i64 e.t.v.n, .string e.t.v.s, .slice A n c]] w (RetBool (noneE e) w) := by
  have hn3 : n ≤ 140737488351232 := hn2
  have Hn := Lib.hid hn
  obtain ⟨B, HB⟩ : ∃ B, Hid (B = noneE e) := ⟨_, rfl⟩
  rw [← HB.out]
  clear hn hn2
  by_cases h0 : e.op = 0
  rotate_left
  · have q0 : (e.op == 0) = false := by simp [h0]
    have HE : Hid (B = false) := by show _ = _; rw [HB.out]; simp [noneE, h0]
    clear h0 HB
    go_enter Tryz.func188, Tryz.ntmps188
    go_wp2_with fail
    go_ret
    exact ⟨by rw [HE.out]; rfl, belowA (Below.refl _ _) _⟩
  have q0 : (e.op == 0) = true := by simp [h0]
  by_cases hz : e.t = zT
  rotate_left
  · have HE : Hid (B = false) := by show _ = _; rw [HB.out]; simp [noneE, hz]
    rcases told_not_zero hz with hz | ⟨z0, hz⟩ | ⟨z0, z1, hz⟩ | ⟨z0, z1, z2, hz⟩ <;>
    · clear h0 HB
      go_enter Tryz.func188, Tryz.ntmps188
      go_wp2_with fail
      go_ret
      exact ⟨by rw [HE.out]; rfl, belowA (Below.refl _ _) _⟩
  obtain ⟨z0, z1, z2, z3⟩ := told_zero.1 hz
  by_cases hk : n = 0
  · have q2 : ((n : Int) == 0) = true := by simp [hk]
    have HE : Hid (B = true) := by show _ = _; rw [HB.out]; simp [noneE, h0, hz]; exact List.eq_nil_of_length_eq_zero (by have := Hn.out; omega)
    clear h0 HB hz hk
    go_enter Tryz.func188, Tryz.ntmps188
    go_wp2_with fail
    go_ret
    exact ⟨by rw [HE.out]; rfl, belowA (Below.refl _ _) _⟩
  · have q2 : ((n : Int) == 0) = false := by rw [beq_eq_false_iff_ne]; omega
    have HE : Hid (B = false) := by show _ = _; rw [HB.out]; simp [noneE, h0, hz]; intro h; have := Hn.out; rw [h] at this; simp at this; omega
    clear h0 HB hz hk
    go_enter Tryz.func188, Tryz.ntmps188
    go_wp2_with fail
    go_ret
    exact ⟨by rw [HE.out]; rfl, belowA (Below.refl _ _) _⟩
end Go.Proofs.YtgabkmibfhmkmaaGreatDoor

namespace Go.Proofs.YtgabkmibfhmkmaaGreatDoor
open Go.RowKit
/-- the three lists of texts of package show -/
def opsL : List (List UInt8) := [[], [43], [45], [42]]
def sgnsL : List (List UInt8) := [[], [61], [33, 61], [60], [60, 61], [62], [62, 61]]
def aggsL : List (List UInt8) := [[], [99, 111, 117, 110, 116], [115, 117, 109], [109, 105, 110], [109, 97, 120]]
structure ShowW (W : World) : Prop where
  tab : TabW W
  ops : StrsW 1 opsL W
  signs : StrsW 0 sgnsL W
  aggs : StrsW 2 aggsL W
theorem ShowW.on {w W : World} (h : ShowW w) (hb : Below w.heap.size w W) : ShowW W := ⟨h.tab.on hb, h.ops.on hb, h.signs.on hb, h.aggs.on hb⟩
theorem StrsW.cell {g : Nat} {L : List (List UInt8)} {W : World} (h : StrsW g L W) {i : Nat} {l : List UInt8} (hl : L[i]? = some l) : W.cell? ⟨g, i, none⟩ = some (.string (bytes l)) := by
  obtain ⟨t, fr, h⟩ := h
  rw [cell_of_row _ _ i _ _ _ h]
  simp [hl]
def zxC : List Value := [.int .i64 0, .string ⟨#[]⟩, .int .i64 0, .int .i64 0, .string ⟨#[]⟩, .slice none 0 0]
def sxF (A : Option Addr) (n c : Nat) (b o : Nat) (x1 y1 : List Value) (g : Nat) (i : Nat) (v : Value) (_W : World) : Prop := match i with
  | 0 => v = .pointer (some ⟨g, 5, none⟩)
  | 1 => v = .slice A n c
  | 2 => v = .pointer (some ⟨b, o, none⟩)
  | 3 => v = .agg x1.toArray
  | 4 => v = .pointer (some ⟨g, 5, none⟩)
  | 5 => v = .slice A n c
  | 6 => v = .pointer (some ⟨b, o + 6, none⟩)
  | 7 => v = .agg y1.toArray
  | _ => True
theorem inB_ge (b : Bool) (s : List UInt8) : s.length ≤ (inB b s).length := by
  cases b
  · simp [inB]
  · simp only [inB, if_true, List.length_append, List.length_cons, List.length_nil]; omega
theorem rightE_parts {k : Nat} {e : GExp} (h0 : ¬ e.op = 0) (h : rightE k e = true) : ∃ k' a b, k = k' + 1 ∧ e.kids = [a, b] ∧ 1 ≤ e.op ∧ e.op ≤ 3 ∧ rightE k' a = true ∧ rightE k' b = true := by
  cases k with
  | zero => rw [rightE_flat h0] at h; cases h
  | succ k =>
    by_cases h2 : opE e = true
    · match hk : e.kids with
      | [a, b] =>
        rw [rightE_two h0 h2 hk] at h
        simp only [Bool.and_eq_true] at h
        unfold opE at h2
        simp only [Bool.and_eq_true, decide_eq_true_eq] at h2
        exact ⟨k, a, b, rfl, rfl, h2.1.1, h2.1.2, h.1, h.2⟩
      | [] => rw [rightE_kids h0 (by rw [hk]; simp)] at h; cases h
      | [a] => rw [rightE_kids h0 (by rw [hk]; simp)] at h; cases h
      | a :: b :: c :: r => rw [rightE_kids h0 (by rw [hk]; simp)] at h; cases h
    · rw [rightE_bad h0 (by simpa using h2)] at h; cases h
set_option maxRecDepth 100000 in
set_option maxHeartbeats 4000000 in
theorem exp2_any : ∀ (k : Nat) (e : GExp) (A : Option Addr) (n c d : Nat) (w : World), rightE k e = true → SliceIs (Enc.exp d) w w.heap.size A n c e.kids → fits e.t.v.n → ShowW w → (expS k e).length ≤ 1000000000000 →
    Calls Tryz.prog 115 #[expV e A n c] w (RetV (.string (bytes (expS k e))) w) := by
  intro k
  induction k using Nat.strongRecOn with
  | ind k ih =>
    intro e A n c d w hr hk hv hW hlen
    obtain ⟨o, t, ks⟩ := e
    replace hk : SliceIs (Enc.exp d) w w.heap.size A n c ks := hk
    replace hv : fits t.v.n := hv
    show Calls Tryz.prog 115 #[.agg #[.int .i64 o, .string t.x, .int .i64 t.v.k, .int .i64 t.v.n, .string t.v.s, .slice A n c]] w (RetV (.string (bytes (expS k (.mk o t ks)))) w)
    have mixed : Tryz.prog.follows .mixedOrders = true := by kernel_rfl
    have IH := Lib.hid ih
    obtain ⟨S, HS⟩ : ∃ S, Hid (S = expS k (.mk o t ks)) := ⟨_, rfl⟩
    rw [← HS.out]
    have hrb : (w.alloc (.cells #[.int .i64 o, .string t.x, .int .i64 t.v.k, .int .i64 t.v.n, .string t.v.s, .slice A n c] 33)).heap[w.heap.size]? = some (.cells #[.int .i64 o, .string t.x, .int .i64 t.v.k, .int .i64 t.v.n, .string t.v.s, .slice A n c] 33 (0, 0)) := heapNew rfl
    have hba : Below w.heap.size w (w.alloc (.cells #[.int .i64 o, .string t.x, .int .i64 t.v.k, .int .i64 t.v.n, .string t.v.s, .slice A n c] 33)) := belowA (Below.refl _ _) _
    have HW := Lib.hid (hW.on hba)
    have HK := Lib.hid (hk.keep hba)
    have HN := Lib.hid hk.1
    obtain ⟨c0, c1, c2, c3, c4, c5⟩ := facts6 hrb
    have Hrb := Lib.hid hrb
    have Hba := Lib.hid hba
    clear ih hk hW hrb hba
    by_cases h0 : o = 0
    · have e0 : (o == 0) = true := by simp [h0]
      have HE : Hid (S = shownT t) := by show _ = _; rw [HS.out, expS_leaf (e := .mk o t ks) h0]; rfl
      have HC := Lib.hid (shown_any t hv _ HW.out.tab)
      clear HS h0 hr hlen HK HN IH HW
      go_enter Tryz.func115, Tryz.ntmps115
      go_wp2_with fail
      refine HC.out.mono ?_
      rintro r w1 ⟨rfl, hb⟩
      have Hb := Lib.hid hb
      clear hb HC
      go_wp2_with fail
      go_ret
      exact ⟨by rw [HE.out]; rfl, below_next Hba.out Hb.out⟩
    have hkids0 := rightE_parts (e := .mk o t ks) h0 hr
    obtain ⟨k, ka, kb, rfl, hkids, ho1, ho3, hra, hrb⟩ := hkids0
    replace ho1 : 1 ≤ o := ho1
    replace ho3 : o ≤ 3 := ho3
    replace hkids : ks = [ka, kb] := hkids
    have e0 : (o == 0) = false := by simp [h0]
    obtain ⟨j, hj⟩ : ∃ j : Nat, o = (j : Int) := ⟨o.toNat, by omega⟩
    subst hj
    have hn2 : n = 2 := by have := HN.out; rw [hkids] at this; simpa using this.symm
    subst hn2
    obtain ⟨b1, o1, kx, cs1, hA1, _, h1, ok1, hc1⟩ := HK.out.at_ (show 0 < 2 by omega)
    obtain ⟨b2, o2, ky, cs2, hA2, _, h2, ok2, hc2⟩ := HK.out.at_ (show 1 < 2 by omega)
    obtain rfl : kx = ka := by have := h1.out; rw [hkids] at this; simpa using this.symm
    obtain rfl : ky = kb := by have := h2.out; rw [hkids] at this; simpa using this.symm
    obtain rfl : A = _ := hA1
    obtain ⟨rfl, rfl⟩ : b1 = b2 ∧ o1 = o2 := by injection hA2 with h; injection h with h h'; exact ⟨h, h'⟩
    rw [Enc.exp_sz] at hc1 hc2
    obtain ⟨g, rfl⟩ : ∃ g, d = g + 1 := by cases d with
      | zero => exact ok1.elim
      | succ g => exact ⟨g, rfl⟩
    obtain ⟨A1, n1, a1, rfl, -, -, hv1, k1⟩ := ok1
    obtain ⟨A2, n2, a2, rfl, -, -, hv2, k2⟩ := ok2
    have hS : expS (k + 1) (.mk (j : Int) t ks) = inB (decide ((j : Int) = 3) && sumB kx) (expS k kx) ++ [32] ++ opS (j : Int) ++ [32] ++ inB (sumB ky || (decide ((j : Int) = 3) && decide (ky.op = 3))) (expS k ky) := expS_two (e := .mk (j : Int) t ks) h0 hkids
    have hl0 := hlen
    rw [hS] at hl0
    have hla : (expS k kx).length ≤ 1000000000000 := by
      have : (expS k kx).length ≤ (inB (decide ((j : Int) = 3) && sumB kx) (expS k kx)).length := inB_ge _ _
      simp only [List.length_append] at hl0
      omega
    have hlb : (expS k ky).length ≤ 1000000000000 := by
      have : (expS k ky).length ≤ (inB (sumB ky || (decide ((j : Int) = 3) && decide (ky.op = 3))) (expS k ky)).length := inB_ge _ _
      simp only [List.length_append] at hl0
      omega
    have HC1 := Lib.hid (fun (W : World) (hb : Below (w.alloc (.cells #[.int .i64 (j : Int), .string t.x, .int .i64 t.v.k, .int .i64 t.v.n, .string t.v.s, .slice (some ⟨b1, o1, none⟩) 2 c] 33)).heap.size (w.alloc (.cells #[.int .i64 (j : Int), .string t.x, .int .i64 t.v.k, .int .i64 t.v.n, .string t.v.s, .slice (some ⟨b1, o1, none⟩) 2 c] 33)) W) => IH.out k (by omega) kx A1 n1 a1 g W hra (k1.keep hb) hv1.2.1 (HW.out.on hb) hla)
    have HC2 := Lib.hid (fun (W : World) (hb : Below (w.alloc (.cells #[.int .i64 (j : Int), .string t.x, .int .i64 t.v.k, .int .i64 t.v.n, .string t.v.s, .slice (some ⟨b1, o1, none⟩) 2 c] 33)).heap.size (w.alloc (.cells #[.int .i64 (j : Int), .string t.x, .int .i64 t.v.k, .int .i64 t.v.n, .string t.v.s, .slice (some ⟨b1, o1, none⟩) 2 c] 33)) W) => IH.out k (by omega) ky A2 n2 a2 g W hrb (k2.keep hb) hv2.2.1 (HW.out.on hb) hlb)
    have Hc1 : Hid ((w.alloc (.cells #[.int .i64 (j : Int), .string t.x, .int .i64 t.v.k, .int .i64 t.v.n, .string t.v.s, .slice (some ⟨b1, o1, none⟩) 2 c] 33)).rangeAt b1 o1 (expC kx A1 n1 a1)) := fun j v hj => by simpa using hc1 j v hj
    have Hc2 : Hid ((w.alloc (.cells #[.int .i64 (j : Int), .string t.x, .int .i64 t.v.k, .int .i64 t.v.n, .string t.v.s, .slice (some ⟨b1, o1, none⟩) 2 c] 33)).rangeAt b1 (o1 + 6) (expC ky A2 n2 a2)) := fun j v hj => by simpa using hc2 j v hj
    clear h1 h2 hc1 hc2 k1 k2 hA2 hra hrb HK HN IH hr hv hv1 hv2
    generalize hwb : (w.alloc (.cells #[.int .i64 (j : Int), .string t.x, .int .i64 t.v.k, .int .i64 t.v.n, .string t.v.s, .slice (some ⟨b1, o1, none⟩) 2 c] 33)) = wb at *
    have Hwb := Lib.hid hwb
    go_enter Tryz.func115, Tryz.ntmps115
    go_wp2_with fail
    try simp only [hwb]
    clear hwb
    go_wp2_with fail
    refine drawnJ3 mixed 11 54 [13, 14, 15, 16, 17, 18, 19, 20, 3, 4] (fun _ W => Below wb.heap.size wb W) (sxF (some ⟨b1, o1, none⟩) 2 c b1 o1 (expC kx A1 n1 a1) (expC ky A2 n2 a2) w.heap.size) (fun _ W W' => Below wb.heap.size W W')
      (twoJ wb.heap.size 33 8 9 10 3 4 (expC kx A1 n1 a1).toArray zxC.toArray) rfl (by kernel_rfl) (by kernel_rfl) rfl ⟨0, 0, (fun h => by cases h), (fun h => by cases h), (fun h => by cases h), (fun h => by cases h)⟩ (fun j _ => below_drewN _ 1 _) (fun i j v W W' _ _ _ h _ => by unfold sxF at h ⊢; exact h) (fun _ _ _ _ _ _ _ _ h h' => h.trans h') ?_ ?_
    · intro l i o2' fa W hJ hli hlw hi ho hd hsz hold hG _ hw
      have hr1 : fa.tmps[1]? = some (.pointer (some ⟨w.heap.size, 0, none⟩)) := hold 1 (by kernel_rfl)
      have hgX := (hG.block _ (Array.getElem?_eq_some_iff.1 Hrb.out).1).trans Hrb.out
      have f5 : W.cell? ⟨w.heap.size, 5, none⟩ = some (.slice (some ⟨b1, o1, none⟩) 2 c) := (cell_of_row _ _ 5 _ _ _ hgX).trans rfl
      clear hold
      match i, hi, ho with
      | 0, _, ho =>
        injection ho with ho; subst ho
        exact op_val _ (by simp [execOp, Act.eval, hr1, go_sem]) ⟨_, rfl, Below.refl _ _, rfl, fun l' h1 h2 => twoJ_val hJ (by decide) (by decide) (by decide) (by decide) (by decide) h1 h2⟩
      | 1, _, ho =>
        injection ho with ho; subst ho
        obtain ⟨v0, h0, e0'⟩ := hw 0 13 (by kernel_rfl)
        obtain rfl : v0 = _ := e0'
        exact op_val _ (by simp [execOp, Act.eval, h0, run_load1 Tryz.underlying31 f5]) ⟨_, rfl, Below.refl _ _, rfl, fun l' h1 h2 => twoJ_val hJ (by decide) (by decide) (by decide) (by decide) (by decide) h1 h2⟩
      | 2, _, ho =>
        injection ho with ho; subst ho
        obtain ⟨v0, h0, e0'⟩ := hw 1 14 (by kernel_rfl)
        obtain rfl : v0 = _ := e0'
        exact op_val _ (by simp [execOp, Act.eval, h0, go_sem]) ⟨_, rfl, Below.refl _ _, rfl, fun l' h1 h2 => twoJ_val hJ (by decide) (by decide) (by decide) (by decide) (by decide) h1 h2⟩
      | 3, _, ho =>
        injection ho with ho; subst ho
        obtain ⟨v0, h0, e0'⟩ := hw 2 15 (by kernel_rfl)
        obtain rfl : v0 = _ := e0'
        exact wp_load_mid 33 (.tmp 15) rfl _ _ (eval_tmp h0) (expC kx A1 n1 a1) _ (range_on Hc1.out hG) Tryz.underlying33 rfl (exp_size _ _ _ _) ⟨_, rfl, Below.refl _ _, rfl, fun l' h1 h2 => twoJ_val hJ (by decide) (by decide) (by decide) (by decide) (by decide) h1 h2⟩
      | 4, _, ho =>
        injection ho with ho; subst ho
        exact op_val _ (by simp [execOp, Act.eval, hr1, go_sem]) ⟨_, rfl, Below.refl _ _, rfl, fun l' h1 h2 => twoJ_val hJ (by decide) (by decide) (by decide) (by decide) (by decide) h1 h2⟩
      | 5, _, ho =>
        injection ho with ho; subst ho
        obtain ⟨v0, h0, e0'⟩ := hw 4 17 (by kernel_rfl)
        obtain rfl : v0 = _ := e0'
        exact op_val _ (by simp [execOp, Act.eval, h0, run_load1 Tryz.underlying31 f5]) ⟨_, rfl, Below.refl _ _, rfl, fun l' h1 h2 => twoJ_val hJ (by decide) (by decide) (by decide) (by decide) (by decide) h1 h2⟩
      | 6, _, ho =>
        injection ho with ho; subst ho
        obtain ⟨v0, h0, e0'⟩ := hw 5 18 (by kernel_rfl)
        obtain rfl : v0 = _ := e0'
        exact op_val _ (by simp [execOp, Act.eval, h0, go_sem]) ⟨_, rfl, Below.refl _ _, rfl, fun l' h1 h2 => twoJ_val hJ (by decide) (by decide) (by decide) (by decide) (by decide) h1 h2⟩
      | 7, _, ho =>
        injection ho with ho; subst ho
        obtain ⟨v0, h0, e0'⟩ := hw 6 19 (by kernel_rfl)
        obtain rfl : v0 = _ := e0'
        exact wp_load_mid 33 (.tmp 19) rfl _ _ (eval_tmp h0) (expC ky A2 n2 a2) _ (range_on Hc2.out hG) Tryz.underlying33 rfl (exp_size _ _ _ _) ⟨_, rfl, Below.refl _ _, rfl, fun l' h1 h2 => twoJ_val hJ (by decide) (by decide) (by decide) (by decide) (by decide) h1 h2⟩
      | 8, _, ho =>
        injection ho with ho; subst ho
        exact op_alloc 33 rfl zxC.toArray 6 (by kernel_rfl) ⟨_, rfl, below_al (Below.refl _ _) hG.size _, trivial, fun l' h1 h2 => twoJ_a0 hJ (by decide) (by decide) (by decide) (by rw [hsz]; decide) hG.size hli h1 h2⟩
      | 9, _, ho =>
        injection ho with ho; subst ho
        exact op_alloc 33 rfl zxC.toArray 6 (by kernel_rfl) ⟨_, rfl, below_al (Below.refl _ _) hG.size _, trivial, fun l' h1 h2 => twoJ_a1 hJ (by decide) (by decide) (by decide) (by rw [hsz]; decide) hG.size h1 h2⟩
      | 10, _, ho =>
        injection ho with ho; subst ho
        have hl8 : l 8 = true := hlw ⟨8, .data⟩ (by simp) rfl
        obtain ⟨v0, h0, e0'⟩ := hw 3 16 (by kernel_rfl)
        obtain rfl : v0 = _ := e0'
        obtain ⟨g, h, j1, j2, j3, j4⟩ := id hJ
        obtain ⟨t6, hBg, hgz, cs, hcs, hrow, -⟩ := j1 hl8
        exact wp_store_row 33 (.tmp 3) (.tmp 16) rfl g (expC kx A1 n1 a1).toArray (eval_tmp t6) (eval_tmp h0) 33 cs hrow (by kernel_rfl) (by rw [hcs]; rfl) (by simp [Value.oneCell']) ⟨undef, rfl, below_set (Below.refl _ _) hBg _, trivial, fun l' h1 h2 => twoJ_s hJ (by decide) (by decide) t6 rfl hl8 h1 h2⟩
      | n + 11, hi, _ => omega
    · intro l o2' u W tt hJ ht hlL ho hG hw
      have q0 := hw 7 20 (by decide) (by kernel_rfl)
      obtain ⟨g, h, t6', t7', hBg, hBh, hgh, hrow, cs2, hcs2, hrow2⟩ := twoJ_fin hJ (hlL 8 (by decide)) (hlL 9 (by decide)) (hlL 10 (by decide)) (ht 3 (by decide) (by decide)) (ht 4 (by decide) (by decide))
      injection ho with ho; subst ho
      clear hJ hlL ht
      simp only [List.foldl_cons, List.foldl_nil, Act.put, List.setIfInBounds_toArray, List.set_cons_zero, List.set_cons_succ]
      rw [show u 20 = Value.agg (expC ky A2 n2 a2).toArray from q0, t6', t7']
      refine wp_store_row 33 (.tmp 4) (.tmp 20) rfl h (expC ky A2 n2 a2).toArray rfl rfl 33 cs2 hrow2 (by kernel_rfl) (by rw [hcs2]; rfl) (by simp [Value.oneCell']) ?_
      have rX := Lib.hid ((setRow_ne (cs' := (expC ky A2 n2 a2).toArray) hgh).trans hrow)
      have rY := Lib.hid (setRow_at (cs' := (expC ky A2 n2 a2).toArray) hrow2)
      have hBW : Below wb.heap.size wb (W.setRow h (expC ky A2 n2 a2).toArray) := below_set hG hBh _
      have HBW := Lib.hid hBW
      clear hw q0 Hc1 Hc2 hG t6' t7' hrow hrow2 hcs2 hBW hBg hBh hgh
      generalize W.setRow _ _ = W2 at *
      simp only [Act.put]
      have HO := Lib.hid ((HBW.out.block _ (Array.getElem?_eq_some_iff.1 Hrb.out).1).trans Hrb.out)
      have D1 := Lib.hid (fun (V : World) (hb : Below W2.heap.size W2 V) (b : Bool) => within_any kx A1 n1 a1 b (expS k kx) V hla (fun V' hb' => HC1.out V' (below_next (below_next HBW.out hb) hb')))
      have D2 := Lib.hid (fun (V : World) (hb : Below W2.heap.size W2 V) (b : Bool) => within_any ky A2 n2 a2 b (expS k ky) V hlb (fun V' hb' => HC2.out V' (below_next (below_next HBW.out hb) hb')))
      obtain ⟨L, HL⟩ : ∃ L, Hid (L = inB (decide ((j : Int) = 3) && sumB kx) (expS k kx)) := ⟨_, rfl⟩
      obtain ⟨R, HR⟩ : ∃ R, Hid (R = inB (sumB ky || (decide ((j : Int) = 3) && decide (ky.op = 3))) (expS k ky)) := ⟨_, rfl⟩
      have HSS : Hid (S = L ++ [32] ++ opS (j : Int) ++ [32] ++ R) := by show _ = _; rw [HS.out, hS, HL.out, HR.out]
      have HLL : Hid (L.length ≤ 1000000000002 ∧ R.length ≤ 1000000000002) := by
        have h1 := inB_len (decide ((j : Int) = 3) && sumB kx) (expS k kx)
        have h2 := inB_len (sumB ky || (decide ((j : Int) = 3) && decide (ky.op = 3))) (expS k ky)
        rw [← HL.out] at h1
        rw [← HR.out] at h2
        exact ⟨by omega, by omega⟩
      have HJ := Lib.hid (And.intro ho1 ho3)
      have HDL := Lib.hid HL.out
      clear hS hl0 hlen hla hlb HS HC1 HC2 h0 e0 hkids ho1 ho3 c0 c1 c2 c3 c4 c5
      go_wp2_with fail
      go_cut [5] (fun v W => v = .string (bytes L) ∧ Below W2.heap.size W2 W)
      case first =>
        have HL2 := Lib.hid HL.out
        have k0 := (cell_of_row _ _ 0 _ _ _ HO.out).trans rfl
        have k1 := facts6 rX.out
        have Hk := Lib.hid (fun (V : World) (hb : Below W2.heap.size W2 V) => And.intro (below_cell hb k0) (And.intro (below_cell hb k1.1) (And.intro (below_cell hb k1.2.1) (And.intro (below_cell hb k1.2.2.1) (And.intro (below_cell hb k1.2.2.2.1) (And.intro (below_cell hb k1.2.2.2.2.1) (below_cell hb k1.2.2.2.2.2)))))))
        obtain ⟨m0, m1, m2, m3, m4, m5⟩ := k1
        have hb1 := Below.refl W2.heap.size W2
        have HS1 := Lib.hid (fun V => sum_any kx A1 n1 a1 V)
        clear HR HSS HLL HBW HW rX rY HO D2 HDL HL
        by_cases h3 : (j : Int) = 3
        · have q3 : ((j : Int) == 3) = true := by simp [h3]
          have HL3 : Hid (L = inB (sumB kx) (expS k kx)) := by show _ = _; rw [HL2.out, decide_eq_true h3]; rfl
          clear HL2 h3
          generalize sumB kx = sx at *
          go_region_held3 (fun w' => w'.cell? ⟨w.heap.size, 0, none⟩ = some (.int .i64 (j : Int)) ∧ w'.cell? ⟨g, 0, none⟩ = some (.int .i64 kx.op) ∧ w'.cell? ⟨g, 1, none⟩ = some (.string kx.t.x) ∧ w'.cell? ⟨g, 2, none⟩ = some (.int .i64 kx.t.v.k) ∧ w'.cell? ⟨g, 3, none⟩ = some (.int .i64 kx.t.v.n) ∧ w'.cell? ⟨g, 4, none⟩ = some (.string kx.t.v.s) ∧ w'.cell? ⟨g, 5, none⟩ = some (.slice A1 n1 a1))
            (first
          | (refine Hk.out _ ?_; (repeat (first | with_reducible exact Below.refl _ _ | with_reducible assumption | with_reducible refine Below.drew ?_ | with_reducible refine belowA ?_ _)); done)
          | go_keep)
            ((first
              | (go_at_call 192
                 refine (HS1.out _).mono ?_
                 rintro r wN ⟨rfl, hq1⟩
                 have hb1 : Below W2.heap.size W2 wN := by
                   refine below_next ?_ hq1
                   repeat (first | with_reducible exact Below.refl _ _ | with_reducible assumption | with_reducible refine Below.drew ?_ | with_reducible refine belowA ?_ _)
                 clear hq1)
              | (go_at_call 191
                 refine (D1.out _ (by repeat (first | with_reducible exact Below.refl _ _ | with_reducible assumption | with_reducible refine Below.drew ?_ | with_reducible refine belowA ?_ _)) _).mono ?_
                 rintro r wN ⟨rfl, hq1⟩
                 have hb1 : Below W2.heap.size W2 wN := by
                   refine below_next ?_ hq1
                   repeat (first | with_reducible exact Below.refl _ _ | with_reducible assumption | with_reducible refine Below.drew ?_ | with_reducible refine belowA ?_ _)
                 clear hq1)))
          go_wp2_with fail
          go_meet
          exact ⟨by rw [HL3.out], hb1⟩
        · have q3 : ((j : Int) == 3) = false := by simp [h3]
          have HL3 : Hid (L = inB false (expS k kx)) := by show _ = _; rw [HL2.out, decide_eq_false h3]; rfl
          clear HL2 h3
          first
          | (go_region_with ((first
               | (go_at_call 192
                  refine (HS1.out _).mono ?_
                  rintro r wN ⟨rfl, hq1⟩
                  have hb1 : Below W2.heap.size W2 wN := below_next (Below.drew (Below.refl _ _)) hq1
                  have k9 := Hk.out _ hb1
                  obtain ⟨n9, n0, n1, n2, n3, n4, n5⟩ := k9
                  clear hq1)
               | (go_at_call 191
                  refine (D1.out _ (by repeat (first | with_reducible assumption | with_reducible refine Below.drew ?_)) _).mono ?_
                  rintro r wM ⟨rfl, hq2⟩
                  have hb2 : Below W2.heap.size W2 wM := by
                    refine below_next ?_ hq2
                    repeat (first | with_reducible assumption | with_reducible refine Below.drew ?_)
                  clear hq2))))
          | fail
          all_goals
            go_wp2_with fail
            go_meet
            exact ⟨by rw [HL3.out], by assumption⟩
      case rest =>
        obtain ⟨rfl, hb5⟩ := hcut
        have HB5 := Lib.hid (below_next HBW.out hb5)
        have rYc := Lib.hid ((hb5.block _ (Array.getElem?_eq_some_iff.1 rY.out).1).trans rY.out)
        have HOc := Lib.hid ((hb5.block _ (Array.getElem?_eq_some_iff.1 HO.out).1).trans HO.out)
        have D3 := Lib.hid (fun (V : World) (hb : Below wc.heap.size wc V) (b : Bool) => D2.out V (below_next hb5 hb) b)
        clear D1 D2 rX rY HO HBW hb5 HL HDL
        go_wp2_with fail
        go_cut [6] (fun v W => v = .string (bytes R) ∧ Below wc.heap.size wc W)
        case first =>
          have HR2 := Lib.hid HR.out
          have k0 := (cell_of_row _ _ 0 _ _ _ HOc.out).trans rfl
          have k1 := facts6 rYc.out
          have Hk := Lib.hid (fun (V : World) (hb : Below wc.heap.size wc V) => And.intro (below_cell hb k0) (And.intro (below_cell hb k1.1) (And.intro (below_cell hb k1.2.1) (And.intro (below_cell hb k1.2.2.1) (And.intro (below_cell hb k1.2.2.2.1) (And.intro (below_cell hb k1.2.2.2.2.1) (below_cell hb k1.2.2.2.2.2)))))))
          obtain ⟨m0, m1, m2, m3, m4, m5⟩ := k1
          have hb1 := Below.refl wc.heap.size wc
          have HS1 := Lib.hid (fun V => sum_any ky A2 n2 a2 V)
          clear HR HSS HLL HW rYc HOc
          cases hsy : sumB ky with
          | true =>
            have HL3 : Hid (R = inB true (expS k ky)) := by show _ = _; rw [HR2.out, hsy]; rfl
            rw [hsy] at HS1
            clear HR2 hsy
            have hyu : undef = Value.tuple #[] := rfl
            first
            | (go_region_with ((first
                 | (go_at_call 192
                    refine (HS1.out _).mono ?_
                    rintro r wN ⟨rfl, hq1⟩
                    have hb1 : Below wc.heap.size wc wN := below_next (Below.drew (Below.refl _ _)) hq1
                    have k9 := Hk.out _ hb1
                    obtain ⟨n9, n0, n1, n2, n3, n4, n5⟩ := k9
                    clear hq1)
                 | (go_at_call 191
                    refine (D3.out _ (by repeat (first | with_reducible assumption | with_reducible refine Below.drew ?_)) _).mono ?_
                    rintro r wM ⟨rfl, hq2⟩
                    have hb2 : Below wc.heap.size wc wM := by
                      refine below_next ?_ hq2
                      repeat (first | with_reducible assumption | with_reducible refine Below.drew ?_)
                    clear hq2))))
            | fail
            all_goals
              go_wp2_with fail
              go_meet
              exact ⟨by rw [HL3.out], by assumption⟩
          | false =>
            rw [hsy] at HS1
            by_cases h3 : (j : Int) = 3
            · have q3 : ((j : Int) == 3) = true := by simp [h3]
              by_cases h4 : ky.op = 3
              · have q4 : (ky.op == 3) = true := by simp [h4]
                have HL3 : Hid (R = inB true (expS k ky)) := by show _ = _; rw [HR2.out, hsy, decide_eq_true h3, decide_eq_true h4]; rfl
                clear HR2 hsy h3 h4
                first
                | (go_region_with ((first
                     | (go_at_call 192
                        refine (HS1.out _).mono ?_
                        rintro r wN ⟨rfl, hq1⟩
                        have hb1 : Below wc.heap.size wc wN := below_next (Below.drew (Below.refl _ _)) hq1
                        have k9 := Hk.out _ hb1
                        obtain ⟨n9, n0, n1, n2, n3, n4, n5⟩ := k9
                        clear hq1)
                     | (go_at_call 191
                        refine (D3.out _ (by repeat (first | with_reducible assumption | with_reducible refine Below.drew ?_)) _).mono ?_
                        rintro r wM ⟨rfl, hq2⟩
                        have hb2 : Below wc.heap.size wc wM := by
                          refine below_next ?_ hq2
                          repeat (first | with_reducible assumption | with_reducible refine Below.drew ?_)
                        clear hq2))))
                | fail
                all_goals
                  go_wp2_with fail
                  go_meet
                  exact ⟨by rw [HL3.out], by assumption⟩
              · have q4 : (ky.op == 3) = false := by simp [h4]
                have HL3 : Hid (R = inB false (expS k ky)) := by show _ = _; rw [HR2.out, hsy, decide_eq_true h3, decide_eq_false h4]; rfl
                clear HR2 hsy h3 h4
                first
                | (go_region_with ((first
                     | (go_at_call 192
                        refine (HS1.out _).mono ?_
                        rintro r wN ⟨rfl, hq1⟩
                        have hb1 : Below wc.heap.size wc wN := below_next (Below.drew (Below.refl _ _)) hq1
                        have k9 := Hk.out _ hb1
                        obtain ⟨n9, n0, n1, n2, n3, n4, n5⟩ := k9
                        clear hq1)
                     | (go_at_call 191
                        refine (D3.out _ (by repeat (first | with_reducible assumption | with_reducible refine Below.drew ?_)) _).mono ?_
                        rintro r wM ⟨rfl, hq2⟩
                        have hb2 : Below wc.heap.size wc wM := by
                          refine below_next ?_ hq2
                          repeat (first | with_reducible assumption | with_reducible refine Below.drew ?_)
                        clear hq2))))
                | fail
                all_goals
                  go_wp2_with fail
                  go_meet
                  exact ⟨by rw [HL3.out], by assumption⟩
            · have q3 : ((j : Int) == 3) = false := by simp [h3]
              have HL3 : Hid (R = inB false (expS k ky)) := by show _ = _; rw [HR2.out, hsy, decide_eq_false h3]; rfl
              clear HR2 hsy h3
              first
              | (go_region_with ((first
                   | (go_at_call 192
                      refine (HS1.out _).mono ?_
                      rintro r wN ⟨rfl, hq1⟩
                      have hb1 : Below wc.heap.size wc wN := below_next (Below.drew (Below.refl _ _)) hq1
                      have k9 := Hk.out _ hb1
                      obtain ⟨n9, n0, n1, n2, n3, n4, n5⟩ := k9
                      clear hq1)
                   | (go_at_call 191
                      refine (D3.out _ (by repeat (first | with_reducible assumption | with_reducible refine Below.drew ?_)) _).mono ?_
                      rintro r wM ⟨rfl, hq2⟩
                      have hb2 : Below wc.heap.size wc wM := by
                        refine below_next ?_ hq2
                        repeat (first | with_reducible assumption | with_reducible refine Below.drew ?_)
                      clear hq2))))
              | fail
              all_goals
                go_wp2_with fail
                go_meet
                exact ⟨by rw [HL3.out], by assumption⟩
        case rest =>
          obtain ⟨rfl, hb6⟩ := hcut
          have HB6 := Lib.hid (below_next HB5.out hb6)
          have HO2 := (hb6.block _ (Array.getElem?_eq_some_iff.1 HOc.out).1).trans HOc.out
          have k0 := (cell_of_row _ _ 0 _ _ _ HO2).trans rfl
          have kO := (HW.out.on HB6.out).ops
          obtain ⟨hl1, hl2⟩ := HLL.out
          have e1 : (bytes L).size = L.length := rfl
          have e2 : (bytes R).size = R.length := rfl
          obtain ⟨hj1, hj3⟩ := HJ.out
          have i0 : (0 : Int) ≤ (j : Int) := by omega
          have i1 : (j : Int) < 4 := by omega
          obtain ⟨P, hP, hPl⟩ : ∃ P : List UInt8, opsL[j]? = some P ∧ P = opS (j : Int) := by
            have : j = 1 ∨ j = 2 ∨ j = 3 := by omega
            rcases this with rfl | rfl | rfl <;> exact ⟨_, rfl, rfl⟩
          have hp1 : P.length ≤ 1 := by rw [hPl]; exact Nat.le_of_eq (opS_len _)
          have kO2 := kO.cell hP
          have e3 : (bytes P).size = P.length := rfl
          have HSE : Hid (bytes S = bytes L ++ ⟨#[32]⟩ ++ bytes P ++ ⟨#[32]⟩ ++ bytes R) := by
            show _ = bytes L ++ bytes [32] ++ bytes P ++ bytes [32] ++ bytes R
            rw [HSS.out, bytes_app, bytes_app, bytes_app, bytes_app, hPl]
          generalize bytes L = sl at *
          generalize bytes R = sr at *
          generalize bytes P = sp at *
          have z1 : ¬ (9223372036854775807 < sl.size + 1) := by omega
          have z2 : ¬ (9223372036854775807 < sl.size + 1 + sp.size) := by omega
          have z3 : ¬ (9223372036854775807 < sl.size + 1 + sp.size + 1) := by omega
          have z4 : ¬ (9223372036854775807 < sl.size + 1 + sp.size + 1 + sr.size) := by omega
          clear HSS HLL hl1 hl2 e1 e2 e3 hp1 hPl hP kO HO2 HOc rYc HB5 hb6 HR HW D3
          go_wp2_with fail
          go_ret
          exact ⟨by rw [HSE.out]; rfl, below_next Hba.out HB6.out⟩
end Go.Proofs.YtgabkmibfhmkmaaGreatDoor
