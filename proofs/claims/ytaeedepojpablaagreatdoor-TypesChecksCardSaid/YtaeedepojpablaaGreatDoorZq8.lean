/- My own texts TEvT, ExpSize, TDeep, as far as this claim needs them. -/
import Derived.Test.YtaeedepojpablaaGreatDoorZq7
set_option linter.unusedVariables false
set_option linter.unusedSimpArgs false
set_option maxRecDepth 1000000
set_option maxHeartbeats 16000000
namespace Go.Proofs.YtaeedepojpablaaGreatDoor
open Go.RowKit
theorem ev1T_any (x : GTold) (g : Nat) (w : World) (hg : w.cell? ⟨g, 0, none⟩ = some (.func (.func 110) #[] #[])) (HC : Hid (∀ W, Below w.heap.size w W → Calls Tryz.prog 110 #[.agg #[.string x.x, .int .i64 x.v.k, .int .i64 x.v.n, .string x.v.s]] W (RetBool (rightT x) W))) :
 Calls Tryz.prog 145 #[.agg #[.string x.x, .int .i64 x.v.k, .int .i64 x.v.n, .string x.v.s], .pointer (some ⟨g, 0, none⟩)] w (RetBool (!rightT x) w) := by
 have hrb : (w.alloc (.cells #[.string x.x, .int .i64 x.v.k, .int .i64 x.v.n, .string x.v.s] 75)).heap[w.heap.size]? = some (.cells #[.string x.x, .int .i64 x.v.k, .int .i64 x.v.n, .string x.v.s] 75 (0, 0)) := heapNew rfl; obtain ⟨b0, b1, b2, b3⟩ := facts4 hrb; have cg : (w.alloc (.cells #[.string x.x, .int .i64 x.v.k, .int .i64 x.v.n, .string x.v.s] 75)).cell? ⟨g, 0, none⟩ = some (.func (.func 110) #[] #[]) := cellA hg; clear hrb hg; generalize rightT x = B at *; go_enter Tryz.func145, Tryz.ntmps145
 go_wp2_with fail
 refine (HC.out _ (by first | exact Below.refl _ _ | exact belowA (Below.refl _ _) _)).mono ?_; rintro e w1 ⟨rfl, hb⟩; have Hb := hZ9 hb; clear hb; go_wp2_with fail
 go_ret; exact ⟨rfl, below_next (belowA (Below.refl _ _) _) Hb.out⟩
theorem evIT_any (A : Option Addr) (n c : Nat) (l : List GTold) (g : Nat) (w : World) (hl : SliceIs Enc.told w w.heap.size A n c l) (hg : w.cell? ⟨g, 0, none⟩ = some (.func (.func 110) #[] #[]))
 (HC : Hid (∀ (x : GTold) W, (x.x.size ≤ reachN ∧ x.v.ok) → Below w.heap.size w W → Calls Tryz.prog 110 #[.agg #[.string x.x, .int .i64 x.v.k, .int .i64 x.v.n, .string x.v.s]] W (RetBool (rightT x) W))) :
 Calls Tryz.prog 177 #[.slice A n c, .func (.func 145) #[] #[.pointer (some ⟨g, 0, none⟩)]] w (fun e w' => ∃ k : Int, e = .returned (.int .i64 k) ∧ decide (0 ≤ k) = !(l.all rightT) ∧ Below w.heap.size w w') := by
 have hn := hl.bound; have HL := hZ9 hl; have hlen := hZ9 hl.1; have Hg := hZ9 hg; clear hl hg; go_enter Tryz.func177, Tryz.ntmps177
 go_wp2_with fail
 go_loopw [5, 8] (fun _ i wr => ∃ k : Nat, k ≤ n ∧ i = .int .i64 k ∧ Hid ((l.take k).all rightT = true) ∧ Below w.heap.size w wr) (fun _ i _ => n - (intOf i).toNat)
 case atStart => exact ⟨0, by omega, rfl, by simp [Hid], Below.refl _ _⟩
 case round =>
  obtain ⟨k, hk, rfl, hpre, hbr⟩ := hrel; by_cases hlt : k < n
  ·have HLr := (HL.out.below hbr)
   obtain ⟨b, o, x, rfl, hbb, hx, z0, z1, z2, z3, f0, f1⟩ := HLr.told_at hlt; have hokx : x.x.size ≤ reachN ∧ x.v.ok := ⟨f0, f1⟩
   have C := hZ9 (ev1T_any x g wr (below_cell hbr Hg.out) (fun W hW => HC.out x W (hokx) (below_next hbr hW))); have i0 : (0 : Int) ≤ (k : Int) := by omega
   have i1 : (k : Int) < (n : Int) := by omega
   have HT : Hid ((l.take (k + 1)).all rightT = rightT x) := by
    show _ = _; obtain ⟨g1, g2⟩ := List.getElem?_eq_some_iff.1 hx.out; rw [List.take_succ_eq_append_getElem g1, g2, List.all_append, hpre.out]; simp
   have HF : Hid (rightT x = false → l.all rightT = false) := fun h => by
    rw [List.all_eq_false]; exact ⟨x, List.mem_of_getElem? hx.out, by simp [h]⟩
   clear HLr hokx; generalize rightT x = B at *; cases B with
   | true =>
     clear HF; go_wp2_with fail
     refine C.out.mono ?_; rintro e w1 ⟨rfl, hb⟩; have Hb := hZ9 hb; clear hb; go_wp2_with fail
     go_roundw
     case rel => exact ⟨k + 1, by omega, by go_num, HT, below_next hbr Hb.out⟩
     case measure => simp [intOf]; omega
   | false =>
     have HF' : Hid (l.all rightT = false) := HF.out rfl; clear HF; go_wp2_with fail
     refine C.out.mono ?_; rintro e w1 ⟨rfl, hb⟩; have Hb := hZ9 hb; clear hb; go_wp2_with fail
     go_ret; exact ⟨_, rfl, by rw [HF'.out]; simp, below_next hbr Hb.out⟩
  ·have i1 : ¬ (k : Int) < (n : Int) := by omega
   have HA : Hid (l.all rightT = true) := by
    show _ = _; have h := hpre.out; rw [List.take_of_length_le (by have := hlen.out; omega)] at h; exact h
   go_wp2_with fail
   go_ret; exact ⟨_, rfl, by rw [HA.out]; rfl, hbr⟩
theorem everyT_any (A : Option Addr) (n c : Nat) (l : List GTold) (w : World) (hl : SliceIs Enc.told w w.heap.size A n c l)
 (HC : Hid (∀ (x : GTold) W, (x.x.size ≤ reachN ∧ x.v.ok) → Below w.heap.size w W → Calls Tryz.prog 110 #[.agg #[.string x.x, .int .i64 x.v.k, .int .i64 x.v.n, .string x.v.s]] W (RetBool (rightT x) W))) :
 Calls Tryz.prog 109 #[.slice A n c, .func (.func 110) #[] #[]] w (RetBool (l.all rightT) w) := by
 have hba : Below w.heap.size w (w.alloc (.cells #[.func (.func 110) #[] #[]] 204)) := belowA (Below.refl _ _) _; have C := hZ9 (evIT_any A n c l w.heap.size (w.alloc (.cells #[.func (.func 110) #[] #[]] 204)) (hl.keep hba) ((cell_of_row _ _ 0 _ _ _ (heapNew rfl)).trans rfl) (fun x W h hW => HC.out x W h (below_next hba hW))); generalize l.all rightT = B at *; clear hl HC
 have CC : Hid (Calls Tryz.prog 144 #[.slice A n c, .func (.func 145) #[] #[.pointer (some ⟨w.heap.size, 0, none⟩)]] (w.alloc (.cells #[.func (.func 110) #[] #[]] 204)) (RetBool (!B) (w.alloc (.cells #[.func (.func 110) #[] #[]] 204)))) := by
  show Calls _ _ _ _ _; generalize w.alloc (.cells #[.func (.func 110) #[] #[]] 204) = wb at *; go_enter Tryz.func144, Tryz.ntmps144
  go_wp2_with fail
  refine C.out.mono ?_; rintro e w1 ⟨k, rfl, hk, hb⟩; have Hb := hZ9 hb; have Hk := hZ9 hk; clear hb hk; go_wp2_with fail
  go_ret; exact ⟨by rw [← Hk.out]; rfl, Hb.out⟩
 clear C; go_enter Tryz.func109, Tryz.ntmps109
 go_wp2_with fail
 refine CC.out.mono ?_; rintro e w1 ⟨rfl, hb⟩; have Hb := hZ9 hb; clear hb CC; go_wp2_with fail
 go_ret; exact ⟨by cases B <;> rfl, below_next hba Hb.out⟩
end Go.Proofs.YtaeedepojpablaaGreatDoor

namespace Go.Proofs.YtaeedepojpablaaGreatDoor
open Go.RowKit
abbrev expV (e : GExp) (A : Option Addr) (n c : Nat) : Value := .agg #[.int .i64 e.op, .string e.t.x, .int .i64 e.t.v.k, .int .i64 e.t.v.n, .string e.t.v.s, .slice A n c]
end Go.Proofs.YtaeedepojpablaaGreatDoor

namespace Go.Proofs.YtaeedepojpablaaGreatDoor
open Go.RowKit
def zT : GTold := ⟨⟨#[]⟩, gv0⟩
instance : DecidableEq GTold := fun a b => if h : a.x = b.x ∧ a.v = b.v then isTrue (by cases a; cases b; simp_all) else isFalse (fun e => h (by rw [e]; exact ⟨rfl, rfl⟩))
theorem told_zero {t : GTold} : t = zT ↔ t.x.toList = [] ∧ t.v.k = 0 ∧ t.v.n = 0 ∧ t.v.s.toList = [] := by
 rw [← gv_zero]; cases t
 simp [zT, ← toList_inj, show (⟨#[]⟩ : ByteArray).toList = [] from by rw [ByteArray.toList_eq]]
theorem told_not_zero {t : GTold} (h : t ≠ zT) : (¬ t.x.toList = []) ∨ (t.x.toList = [] ∧ ¬ t.v.k = 0) ∨ (t.x.toList = [] ∧ t.v.k = 0 ∧ ¬ t.v.n = 0) ∨ (t.x.toList = [] ∧ t.v.k = 0 ∧ t.v.n = 0 ∧ ¬ t.v.s.toList = []) := by
 rw [ne_eq, told_zero] at h; by_cases h1 : t.x.toList = [] <;> by_cases h2 : t.v.k = 0 <;> by_cases h3 : t.v.n = 0 <;> by_cases h4 : t.v.s.toList = [] <;> simp_all
def opE (e : GExp) : Bool := (decide (1 ≤ e.op) && decide (e.op ≤ 3)) && decide (e.t = zT)
theorem opE_lo {e : GExp} (h : e.op < 1) : opE e = false := by
 have h' : ¬ 1 ≤ e.op := by omega
 simp [opE, h']
theorem opE_hi {e : GExp} (h : 3 < e.op) : opE e = false := by
 have h' : ¬ e.op ≤ 3 := by omega
 simp [opE, h']
def rightE : Nat → GExp → Bool
 | 0, e => decide (e.op = 0) && (e.kids.isEmpty && rightT e.t)
 | k + 1, e => if e.op = 0 then e.kids.isEmpty && rightT e.t else opE e && (match e.kids with | [a, b] => rightE k a && rightE k b | _ => false)
theorem rightE_leaf {k : Nat} {e : GExp} (h : e.op = 0) : rightE k e = (e.kids.isEmpty && rightT e.t) := by
 cases k <;> simp [rightE, h]
theorem rightE_flat {e : GExp} (h : ¬ e.op = 0) : rightE 0 e = false := by simp [rightE, h]
theorem rightE_bad {k : Nat} {e : GExp} (h : ¬ e.op = 0) (h2 : opE e = false) : rightE k e = false := by
 cases k <;> simp [rightE, h, h2]
theorem rightE_kids {k : Nat} {e : GExp} (h : ¬ e.op = 0) (h2 : e.kids.length ≠ 2) : rightE k e = false := by
 cases k with
 | zero => exact rightE_flat h
 | succ k =>
   simp only [rightE, h, if_false]; match hk : e.kids, h2 with
   | [], _ => simp
   | [a], _ => simp
   | [a, b], h2 => exact absurd rfl h2
   | a :: b :: c :: l, _ => simp
theorem rightE_two {k : Nat} {e a b : GExp} (h : ¬ e.op = 0) (h2 : opE e = true) (hk : e.kids = [a, b]) : rightE (k + 1) e = (rightE k a && rightE k b) := by
 simp [rightE, h, h2, hk]
def RetDeep (k : Nat) (e : GExp) (w : World) (ex : Ending) (w' : World) : Prop := ∃ m : Int, ex = .returned (.int .i64 m) ∧ decide (0 ≤ m) = rightE k e ∧ -1 ≤ m ∧ m ≤ k ∧ Below w.heap.size w w'
theorem deep_any : ∀ (k : Nat) (e : GExp) (A : Option Addr) (n c d : Nat) (w : World), k ≤ 20 → SliceIs (Enc.exp d) w w.heap.size A n c e.kids → e.t.x.size ≤ reachN → LexW w →
 Calls Tryz.prog 149 #[.agg #[.int .i64 e.op, .string e.t.x, .int .i64 e.t.v.k, .int .i64 e.t.v.n, .string e.t.v.s, .slice A n c], .int .i64 (k : Int)] w (RetDeep k e w) := by
 intro k; induction k using Nat.strongRecOn with
 | ind k ih =>
   intro e A n c d w hk20 hk hx hW; have IH := hZ9 ih; have hn := hk.bound; have HK := hZ9 hk; have Hlen := hZ9 hk.1; have HW := hZ9 hW; have Hx := hZ9 hx; have hrb : (w.alloc (.cells #[.int .i64 e.op, .string e.t.x, .int .i64 e.t.v.k, .int .i64 e.t.v.n, .string e.t.v.s, .slice A n c] 78)).heap[w.heap.size]? = some (.cells #[.int .i64 e.op, .string e.t.x, .int .i64 e.t.v.k, .int .i64 e.t.v.n, .string e.t.v.s, .slice A n c] 78 (0, 0)) := heapNew rfl; have hba : Below w.heap.size w (w.alloc (.cells #[.int .i64 e.op, .string e.t.x, .int .i64 e.t.v.k, .int .i64 e.t.v.n, .string e.t.v.s, .slice A n c] 78)) := belowA (Below.refl _ _) _; clear hk hW hx ih; obtain ⟨P, HP⟩ : ∃ P, Hid (P = RetDeep k e w) := ⟨_, rfl⟩
   rw [← HP.out]; have HBad : Hid (rightE k e = false → ∀ w', Below w.heap.size w w' → P (.returned (.int .i64 (-1))) w') := fun h w' hb => by rw [HP.out]; exact ⟨-1, rfl, by rw [h]; rfl, by omega, by omega, hb⟩
   obtain ⟨b0, b1, b2, b3, b4, b5⟩ := facts6 hrb; have Hlt := hZ9 (glt hrb); have HR := hZ9 (tright_any e.t Hx.out (w.alloc (.cells #[.int .i64 e.op, .string e.t.x, .int .i64 e.t.v.k, .int .i64 e.t.v.n, .string e.t.v.s, .slice A n c] 78)) (HW.out.on hba)); by_cases h0 : e.op = 0
   ·have q0 : (e.op == 0) = true := by simp [h0]
    have q1 : e.op < 1 := by omega
    have HL : Hid (rightE k e = (e.kids.isEmpty && rightT e.t)) := rightE_leaf h0; by_cases hn0 : n = 0
    ·have q2 : ((n : Int) == 0) = true := by simp [hn0]
     have hke : e.kids.isEmpty = true := by have := Hlen.out; simp; exact List.eq_nil_of_length_eq_zero (by omega)
     cases hr : rightT e.t with
     | true =>
       have HG : Hid (∀ w', Below w.heap.size w w' → P (.returned (.int .i64 0)) w') := fun w' hb => by rw [HP.out]; exact ⟨0, rfl, by rw [HL.out, hke, hr]; rfl, by omega, by omega, hb⟩
       rw [hr] at HR; clear HP hke hr h0 hn0 HL HBad HK; generalize hwb : (w.alloc (.cells #[.int .i64 e.op, .string e.t.x, .int .i64 e.t.v.k, .int .i64 e.t.v.n, .string e.t.v.s, .slice A n c] 78)) = wb at *; go_enter Tryz.func149, Tryz.ntmps149
       go_wp2_with fail
       try simp only [hwb]
       go_wp2_with fail
       refine HR.out.mono ?_; rintro e1 w1 ⟨rfl, hb⟩; have Hb := hZ9 hb; clear hb; go_wp2_with fail
       exact HG.out _ (below_next hba Hb.out)
     | false =>
       have HG : Hid (∀ w', Below w.heap.size w w' → P (.returned (.int .i64 (-1))) w') := HBad.out (by rw [HL.out, hr]; simp); rw [hr] at HR; clear HP hke hr h0 hn0 HL HBad HK; generalize hwb : (w.alloc (.cells #[.int .i64 e.op, .string e.t.x, .int .i64 e.t.v.k, .int .i64 e.t.v.n, .string e.t.v.s, .slice A n c] 78)) = wb at *; go_enter Tryz.func149, Tryz.ntmps149
       go_wp2_with fail
       try simp only [hwb]
       go_wp2_with fail
       refine HR.out.mono ?_; rintro e1 w1 ⟨rfl, hb⟩; have Hb := hZ9 hb; obtain ⟨c0, c1, c2, c3, c4, c5⟩ := facts6 ((hb.block _ Hlt.out).trans hrb); clear hb; go_wp2_with fail
       exact HG.out _ (below_next hba Hb.out)
    ·have q2 : ((n : Int) == 0) = false := by rw [beq_eq_false_iff_ne]; omega
     have hke : e.kids.isEmpty = false := by
      have := Hlen.out; cases h : e.kids with
      | nil => rw [h] at this; simp at this; omega
      | cons a l => rfl
     have HG : Hid (∀ w', Below w.heap.size w w' → P (.returned (.int .i64 (-1))) w') := HBad.out (by rw [HL.out, hke]; simp); clear HP hke h0 hn0 HL HBad HK HR; go_enter Tryz.func149, Tryz.ntmps149
     go_wp2_with fail
     exact HG.out _ hba
   ·have q0 : (e.op == 0) = false := by simp [h0]
    by_cases h1 : e.op < 1
    ·have HG : Hid (∀ w', Below w.heap.size w w' → P (.returned (.int .i64 (-1))) w') := HBad.out (rightE_bad h0 (opE_lo (by omega))); clear HP h0 HBad HK HR; go_enter Tryz.func149, Tryz.ntmps149
     go_wp2_with fail
     exact HG.out _ hba
    by_cases h3 : 3 < e.op
    ·have HG : Hid (∀ w', Below w.heap.size w w' → P (.returned (.int .i64 (-1))) w') := HBad.out (rightE_bad h0 (opE_hi (by omega))); clear HP h0 HBad HK HR; go_enter Tryz.func149, Tryz.ntmps149
     go_wp2_with fail
     exact HG.out _ hba
    by_cases hn2 : n = 2
    rotate_left
    ·have q2 : ((n : Int) != 2) = true := by simp; omega
     have HG : Hid (∀ w', Below w.heap.size w w' → P (.returned (.int .i64 (-1))) w') := HBad.out (rightE_kids h0 (by have := Hlen.out; omega)); clear HP h0 HBad HK HR; go_enter Tryz.func149, Tryz.ntmps149
     go_wp2_with fail
     exact HG.out _ hba
    subst hn2; by_cases hz : e.t = zT
    rotate_left
    ·have HG : Hid (∀ w', Below w.heap.size w w' → P (.returned (.int .i64 (-1))) w') := HBad.out (rightE_bad h0 (by simp [opE, hz])); rcases told_not_zero hz with hz | ⟨z0, hz⟩ | ⟨z0, z1, hz⟩ | ⟨z0, z1, z2, hz⟩ <;>
     ·clear HP h0 HBad HK HR; go_enter Tryz.func149, Tryz.ntmps149
      go_wp2_with fail
      exact HG.out _ (belowA (Below.refl _ _) _)
    have hop : opE e = true := by
     have : 1 ≤ e.op := by omega
     have : e.op ≤ 3 := by omega
     simp [opE, *]
    obtain ⟨z0, z1, z2, z3⟩ := told_zero.1 hz; by_cases hk0 : k = 0
    ·have HG : Hid (∀ w', Below w.heap.size w w' → P (.returned (.int .i64 (-1))) w') := HBad.out (by rw [hk0]; exact rightE_flat h0); have q4 : ((k : Int) == 0) = true := by simp [hk0]
     clear HP h0 HBad HK HR hop hz; go_enter Tryz.func149, Tryz.ntmps149
     go_wp2_with fail
     exact HG.out _ (belowA (Below.refl _ _) _)
    obtain ⟨k', hk'⟩ : ∃ k', k = k' + 1 := ⟨k - 1, by omega⟩
    have q4 : ((k : Int) == 0) = false := by rw [beq_eq_false_iff_ne]; omega
    have q5 : (k : Int) - 1 = (k' : Int) := by omega
    have q7 : wrap64 (k' : Int) = (k' : Int) := by unfold wrap64; omega
    have q6 : IntKind.i64.wrap (k' : Int) = (k' : Int) := by rw [IntWalk.i64_left]; exact q7
    obtain ⟨b, o, x, Ax, nx, cx, dx, rfl, hbb, hkx, hdx, x0, x1, x2, x3, x4, x5, fx0, fx1, fx2, hkkx⟩ := HK.out.exp_at (i := 0) (by omega); obtain ⟨b', o', y, Ay, ny, cy, dy, hAy, hbb', hky, hdy, y0, y1, y2, y3, y4, y5, fy0, fy1, fy2, hkky⟩ := HK.out.exp_at (i := 1) (by omega); injection hAy with hAy
    injection hAy with e1 e2 _
    subst e1 e2
    have hks : e.kids = [x, y] := by
     have h1 := hkx.out; have h2 := hky.out; have h3 := Hlen.out; match e.kids, h1, h2, h3 with
     | [a, b], h1, h2, _ => simp at h1 h2; rw [h1, h2]
    have HT : Hid (rightE k e = (rightE k' x && rightE k' y)) := by show _ = _; rw [hk']; exact rightE_two h0 hop hks
    have HGood : Hid (∀ (m : Int) w', decide (0 ≤ m) = (rightE k' x && rightE k' y) → -1 ≤ m → m ≤ k → Below w.heap.size w w' → P (.returned (.int .i64 m)) w') := fun m w' h h1 h2 hb => by rw [HP.out]; exact ⟨m, rfl, by rw [HT.out]; exact h, h1, h2, hb⟩
    have ex : e.t.x = ⟨#[]⟩ := by rw [hz]; rfl
    have ek : e.t.v.k = 0 := by rw [hz]; rfl
    have en : e.t.v.n = 0 := by rw [hz]; rfl
    have es : e.t.v.s = ⟨#[]⟩ := by rw [hz]; rfl
    clear z0 z1 z2 z3 HR; simp only [ex, ek, en, es] at hba hrb b0 b1 b2 b3 b4 b5 Hlt
    have CX : Hid (∀ W, Below (w.alloc (.cells #[.int .i64 e.op, .string ⟨#[]⟩, .int .i64 0, .int .i64 0, .string ⟨#[]⟩, .slice (some ⟨b, o, none⟩) 2 c] 78)).heap.size (w.alloc (.cells #[.int .i64 e.op, .string ⟨#[]⟩, .int .i64 0, .int .i64 0, .string ⟨#[]⟩, .slice (some ⟨b, o, none⟩) 2 c] 78)) W → Calls Tryz.prog 149 #[.agg #[.int .i64 x.op, .string x.t.x, .int .i64 x.t.v.k, .int .i64 x.t.v.n, .string x.t.v.s, .slice Ax nx cx], .int .i64 (k' : Int)] W (RetDeep k' x W)) := fun W hW =>
     IH.out k' (by omega) x Ax nx cx dx W (by omega) ((hkkx.keep hba).keep hW) fx1 ((HW.out.on hba).on hW)
    have CY : Hid (∀ W, Below (w.alloc (.cells #[.int .i64 e.op, .string ⟨#[]⟩, .int .i64 0, .int .i64 0, .string ⟨#[]⟩, .slice (some ⟨b, o, none⟩) 2 c] 78)).heap.size (w.alloc (.cells #[.int .i64 e.op, .string ⟨#[]⟩, .int .i64 0, .int .i64 0, .string ⟨#[]⟩, .slice (some ⟨b, o, none⟩) 2 c] 78)) W → Calls Tryz.prog 149 #[.agg #[.int .i64 y.op, .string y.t.x, .int .i64 y.t.v.k, .int .i64 y.t.v.n, .string y.t.v.s, .slice Ay ny cy], .int .i64 (k' : Int)] W (RetDeep k' y W)) := fun W hW =>
     IH.out k' (by omega) y Ay ny cy dy W (by omega) ((hkky.keep hba).keep hW) fy1 ((HW.out.on hba).on hW)
    simp only [Nat.zero_mul, Nat.add_zero, Nat.one_mul] at x0 x1 x2 x3 x4 x5 y0 y1 y2 y3 y4 y5; have Hk := hZ9 (fun W (hW : Below (w.alloc (.cells #[.int .i64 e.op, .string ⟨#[]⟩, .int .i64 0, .int .i64 0, .string ⟨#[]⟩, .slice (some ⟨b, o, none⟩) 2 c] 78)).heap.size (w.alloc (.cells #[.int .i64 e.op, .string ⟨#[]⟩, .int .i64 0, .int .i64 0, .string ⟨#[]⟩, .slice (some ⟨b, o, none⟩) 2 c] 78)) W) => show W.cell? ⟨w.heap.size, 5, none⟩ = some (.slice (some ⟨b, o, none⟩) 2 c) ∧ W.cell? ⟨b, o, none⟩ = some (.int .i64 x.op) ∧ W.cell? ⟨b, o + 1, none⟩ = some (.string x.t.x) ∧ W.cell? ⟨b, o + 2, none⟩ = some (.int .i64 x.t.v.k) ∧ W.cell? ⟨b, o + 3, none⟩ = some (.int .i64 x.t.v.n) ∧ W.cell? ⟨b, o + 4, none⟩ = some (.string x.t.v.s) ∧ W.cell? ⟨b, o + 5, none⟩ = some (.slice Ax nx cx) ∧ W.cell? ⟨b, o + 6, none⟩ = some (.int .i64 y.op) ∧ W.cell? ⟨b, o + 6 + 1, none⟩ = some (.string y.t.x) ∧ W.cell? ⟨b, o + 6 + 2, none⟩ = some (.int .i64 y.t.v.k) ∧ W.cell? ⟨b, o + 6 + 3, none⟩ = some (.int .i64 y.t.v.n) ∧ W.cell? ⟨b, o + 6 + 4, none⟩ = some (.string y.t.v.s) ∧ W.cell? ⟨b, o + 6 + 5, none⟩ = some (.slice Ay ny cy) from ⟨below_cell hW b5, below_cell hW (cellA x0), below_cell hW (cellA x1), below_cell hW (cellA x2), below_cell hW (cellA x3), below_cell hW (cellA x4), below_cell hW (cellA x5), below_cell hW (cellA y0), below_cell hW (cellA y1), below_cell hW (cellA y2), below_cell hW (cellA y3), below_cell hW (cellA y4), below_cell hW (cellA y5)⟩); have r5 : k' + 1 = k := hk'.symm; have R5 := hZ9 r5; clear HP h0 HBad HK hop IH hks HT hkx hky hk' r5 fx0 fx1 fx2 fy0 fy1 fy2 hkkx hkky hdx hdy x0 x1 x2 x3 x4 x5 y0 y1 y2 y3 y4 y5 hbb hbb' hz hk0 Hx Hlen; generalize hX : rightE k' x = X at *; generalize hY : rightE k' y = Y at *; go_enter Tryz.func149, Tryz.ntmps149
    go_wp2_with fail
    generalize (w.alloc (.cells #[.int .i64 e.op, .string ⟨#[]⟩, .int .i64 0, .int .i64 0, .string ⟨#[]⟩, .slice (some ⟨b, o, none⟩) 2 c] 78)) = wb at *; have hb1 := Below.refl wb.heap.size wb; have Hfirst : Hid True := trivial
    go_region_held3 (fun W => W.cell? ⟨w.heap.size, 5, none⟩ = some (.slice (some ⟨b, o, none⟩) 2 c) ∧ W.cell? ⟨b, o, none⟩ = some (.int .i64 x.op) ∧ W.cell? ⟨b, o + 1, none⟩ = some (.string x.t.x) ∧ W.cell? ⟨b, o + 2, none⟩ = some (.int .i64 x.t.v.k) ∧ W.cell? ⟨b, o + 3, none⟩ = some (.int .i64 x.t.v.n) ∧ W.cell? ⟨b, o + 4, none⟩ = some (.string x.t.v.s) ∧ W.cell? ⟨b, o + 5, none⟩ = some (.slice Ax nx cx) ∧ W.cell? ⟨b, o + 6, none⟩ = some (.int .i64 y.op) ∧ W.cell? ⟨b, o + 6 + 1, none⟩ = some (.string y.t.x) ∧ W.cell? ⟨b, o + 6 + 2, none⟩ = some (.int .i64 y.t.v.k) ∧ W.cell? ⟨b, o + 6 + 3, none⟩ = some (.int .i64 y.t.v.n) ∧ W.cell? ⟨b, o + 6 + 4, none⟩ = some (.string y.t.v.s) ∧ W.cell? ⟨b, o + 6 + 5, none⟩ = some (.slice Ay ny cy))
     (first
      | (refine Hk.out _ ?_; (repeat (first | with_reducible exact Below.refl _ _ | with_reducible assumption | with_reducible refine Below.drew ?_ | with_reducible refine belowA ?_ _)); done)
      | go_keep)
     ((first
       | (go_at_call 149
          clear Hfirst; refine (CX.out _ (Below.refl _ _).drew).mono ?_; rintro e1 w1 ⟨m1, rfl, hm1, l1, u1, hq1⟩; have hb1 : Below wb.heap.size wb w1 := ((Below.refl wb.heap.size wb).drew).trans hq1; have Hm1 := hZ9 hm1
          clear hq1 hm1)
       | (go_at_call 149
          refine (CY.out _ hb1).mono ?_; rintro e1 w2 ⟨m2, rfl, hm2, l2, u2, hq2⟩; have hb2 : Below wb.heap.size wb w2 := hb1.trans (hq2.mono hb1.size); have Hm2 := hZ9 hm2
          clear hq2 hm2)))
    have HB2 : Hid (Below w.heap.size w w2) := below_next hba hb2; have K0 : (k' : Int) ≤ (k : Int) - 1 := by have := R5.out; omega
    clear Hk CX CY b0 b1 b2 b3 b4 b5 hrb hb1 hb2; by_cases p1 : m1 < 0
    ·have HG : Hid (∀ w', Below w.heap.size w w' → P (.returned (.int .i64 (-1))) w') := fun w' hb => HGood.out (-1) w' (by
      have h1 := Hm1.out; have h2 : decide (0 ≤ m1) = false := by simp; omega
      rw [← hX, ← h1, h2]; rfl) (by omega) (by omega) hb
     clear HGood Hm1 Hm2; go_wp2_with fail
     exact HG.out _ HB2.out
    by_cases p2 : m2 < 0
    ·have HG : Hid (∀ w', Below w.heap.size w w' → P (.returned (.int .i64 (-1))) w') := fun w' hb => HGood.out (-1) w' (by
      have h1 := Hm2.out; have h2 : decide (0 ≤ m2) = false := by simp; omega
      rw [← hY, ← h1, h2]; simp) (by omega) (by omega) hb
     clear HGood Hm1 Hm2; go_wp2_with fail
     exact HG.out _ HB2.out
    have hX1 : X = true := by rw [← hX, ← Hm1.out]; simp; omega
    have hY1 : Y = true := by rw [← hY, ← Hm2.out]; simp; omega
    have HG : Hid (∀ (m : Int) w', 0 ≤ m → m ≤ (k : Int) → Below w.heap.size w w' → P (.returned (.int .i64 m)) w') := fun m w' h1 h2 hb => HGood.out m w' (by rw [hX1, hY1]; simp; omega) (by omega) h2 hb
    clear HGood Hm1 Hm2 hX hY hX1 hY1; by_cases p3 : m1 ≤ m2
    ·have e3 : max m1 m2 = m2 := by omega
     have e4 : wrap64 (1 + m2) = 1 + m2 := by unfold wrap64; omega
     go_wp2_with fail
     exact HG.out _ _ (by omega) (by omega) HB2.out
    ·have e3 : max m1 m2 = m1 := by omega
     have e4 : wrap64 (1 + m1) = 1 + m1 := by unfold wrap64; omega
     go_wp2_with fail
     exact HG.out _ _ (by omega) (by omega) HB2.out
theorem rightExp_any (e : GExp) (A : Option Addr) (n c d : Nat) (w : World) (hk : SliceIs (Enc.exp d) w w.heap.size A n c e.kids) (hx : e.t.x.size ≤ reachN) (hW : LexW w) :
 Calls Tryz.prog 114 #[.agg #[.int .i64 e.op, .string e.t.x, .int .i64 e.t.v.k, .int .i64 e.t.v.n, .string e.t.v.s, .slice A n c]] w (RetBool (rightE 20 e) w) := by
 have hrb : (w.alloc (.cells #[.int .i64 e.op, .string e.t.x, .int .i64 e.t.v.k, .int .i64 e.t.v.n, .string e.t.v.s, .slice A n c] 78)).heap[w.heap.size]? = some (.cells #[.int .i64 e.op, .string e.t.x, .int .i64 e.t.v.k, .int .i64 e.t.v.n, .string e.t.v.s, .slice A n c] 78 (0, 0)) := heapNew rfl; have hba : Below w.heap.size w (w.alloc (.cells #[.int .i64 e.op, .string e.t.x, .int .i64 e.t.v.k, .int .i64 e.t.v.n, .string e.t.v.s, .slice A n c] 78)) := belowA (Below.refl _ _) _; have HC := hZ9 (deep_any 20 e A n c d _ (by omega) (hk.keep hba) hx (hW.on hba)); obtain ⟨b0, b1, b2, b3, b4, b5⟩ := facts6 hrb; clear hk hx hW hrb; generalize hwb : (w.alloc (.cells #[.int .i64 e.op, .string e.t.x, .int .i64 e.t.v.k, .int .i64 e.t.v.n, .string e.t.v.s, .slice A n c] 78)) = wb at *; go_enter Tryz.func114, Tryz.ntmps114
 go_wp2_with fail
 try simp only [hwb]
 go_wp2_with fail
 refine HC.out.mono ?_; rintro e1 w1 ⟨m, rfl, hm, -, -, hb⟩; have Hm := hZ9 hm; have Hb := hZ9 hb; clear hm hb; go_wp2_with fail
 go_ret; exact ⟨by rw [← Hm.out]; rfl, below_next hba Hb.out⟩
def noneE (e : GExp) : Bool := decide (e.op = 0) && (decide (e.t = zT) && e.kids.isEmpty)
theorem none_any (e : GExp) (A : Option Addr) (n c : Nat) (w : World) (hn : e.kids.length = n) (hn2 : n ≤ reachN) :
 Calls Tryz.prog 113 #[.agg #[.int .i64 e.op, .string e.t.x, .int .i64 e.t.v.k, .int .i64 e.t.v.n, .string e.t.v.s, .slice A n c]] w (RetBool (noneE e) w) := by
 have hn3 : n ≤ 140737488351232 := hn2; have Hn := hZ9 hn; obtain ⟨B, HB⟩ : ∃ B, Hid (B = noneE e) := ⟨_, rfl⟩
 rw [← HB.out]; clear hn hn2; by_cases h0 : e.op = 0
 rotate_left
 ·have q0 : (e.op == 0) = false := by simp [h0]
  have HE : Hid (B = false) := by show _ = _; rw [HB.out]; simp [noneE, h0]
  clear h0 HB; go_enter Tryz.func113, Tryz.ntmps113
  go_wp2_with fail
  go_ret; exact ⟨by rw [HE.out]; rfl, belowA (Below.refl _ _) _⟩
 have q0 : (e.op == 0) = true := by simp [h0]
 by_cases hz : e.t = zT
 rotate_left
 ·have HE : Hid (B = false) := by show _ = _; rw [HB.out]; simp [noneE, hz]
  rcases told_not_zero hz with hz | ⟨z0, hz⟩ | ⟨z0, z1, hz⟩ | ⟨z0, z1, z2, hz⟩ <;>
  ·clear h0 HB; go_enter Tryz.func113, Tryz.ntmps113
   go_wp2_with fail
   go_ret; exact ⟨by rw [HE.out]; rfl, belowA (Below.refl _ _) _⟩
 obtain ⟨z0, z1, z2, z3⟩ := told_zero.1 hz; by_cases hk : n = 0
 ·have q2 : ((n : Int) == 0) = true := by simp [hk]
  have HE : Hid (B = true) := by show _ = _; rw [HB.out]; simp [noneE, h0, hz]; exact List.eq_nil_of_length_eq_zero (by have := Hn.out; omega)
  clear h0 HB hz hk; go_enter Tryz.func113, Tryz.ntmps113
  go_wp2_with fail
  go_ret; exact ⟨by rw [HE.out]; rfl, belowA (Below.refl _ _) _⟩
 ·have q2 : ((n : Int) == 0) = false := by rw [beq_eq_false_iff_ne]; omega
  have HE : Hid (B = false) := by show _ = _; rw [HB.out]; simp [noneE, h0, hz]; intro h; have := Hn.out; rw [h] at this; simp at this; omega
  clear h0 HB hz hk; go_enter Tryz.func113, Tryz.ntmps113
  go_wp2_with fail
  go_ret; exact ⟨by rw [HE.out]; rfl, belowA (Below.refl _ _) _⟩
end Go.Proofs.YtaeedepojpablaaGreatDoor
