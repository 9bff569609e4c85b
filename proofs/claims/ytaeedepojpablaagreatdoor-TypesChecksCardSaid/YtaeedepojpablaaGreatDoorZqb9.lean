/- My own texts TRefE, TRefL, as far as this claim needs them. -/
import Derived.Test.YtaeedepojpablaaGreatDoorZq17
import Derived.Test.YtaeedepojpablaaGreatDoorZqb3
set_option linter.unusedVariables false
set_option linter.unusedSimpArgs false
set_option maxRecDepth 1000000
set_option maxHeartbeats 16000000
namespace Go.Proofs.YtaeedepojpablaaGreatDoor
open Go.RowKit
abbrev exp5 (e : GExp) (A : Option Addr) (n c : Nat) : Value := .agg #[.int .i64 e.op, .string e.t.x, .int .i64 e.t.v.k, .int .i64 e.t.v.n, .string e.t.v.s, .slice A n c]
theorem refRightE_any : ∀ (k : Nat) (e : GExp) (A : Option Addr) (n c d : Nat) (w : World), k ≤ 20 → SliceIs (Enc.exp d) w w.heap.size A n c e.kids → e.t.v.ok →
 Calls Tryz.prog 143 #[exp5 e A n c, .int .i64 (k : Int)] w (RetBool (rightE k e) w) := by
 intro k; induction k using Nat.strongRecOn with
 | ind k ih =>
   intro e A n c d w hk20 hk hv; have IH := hZ9 ih; have hn := hk.bound; have HK := hZ9 hk; have Hlen := hZ9 hk.1; have hrb : (w.alloc (.cells #[.int .i64 e.op, .string e.t.x, .int .i64 e.t.v.k, .int .i64 e.t.v.n, .string e.t.v.s, .slice A n c] 105)).heap[w.heap.size]? = some (.cells #[.int .i64 e.op, .string e.t.x, .int .i64 e.t.v.k, .int .i64 e.t.v.n, .string e.t.v.s, .slice A n c] 105 (0, 0)) := heapNew rfl; have hba : Below w.heap.size w (w.alloc (.cells #[.int .i64 e.op, .string e.t.x, .int .i64 e.t.v.k, .int .i64 e.t.v.n, .string e.t.v.s, .slice A n c] 105)) := belowA (Below.refl _ _) _; obtain ⟨P, HP⟩ : ∃ P, Hid (P = RetBool (rightE k e) w) := ⟨_, rfl⟩
   rw [← HP.out]; have HBad : Hid (rightE k e = false → ∀ w', Below w.heap.size w w' → P (.returned (.bool false)) w') := fun h w' hb => by rw [HP.out, h]; exact ⟨rfl, hb⟩
   obtain ⟨b0, b1, b2, b3, b4, b5⟩ := facts6 hrb; have Hlt := hZ9 (glt hrb); have HR := hZ9 (refTright_any e.t hv (w.alloc (.cells #[.int .i64 e.op, .string e.t.x, .int .i64 e.t.v.k, .int .i64 e.t.v.n, .string e.t.v.s, .slice A n c] 105))); clear hk hv ih; by_cases h0 : e.op = 0
   ·have q0 : (e.op == 0) = true := by simp [h0]
    have HL : Hid (rightE k e = (e.kids.isEmpty && rightT e.t)) := rightE_leaf h0; by_cases hn0 : n = 0
    ·have q2 : ((n : Int) == 0) = true := by simp [hn0]
     have hke : e.kids.isEmpty = true := by have := Hlen.out; simp; exact List.eq_nil_of_length_eq_zero (by omega)
     have HG : Hid (∀ w', Below w.heap.size w w' → P (.returned (.bool (rightT e.t))) w') := fun w' hb => by rw [HP.out, HL.out, hke]; exact ⟨rfl, hb⟩
     clear HP hke h0 hn0 HL HBad HK; generalize hwb : (w.alloc (.cells #[.int .i64 e.op, .string e.t.x, .int .i64 e.t.v.k, .int .i64 e.t.v.n, .string e.t.v.s, .slice A n c] 105)) = wb at *; go_enter Tryz.func143, Tryz.ntmps143
     go_wp2_with fail
     try simp only [hwb]
     go_wp2_with fail
     refine HR.out.mono ?_; rintro e1 w1 ⟨rfl, hb⟩; have Hb := hZ9 hb; clear hb; generalize rightT e.t = bb at *; cases bb <;>
     ·go_wp2_with fail
      first | exact HG.out _ (below_next hba Hb.out) | (go_ret; exact HG.out _ (below_next hba Hb.out))
    ·have q2 : ((n : Int) == 0) = false := by rw [beq_eq_false_iff_ne]; omega
     have hke : e.kids.isEmpty = false := by
      have := Hlen.out; cases h : e.kids with
      | nil => rw [h] at this; simp at this; omega
      | cons a l => rfl
     have HG : Hid (∀ w', Below w.heap.size w w' → P (.returned (.bool false)) w') := HBad.out (by rw [HL.out, hke]; simp); clear HP hke h0 hn0 HL HBad HK HR; go_enter Tryz.func143, Tryz.ntmps143
     go_wp2_with fail
     first | exact HG.out _ hba | (go_ret; exact HG.out _ hba)
   ·have q0 : (e.op == 0) = false := by simp [h0]
    by_cases hk0 : k = 0
    ·have HG : Hid (∀ w', Below w.heap.size w w' → P (.returned (.bool false)) w') := HBad.out (by subst hk0; exact rightE_flat h0); have k1 : ¬ (0 : Int) < (k : Int) := by omega
     clear HP h0 HBad HK HR hk0; go_enter Tryz.func143, Tryz.ntmps143
     go_wp2_with fail
     first | exact HG.out _ hba | (go_ret; exact HG.out _ hba)
    have k1 : (0 : Int) < (k : Int) := by omega
    by_cases h1 : e.op < 1
    ·have h1' : ¬ 1 ≤ e.op := by omega
     have HG : Hid (∀ w', Below w.heap.size w w' → P (.returned (.bool false)) w') := HBad.out (rightE_bad h0 (opE_lo (by omega))); clear HP h0 HBad HK HR hk0 h1; go_enter Tryz.func143, Tryz.ntmps143
     go_wp2_with fail
     first | exact HG.out _ hba | (go_ret; exact HG.out _ hba)
    have h1' : 1 ≤ e.op := by omega
    by_cases h3 : 3 < e.op
    ·have h3' : ¬ e.op ≤ 3 := by omega
     have HG : Hid (∀ w', Below w.heap.size w w' → P (.returned (.bool false)) w') := HBad.out (rightE_bad h0 (opE_hi (by omega))); clear HP h0 HBad HK HR hk0 h1 h3; go_enter Tryz.func143, Tryz.ntmps143
     go_wp2_with fail
     first | exact HG.out _ hba | (go_ret; exact HG.out _ hba)
    have h3' : e.op ≤ 3 := by omega
    by_cases hn2 : n = 2
    rotate_left
    ·have q2 : ((n : Int) == 2) = false := by rw [beq_eq_false_iff_ne]; omega
     have HG : Hid (∀ w', Below w.heap.size w w' → P (.returned (.bool false)) w') := HBad.out (rightE_kids h0 (by have := Hlen.out; omega)); clear HP h0 HBad HK HR hk0 h1 h3 hn2; go_enter Tryz.func143, Tryz.ntmps143
     go_wp2_with fail
     first | exact HG.out _ hba | (go_ret; exact HG.out _ hba)
    subst hn2; have q2 : (((2 : Nat) : Int) == 2) = true := by decide
    by_cases hz : e.t = zT
    rotate_left
    ·have HG : Hid (∀ w', Below w.heap.size w w' → P (.returned (.bool false)) w') := HBad.out (rightE_bad h0 (by simp [opE, hz])); rcases told_not_zero hz with hz | ⟨z0, hz⟩ | ⟨z0, z1, hz⟩ | ⟨z0, z1, z2, hz⟩ <;>
     ·clear HP h0 HBad HK HR hk0 h1 h3; go_enter Tryz.func143, Tryz.ntmps143
      go_wp2_with fail
      first | exact HG.out _ (belowA (Below.refl _ _) _) | (go_ret; exact HG.out _ (belowA (Below.refl _ _) _))
    obtain ⟨z0, z1, z2, z3⟩ := told_zero.1 hz; obtain ⟨b, o, ka, Aa, na, ca, da, hA, hb, hka, hda, x0, x1, x2, x3, x4, x5, -, -, fa, hkka⟩ := HK.out.exp_at (i := 0) (by omega); obtain ⟨b', o', kb, Ab, nb, cb, db, hA', hb', hkb, hdb, y0, y1, y2, y3, y4, y5, -, -, fb, hkkb⟩ := HK.out.exp_at (i := 1) (by omega); subst hA; injection hA' with hA'
    injection hA' with h4 h5 _
    subst h4 h5; simp only [Nat.zero_mul, Nat.add_zero] at x0 x1 x2 x3 x4 x5; simp only [Nat.one_mul] at y0 y1 y2 y3 y4 y5; have hop : opE e = true := by simp [opE, h1', h3', hz]
    obtain ⟨k', rfl⟩ : ∃ k', k = k' + 1 := ⟨k - 1, by omega⟩
    have hkids : e.kids = [ka, kb] := by
     have h9 := Hlen.out; match hq : e.kids, h9 with
     | [u, v], _ =>
       have e1 := hka.out; have e2 := hkb.out
       rw [hq] at e1 e2; simp at e1 e2
       rw [e1, e2]
    have HV : Hid (rightE (k' + 1) e = (rightE k' ka && rightE k' kb)) := rightE_two h0 hop hkids; have kk : ((k' + 1 : Nat) : Int) - 1 = (k' : Int) := by omega
    have kk2 : wrap64 (((k' : Int) + 1) - 1) = (k' : Int) := by unfold wrap64; omega
    have HCa := hZ9 (fun (W : World) (hb : Below w.heap.size w W) => IH.out k' (by omega) ka Aa na ca da W (by omega) (hkka.keep hb) fa); have HCb := hZ9 (fun (W : World) (hb : Below w.heap.size w W) => IH.out k' (by omega) kb Ab nb cb db W (by omega) (hkkb.keep hb) fb); have HKe := hZ9 (fun (W : World) (hb : Below w.heap.size w W) => And.intro (below_cell hb y0) (And.intro (below_cell hb y1) (And.intro (below_cell hb y2) (And.intro (below_cell hb y3) (And.intro (below_cell hb y4) (below_cell hb y5)))))); have HG1 : Hid (rightE k' ka = false → ∀ w', Below w.heap.size w w' → P (.returned (.bool false)) w') := fun h => HBad.out (by rw [HV.out, h]; rfl)
    have HG2 : Hid (rightE k' ka = true → ∀ w', Below w.heap.size w w' → P (.returned (.bool (rightE k' kb))) w') := fun h w' hb => by rw [HP.out, HV.out, h]; exact ⟨rfl, hb⟩
    clear h0 h1 h3 hz hop hkids HK HBad HP hka hkb hda hdb hkka hkkb hk0 HR IH HV y0 y1 y2 y3 y4 y5; go_enter Tryz.func143, Tryz.ntmps143
    go_wp2_with fail
    generalize hwv : w.alloc _ = wv; have hbv : Below w.heap.size w wv := by rw [← hwv]; exact belowA (Below.refl _ _) _
    have hgv : wv.heap[w.heap.size]? = some (.cells #[.int .i64 e.op, .string e.t.x, .int .i64 0, .int .i64 0, .string e.t.v.s, .slice (some ⟨b, o, none⟩) 2 c] 105 (0, 0)) := by rw [← hwv]; exact heapNew rfl
    refine (HCa.out wv hbv).mono ?_; rintro e1 w1 ⟨rfl, hb1⟩; have hbw1 := below_next hbv hb1; obtain ⟨y0, y1, y2, y3, y4, y5⟩ := HKe.out w1 hbw1; have HC2 := hZ9 (HCb.out w1 hbw1); have Hb1 := hZ9 hbw1; have hg := (hb1.block _ (glt hgv)).trans hgv; clear b0 b1 b2 b3 b4 b5 x0 x1 x2 x3 x4 x5 HCa HCb HKe hb1 hrb hba hwv hgv hbw1 hbv; obtain ⟨b0, b1, b2, b3, b4, b5⟩ := facts6 hg; cases hr : rightE k' ka with
    | false =>
      have HG3 := hZ9 (HG1.out hr); clear HG1 HG2 hr; go_wp2_with fail
      first | exact HG3.out _ Hb1.out | (go_ret; exact HG3.out _ Hb1.out)
    | true =>
      have HG3 := hZ9 (HG2.out hr); clear HG1 HG2 hr; go_wp2_with fail
      refine HC2.out.mono ?_; rintro e1 w2 ⟨rfl, hb2⟩; have Hb2 := hZ9 (below_next Hb1.out hb2); clear hb2; generalize rightE k' kb = bb at *; cases bb <;>
      ·go_wp2_with fail
       first | exact HG3.out _ Hb2.out | (go_ret; exact HG3.out _ Hb2.out)
theorem refRightExp_any (e : GExp) (A : Option Addr) (n c d : Nat) (w : World) (hk : SliceIs (Enc.exp d) w w.heap.size A n c e.kids) (hv : e.t.v.ok) :
 Calls Tryz.prog 108 #[exp5 e A n c] w (RetBool (rightE 20 e) w) := by
 have hrb : (w.alloc (.cells #[.int .i64 e.op, .string e.t.x, .int .i64 e.t.v.k, .int .i64 e.t.v.n, .string e.t.v.s, .slice A n c] 105)).heap[w.heap.size]? = some (.cells #[.int .i64 e.op, .string e.t.x, .int .i64 e.t.v.k, .int .i64 e.t.v.n, .string e.t.v.s, .slice A n c] 105 (0, 0)) := heapNew rfl; have hba : Below w.heap.size w (w.alloc (.cells #[.int .i64 e.op, .string e.t.x, .int .i64 e.t.v.k, .int .i64 e.t.v.n, .string e.t.v.s, .slice A n c] 105)) := belowA (Below.refl _ _) _; obtain ⟨b0, b1, b2, b3, b4, b5⟩ := facts6 hrb; have HC := hZ9 (refRightE_any 20 e A n c d _ (by decide) (hk.keep hba) hv); clear hrb; go_enter Tryz.func108, Tryz.ntmps108
 go_wp2_with fail
 refine HC.out.mono ?_; rintro r w1 ⟨rfl, hb⟩; go_wp2_with fail
 go_ret; exact ⟨rfl, below_next hba hb⟩
theorem refZero_any (e : GExp) (A : Option Addr) (n c : Nat) (w : World) (hn : e.kids.length = n) (hn2 : n ≤ reachN) :
 Calls Tryz.prog 107 #[exp5 e A n c] w (RetBool (noneE e) w) := by
 have hn3 : n ≤ 140737488351232 := hn2; have Hn := hZ9 hn; obtain ⟨B, HB⟩ : ∃ B, Hid (B = noneE e) := ⟨_, rfl⟩
 rw [← HB.out]; clear hn hn2; by_cases h0 : e.op = 0
 rotate_left
 ·have q0 : (e.op == 0) = false := by simp [h0]
  have HE : Hid (B = false) := by show _ = _; rw [HB.out]; simp [noneE, h0]
  clear h0 HB; go_enter Tryz.func107, Tryz.ntmps107
  go_wp2_with fail
  go_ret; exact ⟨by rw [HE.out]; rfl, belowA (Below.refl _ _) _⟩
 have q0 : (e.op == 0) = true := by simp [h0]
 by_cases hk : n = 0
 rotate_left
 ·have q2 : ((n : Int) == 0) = false := by rw [beq_eq_false_iff_ne]; omega
  have HE : Hid (B = false) := by show _ = _; rw [HB.out]; simp [noneE, h0]; intro _ h; have := Hn.out; rw [h] at this; simp at this; omega
  clear h0 HB hk; go_enter Tryz.func107, Tryz.ntmps107
  go_wp2_with fail
  go_ret; exact ⟨by rw [HE.out]; rfl, belowA (Below.refl _ _) _⟩
 have q2 : ((n : Int) == 0) = true := by simp [hk]
 have hke : e.kids = [] := List.eq_nil_of_length_eq_zero (by have := Hn.out; omega); by_cases hz : e.t = zT
 rotate_left
 ·have HE : Hid (B = false) := by show _ = _; rw [HB.out]; simp [noneE, hz]
  rcases told_not_zero hz with hz | ⟨z0, hz⟩ | ⟨z0, z1, hz⟩ | ⟨z0, z1, z2, hz⟩ <;>
  ·clear h0 HB hk hke; go_enter Tryz.func107, Tryz.ntmps107
   go_wp2_with fail
   go_ret; exact ⟨by rw [HE.out]; rfl, belowA (Below.refl _ _) _⟩
 obtain ⟨z0, z1, z2, z3⟩ := told_zero.1 hz; have HE : Hid (B = true) := by show _ = _; rw [HB.out]; simp [noneE, h0, hz, hke]
 clear h0 HB hz hk hke; go_enter Tryz.func107, Tryz.ntmps107
 go_wp2_with fail
 go_ret; exact ⟨by rw [HE.out]; rfl, belowA (Below.refl _ _) _⟩
theorem all_take {α : Type} {l : List α} {p : α → Bool} {k : Nat} {x : α} (hx : l[k]? = some x) : (l.take (k + 1)).all p = ((l.take k).all p && p x) := by
 rw [List.take_add_one, hx]; simp
theorem all_false {α : Type} {l : List α} {p : α → Bool} {k : Nat} {x : α} (hx : l[k]? = some x) (h : p x = false) : l.all p = false := by
 cases hl : l.all p
 ·rfl
 ·rw [List.all_eq_true.1 hl x (List.mem_of_getElem? hx)] at h; cases h
theorem refRightAtom_any (x : GAtom) (a : Hd) (w : World) (hl : SliceIs Enc.told w w.heap.size a.A a.n a.c x.args) : Calls Tryz.prog 70 #[.agg #[.string x.rel, a.v]] w (RetBool (atomB x) w) := by
 obtain ⟨A, n, c⟩ := a; obtain ⟨P, HP⟩ : ∃ P, Hid (P = RetBool (atomB x) w) := ⟨_, rfl⟩
 have HBad : Hid ((x.args.length ≤ 6 → x.args.all rightT = false) → ∀ w', Below w.heap.size w w' → P (.returned (.bool false)) w') := fun h w' hb => by
  rw [HP.out]; refine ⟨?_, hb⟩
  have : atomB x = false := by
   unfold atomB; by_cases h6 : x.args.length ≤ 6
   ·rw [h h6]; simp
   ·simp [h6]
  rw [this]
 have HGood : Hid (x.args.length ≤ 6 → x.args.all rightT = true → ∀ w', Below w.heap.size w w' → P (.returned (.bool (singleB 2 x.rel))) w') := fun h1 h2 w' hb => by
  rw [HP.out]; refine ⟨?_, hb⟩; unfold atomB; rw [h2]; simp [h1]
 rw [← HP.out]; have hn := hl.bound; have HL := hZ9 hl; have Hlen := hZ9 hl.1; have HN := hZ9 (fun W => refNamed_any x.rel W); have HT := hZ9 (fun (t : GTold) (ht : t.v.ok) W => refTright_any t ht W); have hrb : (w.alloc (.cells #[.string x.rel, .slice A n c] 62)).heap[w.heap.size]? = some (.cells #[.string x.rel, .slice A n c] 62 (0, 0)) := heapNew rfl; have hba : Below w.heap.size w (w.alloc (.cells #[.string x.rel, .slice A n c] 62)) := belowA (Below.refl _ _) _; dsimp only [Hd.v]; clear hl HP; go_enter Tryz.func70, Tryz.ntmps70
 go_wp2_with fail
 go_loopw [3] (fun i wr => ∃ k : Nat, k ≤ n ∧ i = .int .i64 k ∧ k ≤ 6 ∧ Hid ((x.args.take k).all rightT = true) ∧ wr.heap[w.heap.size]? = some (.cells #[.string x.rel, .slice A n c] 62 (0, 0)) ∧ Below w.heap.size w wr) (fun i _ => n - (intOf i).toNat)
 case atStart => exact ⟨0, by omega, rfl, by omega, by show _ = _; simp, hrb, hba⟩
 case round =>
  obtain ⟨k, hk, rfl, hk6, HA, hg, hbr⟩ := hrel; clear hrb hba; have i0 : (0 : Int) ≤ (k : Int) := by omega
  obtain ⟨b0, b1⟩ := facts2 hg; by_cases hlt : k < n
  ·have i1 : (k : Int) < (n : Int) := by omega
   by_cases h5 : 5 < k
   ·have h5' : (5 : Int) < (k : Int) := by omega
    have HG := hZ9 (HBad.out (fun h => by have := Hlen.out; omega)); have HBr := hZ9 hbr; clear hbr HBad HGood HA; go_wp2_with fail
    first | exact HG.out _ HBr.out | (go_ret; exact HG.out _ HBr.out)
   have h5' : ¬ (5 : Int) < (k : Int) := by omega
   obtain ⟨b, o, t, rfl, hb, ht, x0, x1, x2, x3, f1, f2⟩ := (HL.out.below hbr).told_at hlt; have HC := hZ9 (HT.out t f2 wr); have HTk : Hid ((x.args.take (k + 1)).all rightT = rightT t) := by show _ = _; rw [all_take ht.out, HA.out]; rfl
   have HTb : Hid (rightT t = false → ∀ w', Below w.heap.size w w' → P (.returned (.bool false)) w') := fun h => HBad.out (fun _ => all_false ht.out h)
   clear ht; go_wp2_with fail
   refine HC.out.mono ?_; rintro r w1 ⟨rfl, hb1⟩; have hg1 := (hb1.block _ (glt hg)).trans hg; have HBr := hZ9 (below_next hbr hb1); cases hr : rightT t with
   | false =>
     have HG := hZ9 (HTb.out hr); clear hbr HBad HGood HA hr HTb HTk hb1 hg; go_wp2_with fail
     first | exact HG.out _ HBr.out | (go_ret; exact HG.out _ HBr.out)
   | true =>
     have HT1 : Hid ((x.args.take (k + 1)).all rightT = true) := by show _ = _; rw [HTk.out, hr]
     have hg2 := hZ9 hg1; clear hr HTb HTk hb1 hg hg1 hbr; go_wp2_with fail
     go_roundw
     case rel => exact ⟨k + 1, by omega, by go_num, by omega, HT1, hg2.out, HBr.out⟩
     case measure => simp [intOf]; omega
  ·have i1 : ¬ (k : Int) < (n : Int) := by omega
   have hkn : k = n := by omega
   subst hkn; have HG := hZ9 (HGood.out (by have := Hlen.out; omega) (by have := HA.out; rwa [List.take_of_length_le (by have := Hlen.out; omega)] at this)); have HBr := hZ9 hbr; clear hbr HBad HGood HA; go_wp2_with fail
   refine (HN.out wr).mono ?_; rintro r w1 ⟨rfl, hb1⟩; have HB1 := hZ9 (below_next HBr.out hb1); clear hb1; go_wp2_with fail
   first | exact HG.out _ HB1.out | (go_ret; exact HG.out _ HB1.out)
end Go.Proofs.YtaeedepojpablaaGreatDoor

namespace Go.Proofs.YtaeedepojpablaaGreatDoor
open Go.RowKit
theorem refRightLit_any (d : Nat) (x : GLit) (a p q : Hd) (w : World) (h : LitAt d w w.heap.size x a p q) : Calls Tryz.prog 71 #[.agg #[.int .i64 x.k, .string x.atom.rel, a.v, .int .i64 x.op, .int .i64 x.l.op, .string x.l.t.x, .int .i64 x.l.t.v.k, .int .i64 x.l.t.v.n, .string x.l.t.v.s, p.v, .int .i64 x.r.op, .string x.r.t.x, .int .i64 x.r.t.v.k, .int .i64 x.r.t.v.n, .string x.r.t.v.s, q.v, .int .i64 x.pos]] w (RetBool (rightLit x) w) := by
 obtain ⟨B, HB⟩ : ∃ B, Hid (B = rightLit x) := ⟨_, rfl⟩
 rw [← HB.out]; have hrb : (w.alloc (.cells #[.int .i64 x.k, .string x.atom.rel, a.v, .int .i64 x.op, .int .i64 x.l.op, .string x.l.t.x, .int .i64 x.l.t.v.k, .int .i64 x.l.t.v.n, .string x.l.t.v.s, p.v, .int .i64 x.r.op, .string x.r.t.x, .int .i64 x.r.t.v.k, .int .i64 x.r.t.v.n, .string x.r.t.v.s, q.v, .int .i64 x.pos] 107)).heap[w.heap.size]? = some (.cells #[.int .i64 x.k, .string x.atom.rel, a.v, .int .i64 x.op, .int .i64 x.l.op, .string x.l.t.x, .int .i64 x.l.t.v.k, .int .i64 x.l.t.v.n, .string x.l.t.v.s, p.v, .int .i64 x.r.op, .string x.r.t.x, .int .i64 x.r.t.v.k, .int .i64 x.r.t.v.n, .string x.r.t.v.s, q.v, .int .i64 x.pos] 107 (0, 0)) := heapNew rfl; have hba : Below w.heap.size w (w.alloc (.cells #[.int .i64 x.k, .string x.atom.rel, a.v, .int .i64 x.op, .int .i64 x.l.op, .string x.l.t.x, .int .i64 x.l.t.v.k, .int .i64 x.l.t.v.n, .string x.l.t.v.s, p.v, .int .i64 x.r.op, .string x.r.t.x, .int .i64 x.r.t.v.k, .int .i64 x.r.t.v.n, .string x.r.t.v.s, q.v, .int .i64 x.pos] 107)) := belowA (Below.refl _ _) _; have hna := h.args.bound; have Hla := hZ9 h.args.1; have HH := hZ9 (h.keep hba); clear h; have Hrow : Hid (∀ W, Below (w.alloc (.cells #[.int .i64 x.k, .string x.atom.rel, a.v, .int .i64 x.op, .int .i64 x.l.op, .string x.l.t.x, .int .i64 x.l.t.v.k, .int .i64 x.l.t.v.n, .string x.l.t.v.s, p.v, .int .i64 x.r.op, .string x.r.t.x, .int .i64 x.r.t.v.k, .int .i64 x.r.t.v.n, .string x.r.t.v.s, q.v, .int .i64 x.pos] 107)).heap.size (w.alloc (.cells #[.int .i64 x.k, .string x.atom.rel, a.v, .int .i64 x.op, .int .i64 x.l.op, .string x.l.t.x, .int .i64 x.l.t.v.k, .int .i64 x.l.t.v.n, .string x.l.t.v.s, p.v, .int .i64 x.r.op, .string x.r.t.x, .int .i64 x.r.t.v.k, .int .i64 x.r.t.v.n, .string x.r.t.v.s, q.v, .int .i64 x.pos] 107)) W → W.heap[w.heap.size]? = some (.cells #[.int .i64 x.k, .string x.atom.rel, a.v, .int .i64 x.op, .int .i64 x.l.op, .string x.l.t.x, .int .i64 x.l.t.v.k, .int .i64 x.l.t.v.n, .string x.l.t.v.s, p.v, .int .i64 x.r.op, .string x.r.t.x, .int .i64 x.r.t.v.k, .int .i64 x.r.t.v.n, .string x.r.t.v.s, q.v, .int .i64 x.pos] 107 (0, 0))) := fun W h => (h.block _ (glt hrb)).trans hrb
 obtain ⟨f0_0, f0_1, f0_2, f0_3, f0_4, f0_5, f0_6, f0_7, f0_8, f0_9, f0_10, f0_11, f0_12, f0_13, f0_14, f0_15, f0_16⟩ := facts17 hrb; by_cases hk12 : x.k = 1 ∨ x.k = 2
 ·obtain ⟨P1, HP1⟩ : ∃ E, Hid (E = atomB x.atom) := ⟨_, rfl⟩
  obtain ⟨P2, HP2⟩ : ∃ E, Hid (E = noneE x.l) := ⟨_, rfl⟩
  obtain ⟨P3, HP3⟩ : ∃ E, Hid (E = noneE x.r) := ⟨_, rfl⟩
  have HE : Hid (B = (P1 && (decide (x.op = 0) && (P2 && P3)))) := by show _ = _; rw [HB.out, HP1.out, HP2.out, HP3.out]; unfold rightLit; rw [if_pos hk12]
  have C1 : Hid (∀ W, Below (w.alloc (.cells #[.int .i64 x.k, .string x.atom.rel, a.v, .int .i64 x.op, .int .i64 x.l.op, .string x.l.t.x, .int .i64 x.l.t.v.k, .int .i64 x.l.t.v.n, .string x.l.t.v.s, p.v, .int .i64 x.r.op, .string x.r.t.x, .int .i64 x.r.t.v.k, .int .i64 x.r.t.v.n, .string x.r.t.v.s, q.v, .int .i64 x.pos] 107)).heap.size (w.alloc (.cells #[.int .i64 x.k, .string x.atom.rel, a.v, .int .i64 x.op, .int .i64 x.l.op, .string x.l.t.x, .int .i64 x.l.t.v.k, .int .i64 x.l.t.v.n, .string x.l.t.v.s, p.v, .int .i64 x.r.op, .string x.r.t.x, .int .i64 x.r.t.v.k, .int .i64 x.r.t.v.n, .string x.r.t.v.s, q.v, .int .i64 x.pos] 107)) W → Calls Tryz.prog 70 #[.agg #[.string x.atom.rel, a.v]] W (RetBool P1 W)) := fun W h => by rw [HP1.out]; exact refRightAtom_any x.atom a W (HH.out.args.keep h)
  have C2 : Hid (∀ W, Below (w.alloc (.cells #[.int .i64 x.k, .string x.atom.rel, a.v, .int .i64 x.op, .int .i64 x.l.op, .string x.l.t.x, .int .i64 x.l.t.v.k, .int .i64 x.l.t.v.n, .string x.l.t.v.s, p.v, .int .i64 x.r.op, .string x.r.t.x, .int .i64 x.r.t.v.k, .int .i64 x.r.t.v.n, .string x.r.t.v.s, q.v, .int .i64 x.pos] 107)).heap.size (w.alloc (.cells #[.int .i64 x.k, .string x.atom.rel, a.v, .int .i64 x.op, .int .i64 x.l.op, .string x.l.t.x, .int .i64 x.l.t.v.k, .int .i64 x.l.t.v.n, .string x.l.t.v.s, p.v, .int .i64 x.r.op, .string x.r.t.x, .int .i64 x.r.t.v.k, .int .i64 x.r.t.v.n, .string x.r.t.v.s, q.v, .int .i64 x.pos] 107)) W → Calls Tryz.prog 107 #[.agg #[.int .i64 x.l.op, .string x.l.t.x, .int .i64 x.l.t.v.k, .int .i64 x.l.t.v.n, .string x.l.t.v.s, p.v]] W (RetBool P2 W)) := fun W h => by rw [HP2.out]; exact refZero_any x.l p.A p.n p.c W HH.out.lk.1 HH.out.lk.2.2.2.1
  have C3 : Hid (∀ W, Below (w.alloc (.cells #[.int .i64 x.k, .string x.atom.rel, a.v, .int .i64 x.op, .int .i64 x.l.op, .string x.l.t.x, .int .i64 x.l.t.v.k, .int .i64 x.l.t.v.n, .string x.l.t.v.s, p.v, .int .i64 x.r.op, .string x.r.t.x, .int .i64 x.r.t.v.k, .int .i64 x.r.t.v.n, .string x.r.t.v.s, q.v, .int .i64 x.pos] 107)).heap.size (w.alloc (.cells #[.int .i64 x.k, .string x.atom.rel, a.v, .int .i64 x.op, .int .i64 x.l.op, .string x.l.t.x, .int .i64 x.l.t.v.k, .int .i64 x.l.t.v.n, .string x.l.t.v.s, p.v, .int .i64 x.r.op, .string x.r.t.x, .int .i64 x.r.t.v.k, .int .i64 x.r.t.v.n, .string x.r.t.v.s, q.v, .int .i64 x.pos] 107)) W → Calls Tryz.prog 107 #[.agg #[.int .i64 x.r.op, .string x.r.t.x, .int .i64 x.r.t.v.k, .int .i64 x.r.t.v.n, .string x.r.t.v.s, q.v]] W (RetBool P3 W)) := fun W h => by rw [HP3.out]; exact refZero_any x.r q.A q.n q.c W HH.out.rk.1 HH.out.rk.2.2.2.1
  clear hrb HB HP1 HP2 HP3 HH Hla; generalize hwb : (w.alloc (.cells #[.int .i64 x.k, .string x.atom.rel, a.v, .int .i64 x.op, .int .i64 x.l.op, .string x.l.t.x, .int .i64 x.l.t.v.k, .int .i64 x.l.t.v.n, .string x.l.t.v.s, p.v, .int .i64 x.r.op, .string x.r.t.x, .int .i64 x.r.t.v.k, .int .i64 x.r.t.v.n, .string x.r.t.v.s, q.v, .int .i64 x.pos] 107)) = wb at *; have Hbw0 := hZ9 (Below.refl wb.heap.size wb); by_cases ho : x.op = 0
  ·have o0 : (x.op == 0) = true := by simp [ho]
   have HE2 : Hid (B = (P1 && (P2 && P3))) := by show _ = _; rw [HE.out, decide_eq_true ho]; rfl
   clear HE ho; rcases hk12 with hk | hk
   ·have k1 : (x.k == 1) = true := by simp [hk]
    clear hk; go_enter Tryz.func71, Tryz.ntmps71
    go_wp2_with fail
    try simp only [hwb]
    go_wp2_with fail
    refine (C1.out _ Hbw0.out).mono ?_; rintro e1 w1 ⟨rfl, hq1⟩; have Hbw1 := hZ9 (below_next Hbw0.out hq1); obtain ⟨f1_0, f1_1, f1_2, f1_3, f1_4, f1_5, f1_6, f1_7, f1_8, f1_9, f1_10, f1_11, f1_12, f1_13, f1_14, f1_15, f1_16⟩ := facts17 (Hrow.out _ Hbw1.out); clear hq1 f0_0 f0_1 f0_2 f0_3 f0_4 f0_5 f0_6 f0_7 f0_8 f0_9 f0_10 f0_11 f0_12 f0_13 f0_14 f0_15 f0_16; cases P1 with
    | false =>
      go_wp2_with fail
      go_ret; exact ⟨by rw [HE2.out]; rfl, below_next hba Hbw1.out⟩
    | true =>
      go_wp2_with fail
      refine (C2.out _ Hbw1.out).mono ?_; rintro e2 w2 ⟨rfl, hq2⟩; have Hbw2 := hZ9 (below_next Hbw1.out hq2); obtain ⟨f2_0, f2_1, f2_2, f2_3, f2_4, f2_5, f2_6, f2_7, f2_8, f2_9, f2_10, f2_11, f2_12, f2_13, f2_14, f2_15, f2_16⟩ := facts17 (Hrow.out _ Hbw2.out); clear hq2 f1_0 f1_1 f1_2 f1_3 f1_4 f1_5 f1_6 f1_7 f1_8 f1_9 f1_10 f1_11 f1_12 f1_13 f1_14 f1_15 f1_16; cases P2 with
      | false =>
        go_wp2_with fail
        go_ret; exact ⟨by rw [HE2.out]; rfl, below_next hba Hbw2.out⟩
      | true =>
        go_wp2_with fail
        refine (C3.out _ Hbw2.out).mono ?_; rintro e3 w3 ⟨rfl, hq3⟩; have Hbw3 := hZ9 (below_next Hbw2.out hq3); obtain ⟨f3_0, f3_1, f3_2, f3_3, f3_4, f3_5, f3_6, f3_7, f3_8, f3_9, f3_10, f3_11, f3_12, f3_13, f3_14, f3_15, f3_16⟩ := facts17 (Hrow.out _ Hbw3.out); clear hq3 f2_0 f2_1 f2_2 f2_3 f2_4 f2_5 f2_6 f2_7 f2_8 f2_9 f2_10 f2_11 f2_12 f2_13 f2_14 f2_15 f2_16; cases P3 <;>
        ·go_wp2_with fail
         go_ret; exact ⟨by rw [HE2.out]; rfl, below_next hba Hbw3.out⟩
   ·have k1 : (x.k == 1) = false := by simp [hk]
    have k2 : (x.k == 2) = true := by simp [hk]
    clear hk; go_enter Tryz.func71, Tryz.ntmps71
    go_wp2_with fail
    try simp only [hwb]
    go_wp2_with fail
    refine (C1.out _ Hbw0.out).mono ?_; rintro e1 w1 ⟨rfl, hq1⟩; have Hbw1 := hZ9 (below_next Hbw0.out hq1); obtain ⟨f1_0, f1_1, f1_2, f1_3, f1_4, f1_5, f1_6, f1_7, f1_8, f1_9, f1_10, f1_11, f1_12, f1_13, f1_14, f1_15, f1_16⟩ := facts17 (Hrow.out _ Hbw1.out); clear hq1 f0_0 f0_1 f0_2 f0_3 f0_4 f0_5 f0_6 f0_7 f0_8 f0_9 f0_10 f0_11 f0_12 f0_13 f0_14 f0_15 f0_16; cases P1 with
    | false =>
      go_wp2_with fail
      go_ret; exact ⟨by rw [HE2.out]; rfl, below_next hba Hbw1.out⟩
    | true =>
      go_wp2_with fail
      refine (C2.out _ Hbw1.out).mono ?_; rintro e2 w2 ⟨rfl, hq2⟩; have Hbw2 := hZ9 (below_next Hbw1.out hq2); obtain ⟨f2_0, f2_1, f2_2, f2_3, f2_4, f2_5, f2_6, f2_7, f2_8, f2_9, f2_10, f2_11, f2_12, f2_13, f2_14, f2_15, f2_16⟩ := facts17 (Hrow.out _ Hbw2.out); clear hq2 f1_0 f1_1 f1_2 f1_3 f1_4 f1_5 f1_6 f1_7 f1_8 f1_9 f1_10 f1_11 f1_12 f1_13 f1_14 f1_15 f1_16; cases P2 with
      | false =>
        go_wp2_with fail
        go_ret; exact ⟨by rw [HE2.out]; rfl, below_next hba Hbw2.out⟩
      | true =>
        go_wp2_with fail
        refine (C3.out _ Hbw2.out).mono ?_; rintro e3 w3 ⟨rfl, hq3⟩; have Hbw3 := hZ9 (below_next Hbw2.out hq3); obtain ⟨f3_0, f3_1, f3_2, f3_3, f3_4, f3_5, f3_6, f3_7, f3_8, f3_9, f3_10, f3_11, f3_12, f3_13, f3_14, f3_15, f3_16⟩ := facts17 (Hrow.out _ Hbw3.out); clear hq3 f2_0 f2_1 f2_2 f2_3 f2_4 f2_5 f2_6 f2_7 f2_8 f2_9 f2_10 f2_11 f2_12 f2_13 f2_14 f2_15 f2_16; cases P3 <;>
        ·go_wp2_with fail
         go_ret; exact ⟨by rw [HE2.out]; rfl, below_next hba Hbw3.out⟩
  ·have o0 : (x.op == 0) = false := by simp [ho]
   have HE2 : Hid (B = false) := by show _ = _; rw [HE.out, decide_eq_false ho]; simp
   clear HE ho C2 C3; rcases hk12 with hk | hk
   ·have k1 : (x.k == 1) = true := by simp [hk]
    clear hk; go_enter Tryz.func71, Tryz.ntmps71
    go_wp2_with fail
    try simp only [hwb]
    go_wp2_with fail
    refine (C1.out _ Hbw0.out).mono ?_; rintro e1 w1 ⟨rfl, hq1⟩; have Hbw1 := hZ9 (below_next Hbw0.out hq1); obtain ⟨f1_0, f1_1, f1_2, f1_3, f1_4, f1_5, f1_6, f1_7, f1_8, f1_9, f1_10, f1_11, f1_12, f1_13, f1_14, f1_15, f1_16⟩ := facts17 (Hrow.out _ Hbw1.out); clear hq1 f0_0 f0_1 f0_2 f0_3 f0_4 f0_5 f0_6 f0_7 f0_8 f0_9 f0_10 f0_11 f0_12 f0_13 f0_14 f0_15 f0_16; cases P1 <;>
    ·go_wp2_with fail
     go_ret; exact ⟨by rw [HE2.out]; rfl, below_next hba Hbw1.out⟩
   ·have k1 : (x.k == 1) = false := by simp [hk]
    have k2 : (x.k == 2) = true := by simp [hk]
    clear hk; go_enter Tryz.func71, Tryz.ntmps71
    go_wp2_with fail
    try simp only [hwb]
    go_wp2_with fail
    refine (C1.out _ Hbw0.out).mono ?_; rintro e1 w1 ⟨rfl, hq1⟩; have Hbw1 := hZ9 (below_next Hbw0.out hq1); obtain ⟨f1_0, f1_1, f1_2, f1_3, f1_4, f1_5, f1_6, f1_7, f1_8, f1_9, f1_10, f1_11, f1_12, f1_13, f1_14, f1_15, f1_16⟩ := facts17 (Hrow.out _ Hbw1.out); clear hq1 f0_0 f0_1 f0_2 f0_3 f0_4 f0_5 f0_6 f0_7 f0_8 f0_9 f0_10 f0_11 f0_12 f0_13 f0_14 f0_15 f0_16; cases P1 <;>
    ·go_wp2_with fail
     go_ret; exact ⟨by rw [HE2.out]; rfl, below_next hba Hbw1.out⟩
 have k1 : (x.k == 1) = false := by simp; omega
 have k2 : (x.k == 2) = false := by simp; omega
 by_cases hk3 : x.k = 3
 rotate_left
 ·have k3 : (x.k == 3) = false := by simp [hk3]
  have HE2 : Hid (B = false) := by show _ = _; rw [HB.out]; simp [rightLit, hk12, hk3]
  clear hk3 hk12 HB HH Hrow hrb Hla; go_enter Tryz.func71, Tryz.ntmps71
  go_wp2_with fail
  go_ret; exact ⟨by rw [HE2.out]; rfl, belowA (Below.refl _ _) _⟩
 have k3 : (x.k == 3) = true := by simp [hk3]
 have HE : Hid (B = (cmpB2 x && (rightE 20 x.l && rightE 20 x.r))) := by show _ = _; rw [HB.out]; simp [rightLit, hk3]
 by_cases hc : cmpB2 x = true
 rotate_left
 ·have HE2 : Hid (B = false) := by show _ = _; rw [HE.out]; simp [hc]
  have hc' : (((x.atom.rel.size : Int) == 0) = false) ∨ (((x.atom.rel.size : Int) == 0) = true ∧ ((a.n : Int) == 0) = false) ∨ (((x.atom.rel.size : Int) == 0) = true ∧ ((a.n : Int) == 0) = true ∧ ¬ 1 ≤ x.op) ∨ (((x.atom.rel.size : Int) == 0) = true ∧ ((a.n : Int) == 0) = true ∧ 1 ≤ x.op ∧ ¬ x.op ≤ 6) := by
   have h1 := Hla.out; unfold cmpB2 at hc; by_cases g1 : x.atom.rel.size = 0
   ·have g2 : ((x.atom.rel.size : Int) == 0) = true := by simp [g1]
    by_cases g3 : a.n = 0
    ·have g6 : ((a.n : Int) == 0) = true := by simp [g3]
     by_cases g4 : 1 ≤ x.op
     ·by_cases g5 : x.op ≤ 6
      ·exfalso; apply hc; have : x.atom.args.length = 0 := by omega
       simp [*]
      ·exact .inr (.inr (.inr ⟨g2, g6, g4, g5⟩))
     ·exact .inr (.inr (.inl ⟨g2, g6, g4⟩))
    ·exact .inr (.inl ⟨g2, by rw [beq_eq_false_iff_ne]; omega⟩)
   ·exact .inl (by rw [beq_eq_false_iff_ne]; omega)
  clear hk3 hk12 HB HH Hrow hrb hc HE; rcases hc' with h | ⟨g0, h⟩ | ⟨g0, g1, h⟩ | ⟨g0, g1, g2, h⟩ <;>
  ·go_enter Tryz.func71, Tryz.ntmps71
   go_wp2_with fail
   go_ret; exact ⟨by rw [HE2.out]; rfl, belowA (Below.refl _ _) _⟩
 have hc' : ((x.atom.rel.size : Int) == 0) = true ∧ ((a.n : Int) == 0) = true ∧ 1 ≤ x.op ∧ x.op ≤ 6 := by
  have h1 := Hla.out; simp only [cmpB2, Bool.and_eq_true, decide_eq_true_eq] at hc; have h2 : x.atom.rel.size = 0 := hc.1.1; have h3 : a.n = 0 := by omega
  exact ⟨by simp [h2], by simp [h3], hc.2.1, hc.2.2⟩
 obtain ⟨g0, g1, g2, g3⟩ := hc'; obtain ⟨P1, HP1⟩ : ∃ E, Hid (E = rightE 20 x.l) := ⟨_, rfl⟩
 obtain ⟨P2, HP2⟩ : ∃ E, Hid (E = rightE 20 x.r) := ⟨_, rfl⟩
 have HE2 : Hid (B = (P1 && P2)) := by show _ = _; rw [HE.out, hc, HP1.out, HP2.out]; rfl
 have C1 : Hid (∀ W, Below (w.alloc (.cells #[.int .i64 x.k, .string x.atom.rel, a.v, .int .i64 x.op, .int .i64 x.l.op, .string x.l.t.x, .int .i64 x.l.t.v.k, .int .i64 x.l.t.v.n, .string x.l.t.v.s, p.v, .int .i64 x.r.op, .string x.r.t.x, .int .i64 x.r.t.v.k, .int .i64 x.r.t.v.n, .string x.r.t.v.s, q.v, .int .i64 x.pos] 107)).heap.size (w.alloc (.cells #[.int .i64 x.k, .string x.atom.rel, a.v, .int .i64 x.op, .int .i64 x.l.op, .string x.l.t.x, .int .i64 x.l.t.v.k, .int .i64 x.l.t.v.n, .string x.l.t.v.s, p.v, .int .i64 x.r.op, .string x.r.t.x, .int .i64 x.r.t.v.k, .int .i64 x.r.t.v.n, .string x.r.t.v.s, q.v, .int .i64 x.pos] 107)) W → Calls Tryz.prog 108 #[.agg #[.int .i64 x.l.op, .string x.l.t.x, .int .i64 x.l.t.v.k, .int .i64 x.l.t.v.n, .string x.l.t.v.s, p.v]] W (RetBool P1 W)) := fun W h => by rw [HP1.out]; exact refRightExp_any x.l p.A p.n p.c d W (HH.out.lk.keep h) HH.out.lv
 have C2 : Hid (∀ W, Below (w.alloc (.cells #[.int .i64 x.k, .string x.atom.rel, a.v, .int .i64 x.op, .int .i64 x.l.op, .string x.l.t.x, .int .i64 x.l.t.v.k, .int .i64 x.l.t.v.n, .string x.l.t.v.s, p.v, .int .i64 x.r.op, .string x.r.t.x, .int .i64 x.r.t.v.k, .int .i64 x.r.t.v.n, .string x.r.t.v.s, q.v, .int .i64 x.pos] 107)).heap.size (w.alloc (.cells #[.int .i64 x.k, .string x.atom.rel, a.v, .int .i64 x.op, .int .i64 x.l.op, .string x.l.t.x, .int .i64 x.l.t.v.k, .int .i64 x.l.t.v.n, .string x.l.t.v.s, p.v, .int .i64 x.r.op, .string x.r.t.x, .int .i64 x.r.t.v.k, .int .i64 x.r.t.v.n, .string x.r.t.v.s, q.v, .int .i64 x.pos] 107)) W → Calls Tryz.prog 108 #[.agg #[.int .i64 x.r.op, .string x.r.t.x, .int .i64 x.r.t.v.k, .int .i64 x.r.t.v.n, .string x.r.t.v.s, q.v]] W (RetBool P2 W)) := fun W h => by rw [HP2.out]; exact refRightExp_any x.r q.A q.n q.c d W (HH.out.rk.keep h) HH.out.rv
 clear hrb HB HP1 HP2 HH Hla hc HE hk3 hk12; generalize hwb : (w.alloc (.cells #[.int .i64 x.k, .string x.atom.rel, a.v, .int .i64 x.op, .int .i64 x.l.op, .string x.l.t.x, .int .i64 x.l.t.v.k, .int .i64 x.l.t.v.n, .string x.l.t.v.s, p.v, .int .i64 x.r.op, .string x.r.t.x, .int .i64 x.r.t.v.k, .int .i64 x.r.t.v.n, .string x.r.t.v.s, q.v, .int .i64 x.pos] 107)) = wb at *; have Hbw0 := hZ9 (Below.refl wb.heap.size wb); go_enter Tryz.func71, Tryz.ntmps71
 go_wp2_with fail
 try simp only [hwb]
 go_wp2_with fail
 refine (C1.out _ Hbw0.out).mono ?_; rintro e1 w1 ⟨rfl, hq1⟩; have Hbw1 := hZ9 (below_next Hbw0.out hq1); obtain ⟨f1_0, f1_1, f1_2, f1_3, f1_4, f1_5, f1_6, f1_7, f1_8, f1_9, f1_10, f1_11, f1_12, f1_13, f1_14, f1_15, f1_16⟩ := facts17 (Hrow.out _ Hbw1.out); clear hq1 f0_0 f0_1 f0_2 f0_3 f0_4 f0_5 f0_6 f0_7 f0_8 f0_9 f0_10 f0_11 f0_12 f0_13 f0_14 f0_15 f0_16; cases P1 with
 | false =>
   go_wp2_with fail
   go_ret; exact ⟨by rw [HE2.out]; rfl, below_next hba Hbw1.out⟩
 | true =>
   go_wp2_with fail
   refine (C2.out _ Hbw1.out).mono ?_; rintro e2 w2 ⟨rfl, hq2⟩; have Hbw2 := hZ9 (below_next Hbw1.out hq2); obtain ⟨f2_0, f2_1, f2_2, f2_3, f2_4, f2_5, f2_6, f2_7, f2_8, f2_9, f2_10, f2_11, f2_12, f2_13, f2_14, f2_15, f2_16⟩ := facts17 (Hrow.out _ Hbw2.out); clear hq2 f1_0 f1_1 f1_2 f1_3 f1_4 f1_5 f1_6 f1_7 f1_8 f1_9 f1_10 f1_11 f1_12 f1_13 f1_14 f1_15 f1_16; cases P2 <;>
   ·go_wp2_with fail
    go_ret; exact ⟨by rw [HE2.out]; rfl, below_next hba Hbw2.out⟩
end Go.Proofs.YtaeedepojpablaaGreatDoor
