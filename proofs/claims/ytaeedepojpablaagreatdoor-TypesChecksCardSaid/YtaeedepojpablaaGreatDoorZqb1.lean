/- My own texts Name, VParse, LexR1, as far as this claim needs them. -/
import Derived.Test.YtaeedepojpablaaGreatDoorZq7
set_option linter.unusedVariables false
set_option linter.unusedSimpArgs false
set_option maxRecDepth 1000000
set_option maxHeartbeats 16000000
namespace Go.Proofs.YtaeedepojpablaaGreatDoor
open Go.RowKit
theorem nameOk_all {s : ByteArray} {i : Nat} (hi : i < s.size) (h : nameB (byteAt s i) = false) : nameOk s = false := by simp [nameOk, allN_false hi h]
def refB (i b : Nat) : Bool := lowB b || (!decide (i = 0) && nameB b)
theorem refB_false {s : ByteArray} {i : Nat} (hi : i < s.size) (h : refB i (byteAt s i) = false) : nameOk s = false := by
 simp only [refB, Bool.or_eq_false_iff, Bool.and_eq_false_iff, Bool.not_eq_false', decide_eq_true_eq] at h; rcases h.2 with h0 | h0
 ·rw [h0] at h; simp [nameOk, h.1]
 ·exact nameOk_all hi h0
theorem lowB_name {b : Nat} (h : lowB b = true) : nameB b = true := by
 simp only [lowB] at h; simp [nameB, h]
theorem refB_true {s : ByteArray} (h : ∀ j, j < s.size → refB j (byteAt s j) = true) : nameOk s = (decide (1 ≤ s.size) && decide (s.size ≤ 32)) := by
 have ha : allN s = true := by
  simp only [allN, decide_eq_true_eq]; intro j hj; have := h j hj; simp only [refB, Bool.or_eq_true, Bool.and_eq_true] at this; rcases this with h1 | h1
  ·exact lowB_name h1
  ·exact h1.2
 by_cases h0 : 1 ≤ s.size
 ·have := h 0 (by omega); simp [refB] at this
  simp [nameOk, ha, this]
 ·simp [nameOk, h0]
theorem refB_int (k b : Nat) : refB k b = ((decide (97 ≤ (b : Int)) && decide ((b : Int) ≤ 122)) || (!decide (k = 0) && ((decide (48 ≤ (b : Int)) && decide ((b : Int) ≤ 57)) || decide ((b : Int) = 95)))) := by
 rw [Bool.eq_iff_iff]; simp [refB, lowB, nameB]; omega
set_option linter.unusedSimpArgs false in
theorem refNameQ_any (s : ByteArray) (hsz : s.size ≤ 140737488351232) (w : World) : Calls Tryz.prog 176 #[.string s] w (RetSameB (nameOk s) w) := by
 go_enter Tryz.func176, Tryz.ntmps176
 go_wp2
 go_loop [3, 4, 5] (fun i _ _ => ∃ k : Nat, k ≤ s.size ∧ i = .int .i64 k ∧ Hid (∀ j, j < k → refB j (byteAt s j) = true)) (fun i _ _ => s.size - (intOf i).toNat)
 case atStart => exact ⟨0, by omega, rfl, fun j h => by omega⟩
 case round =>
  obtain ⟨k, hk, rfl, hpre⟩ := hrel; by_cases hlt : k < s.size
  ·have i0 : (0 : Int) ≤ (k : Int) := by omega
   have i1 : (k : Int) < (s.size : Int) := by omega
   have Hb := hZ9 (byteAt_eq hlt).symm
   have HN : Hid (refB k (s[k]'hlt).toNat = true → ∀ j, j < k + 1 → refB j (byteAt s j) = true) := by
    intro h j hj; by_cases hjk : j < k
    ·exact hpre.out j hjk
    ·have e : j = k := by omega
     subst e; rw [Hb.out]; exact h
   have HF : Hid (refB k (s[k]'hlt).toNat = false → nameOk s = false) := by
    intro h; exact refB_false hlt (by rw [Hb.out]; exact h)
   have HE := hZ9 (refB_int k (s[k]'hlt).toNat); clear hpre; have z0 : ((k : Int) == 0) = decide (k = 0) := by rw [Bool.eq_iff_iff]; simp
   by_cases h1 : (97 : Int) ≤ ((s[k]'hlt).toNat : Int) <;> by_cases h2 : ((s[k]'hlt).toNat : Int) ≤ 122 <;> by_cases h3 : (48 : Int) ≤ ((s[k]'hlt).toNat : Int) <;> by_cases h4 : ((s[k]'hlt).toNat : Int) ≤ 57 <;> by_cases h5 : ((s[k]'hlt).toNat : Int) = 95 <;> cases hk0 : decide (k = 0) <;> (try (exfalso; omega))
   all_goals
    have z5 : (((s[k]'hlt).toNat : Int) != 95) = !decide (((s[k]'hlt).toNat : Int) = 95) := by rw [Bool.eq_iff_iff]; simp
    have h0 := HE.out; rw [hk0] at z0 h0; clear HE hk0; simp only [h1, h2, h3, h4, h5, decide_true, decide_false, Bool.and_true, Bool.true_and, Bool.and_false, Bool.false_and, Bool.or_true, Bool.true_or, Bool.or_false, Bool.false_or, Bool.not_true, Bool.not_false] at z5 h0; have HR := hZ9 h0; clear h0; go_wp2_with fail
   all_goals first
    | (go_ret; exact ⟨by rw [HF.out HR.out]; rfl, rfl⟩)
    | exact ⟨⟨k + 1, by omega, by go_num, HN.out HR.out⟩, by simp [intOf]; omega⟩
  ·have HR : Hid (nameOk s = (decide (1 ≤ s.size) && decide (s.size ≤ 32))) := refB_true (fun j hj => hpre.out j (by omega)); have i1 : ¬ (k : Int) < (s.size : Int) := by omega
   by_cases h1 : (1 : Int) ≤ (s.size : Int) <;> by_cases h2 : (s.size : Int) ≤ 32 <;> (try (exfalso; omega))
   all_goals
    go_wp2_with fail
    go_ret; exact ⟨by rw [HR.out]; simp; omega, rfl⟩
theorem refName_any (s : ByteArray) (hsz : s.size ≤ 140737488351232) (w : World) : Calls Tryz.prog 176 #[.string s] w (RetBool (nameOk s) w) :=
 (refNameQ_any s hsz w).mono fun _ _ ⟨he, hw⟩ => ⟨he, by rw [hw]; exact Below.refl _ _⟩
set_option linter.unusedSimpArgs false in
theorem refRight_any (v : GV) (hv : v.ok) (w : World) : Calls Tryz.prog 141 #[v.v] w (RetBool (rightB v) w) := by
 have hsz : v.s.size ≤ 140737488351232 := hv.2.2; by_cases h1 : v.k = 1
 ·have z1 : (v.k == 1) = true := by simp [h1]
  have Hk := hZ9 h1; clear h1
  have HE : Hid (rightB v = (((v.s.size : Int) == 0) && decide (-2147483647 ≤ v.n) && decide (v.n ≤ 2147483647))) := by
   show rightB v = _; rw [Bool.eq_iff_iff]; simp [rightB, Hk.out]
  cases zs : ((v.s.size : Int) == 0) <;> by_cases h3 : -2147483647 ≤ v.n <;> by_cases h4 : v.n ≤ 2147483647 <;> (try (exfalso; omega))
  all_goals
   have h0 := HE.out; clear HE; simp only [zs, h3, h4, decide_true, decide_false, Bool.and_true, Bool.and_false, Bool.false_and] at h0; have HR := hZ9 h0; clear h0; go_enter Tryz.func141, Tryz.ntmps141
   go_wp2_with fail
   go_ret; exact ⟨by rw [HR.out]; rfl, belowA (Below.refl _ _) _⟩
 ·have z1 : (v.k == 1) = false := by simp [h1]
  have Hk := hZ9 h1; clear h1; by_cases h2 : v.k = 2
  ·have z2 : (v.k == 2) = true := by simp [h2]
   have Hk2 := hZ9 h2; clear h2; by_cases h3 : v.n = 0
   ·have z3 : (v.n == 0) = true := by simp [h3]
    have HR : Hid (rightB v = nameOk v.s) := by show rightB v = _; simp [rightB, Hk2.out, h3]
    clear h3; go_enter Tryz.func141, Tryz.ntmps141
    go_wp2_with fail
    refine (refName_any v.s hsz _).mono ?_; rintro e w1 ⟨rfl, hb⟩; go_wp2_with fail
    go_ret; exact ⟨by rw [HR.out]; rfl, below_next (belowA (Below.refl _ _) _) hb⟩
   ·have z3 : (v.n == 0) = false := by simp [h3]
    have HR : Hid (rightB v = false) := by show rightB v = _; simp [rightB, Hk2.out, h3]
    clear h3; go_enter Tryz.func141, Tryz.ntmps141
    go_wp2_with fail
    go_ret; exact ⟨by rw [HR.out]; rfl, belowA (Below.refl _ _) _⟩
  ·have z2 : (v.k == 2) = false := by simp [h2]
   have HR : Hid (rightB v = false) := by show rightB v = false; simp [rightB, Hk.out, h2]
   clear h2; go_enter Tryz.func141, Tryz.ntmps141
   go_wp2_with fail
   go_ret; exact ⟨by rw [HR.out]; rfl, belowA (Below.refl _ _) _⟩
end Go.Proofs.YtaeedepojpablaaGreatDoor

namespace Go.Proofs.YtaeedepojpablaaGreatDoor
open Go.RowKit
theorem is_any (n k : Int) (w : World) : Calls Tryz.prog 24 #[errV 89 n, .int .i64 k] w (RetBool (n == k) w) := by
 have hn := hZ9 (num_any n); go_enter Tryz.func24, Tryz.ntmps24
 go_wp2_with fail
 refine (hn.out _).mono ?_; rintro e w1 ⟨rfl, hq1⟩; go_wp2_with fail
 go_ret; exact ⟨rfl, hq1⟩
def parseO (s : ByteArray) : Option GV := if nameOk s then some ⟨2, 0, s⟩ else (refNum s.toList).map fun n => ⟨1, n, ⟨#[]⟩⟩
def parseG (s : ByteArray) : GV := (parseO s).getD gv0
theorem parse_name {s : ByteArray} (h : nameOk s = true) : parseO s = some ⟨2, 0, s⟩ := by simp [parseO, h]
theorem parse_num {s : ByteArray} (h : nameOk s = false) : parseO s = (refNum s.toList).map fun n => ⟨1, n, ⟨#[]⟩⟩ := by simp [parseO, h]
theorem parse_none {s : ByteArray} (h : nameOk s = false) (h2 : refNum s.toList = none) : parseO s = none := by rw [parse_num h, h2]; rfl
theorem parse_some {s : ByteArray} {n : Int} (h : nameOk s = false) (h2 : refNum s.toList = some n) : parseO s = some ⟨1, n, ⟨#[]⟩⟩ := by rw [parse_num h, h2]; rfl
theorem ba_tail (s : ByteArray) : (s.extract 1 s.size).toList = s.toList.tail := by
 rw [ByteArray.toList_eq, ByteArray.toList_eq, ByteArray.data_extract, Array.toList_extract]; show List.take (s.size - 1) (s.data.toList.drop 1) = _; rw [List.drop_one, List.take_of_length_le]; rw [List.length_tail]; exact Nat.le_refl _
theorem digit_none {t : ByteArray} {k : Nat} (hk : k < t.size) (h : ¬ (48 ≤ (t[k]'hk).toNat ∧ (t[k]'hk).toNat ≤ 57)) : Lib.decFrom 0 t.toList = none := by
 cases hd : Lib.decFrom 0 t.toList with
 | none => rfl
 | some n =>
   obtain ⟨d, hd'⟩ := Lib.digit_of_decFrom _ _ _ hd k _ (ba_get hk); unfold Lib.digitVal at hd'; rw [if_neg h] at hd'; cases hd'
def sgn (neg : Bool) : Int := if neg then -1 else 1
theorem refNum_mag (l : List UInt8) : refNum l = (refMag (if l.head? = some 45 then l.tail else l) (decide (l.head? = some 45))).map fun (n : Nat) => sgn (decide (l.head? = some 45)) * (n : Int) := by
 unfold refNum; by_cases h : l.head? = some 45
 ·simp only [h, if_true, decide_true, sgn]; congr 1; funext n; omega
 ·simp only [h, if_false, decide_false, sgn]; congr 1; funext n; simp
theorem refParse_any (s : ByteArray) (hs : s.size ≤ 140737488351232) (w : World) : Calls Tryz.prog 199 #[.string s] w (RetV (.tuple #[(parseG s).v, .bool (parseO s).isSome]) w) := by
 have hn := fun w => refNameQ_any s hs w
 cases hN : nameOk s with
 | true =>
   rw [hN] at hn; have hn := hZ9 hn; rw [show parseG s = ⟨2, 0, s⟩ by simp [parseG, parse_name hN], show (parseO s).isSome = true by simp [parse_name hN]]; clear hN; go_enter Tryz.func199, Tryz.ntmps199
   go_wp2_with fail
   refine (hn.out _).mono ?_; rintro e w1 ⟨rfl, rfl⟩; go_wp2_with fail
   exact bodyPost_ret (v := .tuple #[(⟨2, 0, s⟩ : GV).v, .bool true]) (by simp [results, Tryz.results199, go_sem]) rfl ⟨rfl, belowA (Below.refl _ _) _⟩
 | false =>
   rw [hN] at hn; have hn := hZ9 hn
   obtain ⟨sg, t, neg, hsg, ht, htl, hr, hneg⟩ : ∃ (sg : Int) (t : ByteArray) (neg : Bool), Hid (sg = sgn neg) ∧ t.size ≤ 140737488351232 ∧ Hid (t = (if neg then s.extract 1 s.size else s)) ∧ Hid (refNum s.toList = (refMag t.toList neg).map fun (n : Nat) => sg * (n : Int)) ∧ Hid (neg = decide (s.toList.head? = some 45)) := by
    refine ⟨_, _, decide (s.toList.head? = some 45), rfl, ?_, rfl, ?_, rfl⟩
    ·split
     ·have : (s.extract 1 s.size).size ≤ s.size := by rw [ByteArray.size_extract]; omega
      omega
     ·exact hs
    ·show _ = _; rw [refNum_mag]; by_cases h : s.toList.head? = some 45
     ·simp only [h, if_true, decide_true, ba_tail]
     ·simp only [h, if_false, decide_false, Bool.false_eq_true]
   have hno : refMag t.toList neg = none → parseG s = gv0 ∧ (parseO s).isSome = false := by
    intro h; have := parse_none hN (by rw [hr.out, h]; rfl); simp [parseG, this]
   have hyes : ∀ n : Nat, refMag t.toList neg = some n → parseG s = ⟨1, sg * n, ⟨#[]⟩⟩ ∧ (parseO s).isSome = true := by
    intro n h; have := parse_some hN (n := sg * n) (by rw [hr.out, h]; rfl); simp [parseG, this]
   have Hno := hZ9 hno; have Hyes := hZ9 hyes; generalize parseG s = pg at Hno Hyes ⊢; generalize (parseO s).isSome = po at Hno Hyes ⊢; clear hs hno hyes hN hr; go_enter Tryz.func199, Tryz.ntmps199
   go_wp2_with fail
   refine (hn.out _).mono ?_; rintro e w1 ⟨rfl, rfl⟩; go_upto_region 4 with fail
   go_cut [20] (fun x W => x = .bool neg ∧ W = w.alloc (.cells #[.int .i64 0, .int .i64 0, .string ⟨#[]⟩] 73))
   case first =>
    by_cases h0 : 0 < s.size
    ·have i0 : (0 : Int) < (s.size : Int) := by omega
     have hb : (((s[0]'h0).toNat : Int) == 45) = neg := by
      rw [hneg.out, ba_head h0, Bool.eq_iff_iff]; simp [← UInt8.toNat_inj]; omega
     go_wp2_with fail
     go_meet
     exact ⟨by simp, rfl⟩
    ·have hb : neg = false := by
      rw [hneg.out]; have : s.toList = [] := List.eq_nil_of_length_eq_zero (by rw [ba_len]; omega); rw [this]; rfl
     subst hb; have i0 : ¬ (0 : Int) < (s.size : Int) := by omega
     go_wp2_with fail
     go_meet
     exact ⟨by simp, rfl⟩
   case rest =>
   obtain ⟨rfl, rfl⟩ := hcut; go_upto_if 20 with fail
   go_cut [4, 5] (fun x y W => x = .string t ∧ y = .int .i64 sg ∧ W = w.alloc (.cells #[.int .i64 0, .int .i64 0, .string ⟨#[]⟩] 73))
   case first =>
    cases neg with
    | true =>
      have h0 : 1 ≤ s.size := by
       rcases Nat.eq_zero_or_pos s.size with h | h
       ·have : s.toList = [] := List.eq_nil_of_length_eq_zero (by rw [ba_len]; exact h); have := hneg.out; simp [*] at this
       ·exact h
      have e1 : t = s.extract 1 s.size := by have := htl.out; simpa using this
      have e2 : sg = -1 := by have := hsg.out; simpa [sgn] using this
      subst e1 e2; go_wp2_with fail
      go_meet
      exact ⟨by simp, rfl, rfl⟩
    | false =>
      have e1 : t = s := by have := htl.out; simpa using this
      have e2 : sg = 1 := by have := hsg.out; simpa [sgn] using this
      subst e1 e2; go_wp2_with fail
      go_meet
      exact ⟨by simp, rfl, rfl⟩
   case rest =>
   obtain ⟨rfl, rfl, rfl⟩ := hcut; clear htl hneg hn; obtain ⟨bad, hbad⟩ : ∃ bad, Hid (bad = decide (t.toList.length = 0 ∨ 10 < t.toList.length ∨ (t.toList.head? = some 48 ∧ (1 < t.toList.length ∨ neg = true)))) := ⟨_, rfl⟩
   go_upto_region 6 with fail
   go_cut [44] (fun x W => x = .bool bad ∧ W = w.alloc (.cells #[.int .i64 0, .int .i64 0, .string ⟨#[]⟩] 73))
   case first =>
    have hB := hbad.out; rw [ba_len] at hB; by_cases h0 : t.size = 0
    ·have hb : bad = true := by rw [hB]; simp [h0]
     have z0 : ((t.size : Int) == 0) = true := by simp [h0]
     subst hb; clear hB h0; go_wp2_with fail
     go_meet
     exact ⟨by simp, rfl⟩
    ·have z0 : ((t.size : Int) == 0) = false := by simp [h0]
     by_cases h1 : 10 < t.size
     ·have hb : bad = true := by rw [hB]; simp [h1]
      have i0 : (10 : Int) < (t.size : Int) := by omega
      subst hb; clear hB h0 h1; go_wp2_with fail
      go_meet
      exact ⟨by simp, rfl⟩
     ·have i0 : ¬ (10 : Int) < (t.size : Int) := by omega
      have hp : 0 < t.size := by omega
      have hhd := ba_head hp; by_cases h2 : t[0]'hp = 48
      ·have z1 : (((t[0]'hp).toNat : Int) == 48) = true := by rw [h2]; rfl
       rw [hhd, h2] at hB; by_cases h3 : 1 < t.size
       ·have hb : bad = true := by rw [hB]; simp [h3]
        have i1 : (1 : Int) < (t.size : Int) := by omega
        subst hb; clear hB h0 h1 h2 hhd h3; go_wp2_with fail
        go_meet
        exact ⟨by simp, rfl⟩
       ·have i1 : ¬ (1 : Int) < (t.size : Int) := by omega
        have hb : bad = neg := by rw [hB]; simp [h0, h1, h3]
        have e2 := hsg.out; clear hB h0 h1 h2 hhd h3; cases neg with
        | true =>
          have e2 : sg = -1 := by simpa [sgn] using e2
          subst hb e2; go_wp2_with fail
          go_meet
          exact ⟨by simp [sgn] <;> omega, rfl⟩
        | false =>
          have e2 : sg = 1 := by simpa [sgn] using e2
          subst hb e2; go_wp2_with fail
          go_meet
          exact ⟨by simp [sgn] <;> omega, rfl⟩
      ·have z1 : (((t[0]'hp).toNat : Int) == 48) = false := by
        rw [Bool.eq_false_iff]; intro h; rw [beq_iff_eq] at h
        exact h2 (UInt8.toNat_inj.1 (by have : (48 : UInt8).toNat = 48 := rfl; omega))
       have hb : bad = false := by rw [hB, hhd]; simp [h0, h1, h2]
       subst hb; clear hB h0 h1 h2 hhd; go_wp2_with fail
       go_meet
       exact ⟨by simp, rfl⟩
   case rest =>
   obtain ⟨rfl, rfl⟩ := hcut
   have hmag : Hid (refMag t.toList neg = if bad = true then none else magOf t.toList) := by
    rw [hbad.out]; show refMag _ _ = _; unfold refMag; simp only [decide_eq_true_eq]
   have hle : bad = false → t.size ≤ 10 := by
    intro h; have := hbad.out; rw [h, ba_len] at this; have := (decide_eq_false_iff_not.1 this.symm)
    omega
   have HsE := hZ9 (show sg = 1 ∨ sg = -1 by rw [hsg.out]; unfold sgn; split <;> simp); clear hbad hsg; cases bad with
   | true =>
     obtain ⟨rfl, rfl⟩ := Hno.out (by rw [hmag.out]; rfl); clear hmag Hno Hyes hle; go_wp2_with fail
     exact bodyPost_ret (v := .tuple #[gv0.v, .bool false]) (by simp [results, Tryz.results199, go_sem, gv0]) rfl ⟨rfl, belowA (Below.refl _ _) _⟩
   | false =>
   have hle := hle rfl; have hmag : Hid (refMag t.toList neg = magOf t.toList) := hmag.out; generalize refMag t.toList neg = rm at hmag Hno Hyes; go_wp2_with fail
   go_loop [6, 7] (fun x i => ∃ k a : Nat, k ≤ t.size ∧ a < 10000000000 ∧ x = .int .i64 a ∧ i = .int .i64 k ∧ Hid (Lib.decFrom 0 (t.toList.take k) = some a)) (fun _ i => t.size - (intOf i).toNat)
   case atStart => exact ⟨0, 0, by omega, by omega, rfl, rfl, rfl⟩
   case round =>
    obtain ⟨k, a, hk, ha, rfl, rfl, hm⟩ := hrel; by_cases hlt : k < t.size
    ·have i0 : (0 : Int) ≤ (k : Int) := by omega
     have i1 : (k : Int) < (t.size : Int) := by omega
     have ha9 : a < 1000000000 := by
      have h1 := Lib.decFrom_lt _ _ _ hm.out; rw [List.length_take, ba_len, Nat.min_eq_left (by omega)] at h1; have h2 : 10 ^ k ≤ 10 ^ 9 := Nat.pow_le_pow_right (by omega) (by omega); have h3 : (10 : Nat) ^ 9 = 1000000000 := by decide
      omega
     clear ha; by_cases h1 : 48 ≤ (t[k]'hlt).toNat
     ·by_cases h2 : (t[k]'hlt).toNat ≤ 57
      ·have hst := hZ9 (Lib.decFrom_take t.toList k 0 a (t[k]'hlt) ((t[k]'hlt).toNat - 48) hm.out (ba_get hlt) (by unfold Lib.digitVal; rw [if_pos ⟨h1, h2⟩])); clear hm; go_wp2_with fail
       refine ⟨⟨k + 1, 10 * a + ((t[k]'hlt).toNat - 48), by omega, by omega, ?_, by go_num, ?_⟩, by simp [intOf]; omega⟩
       ·congr 1; omega
       ·show _ = _; rw [hst.out]; congr 1; omega
      ·obtain ⟨rfl, rfl⟩ := Hno.out (by rw [hmag.out]; unfold magOf; rw [digit_none hlt (fun h => h2 h.2)]); have i2 : (57 : Int) < ((t[k]'hlt).toNat : Int) := by omega
       clear hmag Hno Hyes hm hle; go_wp2_with fail
       exact bodyPost_ret (v := .tuple #[gv0.v, .bool false]) (by simp [results, Tryz.results199, go_sem, gv0]) rfl ⟨rfl, belowA (Below.refl _ _) _⟩
     ·obtain ⟨rfl, rfl⟩ := Hno.out (by rw [hmag.out]; unfold magOf; rw [digit_none hlt (fun h => h1 h.1)]); have i2 : ((t[k]'hlt).toNat : Int) < 48 := by omega
      clear hmag Hno Hyes hm hle; go_wp2_with fail
      exact bodyPost_ret (v := .tuple #[gv0.v, .bool false]) (by simp [results, Tryz.results199, go_sem, gv0]) rfl ⟨rfl, belowA (Below.refl _ _) _⟩
    ·have i1 : ¬ (k : Int) < (t.size : Int) := by omega
     have hd : Lib.decFrom 0 t.toList = some a := by
      rw [← hm.out, List.take_of_length_le (by rw [ba_len]; omega)]
     have hmg : rm = if 2147483647 < a then none else some a := by rw [hmag.out]; unfold magOf; rw [hd]
     clear hm hmag hd; by_cases h1 : 2147483647 < a
     ·rw [if_pos h1] at hmg; obtain ⟨rfl, rfl⟩ := Hno.out hmg; have i2 : (2147483647 : Int) < (a : Int) := by omega
      clear Hno Hyes hmg hle; go_wp2_with fail
      exact bodyPost_ret (v := .tuple #[gv0.v, .bool false]) (by simp [results, Tryz.results199, go_sem, gv0]) rfl ⟨rfl, belowA (Below.refl _ _) _⟩
     ·rw [if_neg h1] at hmg; obtain ⟨rfl, rfl⟩ := Hyes.out a hmg; have i2 : ¬ (2147483647 : Int) < (a : Int) := by omega
      clear Hno Hyes hmg hle; rcases HsE.out with rfl | rfl
      ·go_wp2_with fail
       exact bodyPost_ret (v := .tuple #[(⟨1, (a : Int), ⟨#[]⟩⟩ : GV).v, .bool true]) (by simp [results, Tryz.results199, go_sem]) rfl ⟨rfl, belowA (Below.refl _ _) _⟩
      ·go_wp2_with fail
       exact bodyPost_ret (v := .tuple #[(⟨1, -(a : Int), ⟨#[]⟩⟩ : GV).v, .bool true]) (by simp [results, Tryz.results199, go_sem]) rfl ⟨rfl, belowA (Below.refl _ _) _⟩
end Go.Proofs.YtaeedepojpablaaGreatDoor

namespace Go.Proofs.YtaeedepojpablaaGreatDoor
open Go.RowKit
set_option linter.unusedSimpArgs false in
theorem inside_any (c : UInt8) (w : World) : Calls Tryz.prog 173 #[.int .u8 c.toNat] w (RetSameB (insB c) w) := by
 have HE : Hid (insB c = ((decide (97 ≤ c.toNat) && decide (c.toNat ≤ 122)) || (decide (65 ≤ c.toNat) && decide (c.toNat ≤ 90)) || (decide (48 ≤ c.toNat) && decide (c.toNat ≤ 57)) || decide (c.toNat = 95))) := rfl; rw [HE.out]; clear HE; generalize c.toNat = r; by_cases h1 : (97 : Int) ≤ r <;> by_cases h2 : (r : Int) ≤ 122 <;> by_cases h3 : (65 : Int) ≤ r <;> by_cases h4 : (r : Int) ≤ 90 <;> by_cases h5 : (48 : Int) ≤ r <;> by_cases h6 : (r : Int) ≤ 57 <;> by_cases h7 : (r : Int) = 95 <;> (try (exfalso; omega))
 all_goals
  have z7 : ((r : Int) == 95) = decide ((r : Int) = 95) := by rw [Bool.eq_iff_iff]; simp
  simp only [h7, decide_true, decide_false] at z7; have g1 : (97 ≤ r) = (97 ≤ r) := rfl
  have e : ((decide (97 ≤ r) && decide (r ≤ 122)) || (decide (65 ≤ r) && decide (r ≤ 90)) || (decide (48 ≤ r) && decide (r ≤ 57)) || decide (r = 95)) = (((decide ((97 : Int) ≤ r) && decide ((r : Int) ≤ 122)) || (decide ((65 : Int) ≤ r) && decide ((r : Int) ≤ 90)) || (decide ((48 : Int) ≤ r) && decide ((r : Int) ≤ 57)) || decide ((r : Int) = 95))) := by
   rw [Bool.eq_iff_iff]; simp; omega
  simp only [h1, h2, h3, h4, h5, h6, h7, decide_true, decide_false, Bool.and_true, Bool.true_and, Bool.and_false, Bool.false_and, Bool.or_true, Bool.true_or, Bool.or_false, Bool.false_or] at e; rw [e]; clear e g1; go_enter Tryz.func173, Tryz.ntmps173
  go_wp2
  go_ret; exact ⟨rfl, rfl⟩
theorem mem_take_succ5 {l : List ByteArray} {k : Nat} {s x : ByteArray} (hx : l[k]? = some x) : s ∈ l.take (k + 1) ↔ s ∈ l.take k ∨ x = s := by
 rw [List.take_add_one, hx]; simp [eq_comm]
set_option linter.unusedSimpArgs false in
theorem in_any (A : Option Addr) (n c : Nat) (l : List ByteArray) (s : ByteArray) (w : World) (hl : SliceIs Enc.str w w.heap.size A n c l) :
 Calls Tryz.prog 175 #[.slice A n c, .string s] w (RetSameB (decide (s ∈ l)) w) := by
 have hn := hl.bound; have hlen := hZ9 hl.1; go_enter Tryz.func175, Tryz.ntmps175
 go_wp2
 go_loop [5] (fun i => ∃ k : Nat, k ≤ n ∧ i = .int .i64 k ∧ Hid (s ∉ l.take k)) (fun i => n - (intOf i).toNat)
 case atStart => exact ⟨0, by omega, rfl, by simp [Hid]⟩
 case round =>
  obtain ⟨k, hk, rfl, hpre⟩ := hrel; by_cases hlt : k < n
  ·obtain ⟨b, o, x, rfl, _, hx, hc, hs⟩ := hl.str_at hlt; have i0 : (0 : Int) ≤ (k : Int) := by omega
   have i1 : (k : Int) < (n : Int) := by omega
   have hb := World.block_lt_of_cell? w _ hc; clear hl; by_cases h1 : x = s
   ·have h1' : (x.toList == s.toList) = true := by simp [h1]
    have HR : Hid (decide (s ∈ l) = true) := by show decide (s ∈ l) = true; rw [← h1]; simpa using List.mem_of_getElem? hx.out
    clear h1; go_wp2
    go_ret; exact ⟨by rw [HR.out]; rfl, rfl⟩
   ·have h1' : (x.toList == s.toList) = false := by simp [toList_inj, h1]
    have HN : Hid (s ∉ l.take (k + 1)) := by
     show ¬ _; rw [mem_take_succ5 hx.out]; intro h; rcases h with h | h
     ·exact hpre.out h
     ·exact h1 h
    clear h1; go_wp2
    go_round
    case rel => exact ⟨k + 1, by omega, by go_num, HN⟩
    case measure => simp [intOf]; omega
  ·have HR : Hid (decide (s ∈ l) = false) := by
    show decide (s ∈ l) = false; have h := hpre.out; rw [List.take_of_length_le (by have := hlen.out; omega)] at h; simpa using h
   have i1 : ¬ (k : Int) < (n : Int) := by omega
   go_wp2
   go_ret; exact ⟨by rw [HR.out]; rfl, rfl⟩
theorem strs_new {w : World} {L : List (List UInt8)} (o : Obj) (ho : o = .cells (L.map fun l => Value.string (bytes l)).toArray 9) (hl : L.length ≤ 1000) (hb : ∀ l ∈ L, l.length ≤ 1000) :
 SliceIs Enc.str (w.alloc o) (w.alloc o).heap.size (some ⟨w.heap.size, 0, none⟩) L.length L.length (L.map bytes) := by
 have h : StrsW w.heap.size L (w.alloc o) := ⟨9, (0, 0), by rw [ho]; exact heapNew rfl⟩
 exact h.is hl hb
set_option linter.unusedSimpArgs false in
theorem wordR_any (s : ByteArray) (hs : s.size ≤ 140737488351232) (h1 : 1 ≤ s.size) (w : World) : Calls Tryz.prog 174 #[.string s] w (RetInt (wordK s.toList) w) := by
 have HI := hZ9 (in_any _ _ _ _ s _ (strs_new (w := w) (L := keysL) (.cells #[.string ⟨#[114, 101, 108]⟩, .string ⟨#[105, 110, 116]⟩, .string ⟨#[115, 121, 109]⟩, .string ⟨#[110, 111, 116]⟩, .string ⟨#[99, 111, 117, 110, 116]⟩, .string ⟨#[115, 117, 109]⟩, .string ⟨#[109, 105, 110]⟩, .string ⟨#[109, 97, 120]⟩] 9) rfl (by decide) (by decide))); have Hn := hZ9 (fun w => refName_any s hs w); have HPa := hZ9 (fun w => refParse_any s hs w)
 have e0 : headN s.toList = (s[0]'h1).toNat := by
  have := ba_head h1; cases hl : s.toList with
  | nil => rw [hl] at this; cases this
  | cons c r => rw [hl] at this; simp at this; simp [headN, this]
 have e1 : nameOk ⟨s.toList.toArray⟩ = nameOk s := by rw [bytes_back]
 have e2 : s.toList.length = s.size := ba_len s
 have HQ : Hid (wordK s.toList = if decide (s ∈ keysL.map bytes) then (1 : Int) else if nameOk s then (2 : Int) else if greatB (s[0]'h1).toNat && decide (s.size ≤ 32) then (3 : Int) else if (refNum s.toList).isSome then (4 : Int) else (0 : Int)) := by
  show _ = _; unfold wordK; rw [e0, e1, e2, mem_bytes]; simp
 have h1n : (0 : Int) < (s.size : Int) := by omega
 rw [HQ.out]; clear e0 e1 e2 HQ; cases hk : decide (s ∈ keysL.map bytes) with
 | true =>
   rw [hk] at HI; simp only [if_true]; go_enter Tryz.func174, Tryz.ntmps174
   go_wp2_with fail
   refine HI.out.mono ?_; rintro e w1 ⟨rfl, rfl⟩; go_wp2_with fail
   go_ret; exact ⟨rfl, belowA (Below.refl _ _) _⟩
 | false =>
 rw [hk] at HI; clear hk; simp only [Bool.false_eq_true, if_false]; cases hN : nameOk s with
 | true =>
   rw [hN] at Hn; simp only [if_true]; go_enter Tryz.func174, Tryz.ntmps174
   go_wp2_with fail
   refine HI.out.mono ?_; rintro e w1 ⟨rfl, rfl⟩; go_wp2_with fail
   refine (Hn.out _).mono ?_; rintro e w2 ⟨rfl, hb2⟩; go_wp2_with fail
   go_ret; exact ⟨rfl, below_next (belowA (Below.refl _ _) _) hb2⟩
 | false =>
 rw [hN] at Hn; simp only [Bool.false_eq_true, if_false]
 have HP2 : Hid (∃ kk nn tt, (kk = 1 ↔ (refNum s.toList).isSome = true) ∧ (parseG s).v = .agg #[.int .i64 kk, .int .i64 nn, .string tt] ∧ (parseO s).isSome = (refNum s.toList).isSome) := by
  cases hr : refNum s.toList with
  | none => exact ⟨0, 0, ⟨#[]⟩, by simp, by simp [parseG, parse_none hN hr, gv0], by simp [parse_none hN hr]⟩
  | some n => exact ⟨1, n, ⟨#[]⟩, by simp, by simp [parseG, parse_some hN hr], by simp [parse_some hN hr]⟩
 obtain ⟨kk, nn, tt, hkk, hpv, hpo⟩ := HP2.out; rw [hpv, hpo] at HPa; have Hkk := hZ9 hkk; generalize (refNum s.toList).isSome = ok at *; clear hpv hpo HP2 hN hkk; by_cases hg1 : (65 : Int) ≤ ((s[0]'h1).toNat : Int) <;> by_cases hg2 : ((s[0]'h1).toNat : Int) ≤ 90 <;> by_cases h32 : (s.size : Int) ≤ 32 <;> (try (exfalso; omega))
 all_goals
  have hG : greatB (s[0]'h1).toNat = (decide ((65 : Int) ≤ ((s[0]'h1).toNat : Int)) && decide (((s[0]'h1).toNat : Int) ≤ 90)) := by unfold greatB; rw [Bool.eq_iff_iff]; simp; omega
  have hS : decide (s.size ≤ 32) = decide ((s.size : Int) ≤ 32) := by rw [Bool.eq_iff_iff]; simp; omega
  rw [hG, hS]; simp only [hg1, hg2, h32, decide_true, decide_false, Bool.and_true, Bool.and_false, Bool.false_and, Bool.and_self, Bool.false_eq_true, if_true, if_false]; clear hG hS
 ·go_enter Tryz.func174, Tryz.ntmps174
  go_wp2_with fail
  refine HI.out.mono ?_; rintro e w1 ⟨rfl, rfl⟩; go_wp2_with fail
  refine (Hn.out _).mono ?_; rintro e w2 ⟨rfl, hb2⟩; go_wp2_with fail
  go_ret; exact ⟨rfl, below_next (belowA (Below.refl _ _) _) hb2⟩
 all_goals
  cases ok with
  | false =>
    go_enter Tryz.func174, Tryz.ntmps174
    go_wp2_with fail
    refine HI.out.mono ?_; rintro e w1 ⟨rfl, rfl⟩; go_wp2_with fail
    refine (Hn.out _).mono ?_; rintro e w2 ⟨rfl, hb2⟩; go_wp2_with fail
    refine (HPa.out _).mono ?_; rintro e w3 ⟨rfl, hb3⟩; go_wp2_with fail
    go_ret; exact ⟨rfl, belowA (below_next (below_next (belowA (Below.refl _ _) _) hb2) hb3) _⟩
  | true =>
    have hk1 : kk = 1 := Hkk.out.2 rfl; subst hk1; go_enter Tryz.func174, Tryz.ntmps174
    go_wp2_with fail
    refine HI.out.mono ?_; rintro e w1 ⟨rfl, rfl⟩; go_wp2_with fail
    refine (Hn.out _).mono ?_; rintro e w2 ⟨rfl, hb2⟩; go_wp2_with fail
    refine (HPa.out _).mono ?_; rintro e w3 ⟨rfl, hb3⟩; have hra : (w3.alloc (.cells #[.int .i64 1, .int .i64 nn, .string tt] 73)).heap[w3.heap.size]? = some (.cells #[.int .i64 1, .int .i64 nn, .string tt] 73 (0, 0)) := heapNew rfl; obtain ⟨x0, x1, x2, -, -, -⟩ := three_facts hra; clear hra; go_wp2_with fail
    go_ret; exact ⟨rfl, belowA (below_next (below_next (belowA (Below.refl _ _) _) hb2) hb3) _⟩
end Go.Proofs.YtaeedepojpablaaGreatDoor
