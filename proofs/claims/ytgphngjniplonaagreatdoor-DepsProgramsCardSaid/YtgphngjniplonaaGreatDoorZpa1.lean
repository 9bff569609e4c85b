/- My own texts Base, Open, Name, VParse, Exp, Pgm, TFrame, as far as this claim needs them. -/
import Derived.Test.YtgphngjniplonaaGreatDoorZp4
set_option linter.unusedVariables false
set_option linter.unusedSimpArgs false
set_option maxRecDepth 1000000
set_option maxHeartbeats 16000000
namespace Go.Proofs.YtgphngjniplonaaGreatDoor
open Go.RowKit
section
variable {P : Program} {w : World} {b : Nat} {kvs : List (ByteArray × Value)}
end
def Enc.val : Enc GV where
  sz := 3
  ok _ _ cs x := cs = [.int .i64 x.k, .int .i64 x.n, .string x.s] ∧ x.ok
  mono _ _ h := h
  len h := by rw [h.1]; rfl
section
variable {w : World} {B : Nat} {A : Option Addr} {n c : Nat}
end
section
variable {P : Program} {w : World} {it g : Nat} {kvs done : List (ByteArray × Value)}
end
end Go.Proofs.YtgphngjniplonaaGreatDoor

namespace Go.Proofs.YtgphngjniplonaaGreatDoor
open Go.RowKit
theorem opens_str {P : Program} {t : TypeId} (h : P.underlying t = some .string) : Opens P t Enc.str := by
  intro H enc w fuel cs x hx hwt
  obtain ⟨s, rfl, rfl, _⟩ := DataW.trod_string h hx
  refine ⟨s, rfl, ?_⟩
  have := hwt s.data.toList.length (by simp [DataW.weights])
  rw [reach_eq] at this
  simpa using this
theorem opens_val {P : Program} {t a b c : TypeId} (hf : fieldsOf P t = [(a, 0, 1), (b, 1, 1), (c, 2, 1)]) (hz : P.cellsOf t = 3) (ha : P.underlying a = some (.int .i64)) (hb : P.underlying b = some (.int .i64)) (hc : P.underlying c = some .string) : Opens P t Enc.val := by
  intro H enc w fuel cs x hx hwt
  obtain ⟨hl, hat⟩ := open_fields hf (by simp) hx hwt
  rw [hz] at hl
  match cs, hl with
  | [u0, u1, u2], _ =>
    obtain ⟨y, n, h, hw⟩ := hat 0 _ rfl
    obtain ⟨k, e0, f0⟩ := opens_int ha _ _ _ _ _ _ h hw
    obtain ⟨y, n, h, hw⟩ := hat 1 _ rfl
    obtain ⟨i, e1, f1⟩ := opens_int hb _ _ _ _ _ _ h hw
    obtain ⟨y, n, h, hw⟩ := hat 2 _ rfl
    obtain ⟨s, e2, f2⟩ := opens_str hc _ _ _ _ _ _ h hw
    simp at e0 e1 e2
    subst e0 e1 e2
    exact ⟨⟨k, i, s⟩, rfl, f0, f1, f2⟩
theorem opens_told {P : Program} {t a b : TypeId} (hf : fieldsOf P t = [(a, 0, 1), (b, 1, 3)]) (hz : P.cellsOf t = 4) (ha : P.underlying a = some .string) (hb : Opens P b Enc.val) : Opens P t Enc.told := by
  intro H enc w fuel cs x hx hwt
  obtain ⟨hl, hat⟩ := open_fields hf (by simp) hx hwt
  rw [hz] at hl
  match cs, hl with
  | [u0, u1, u2, u3], _ =>
    obtain ⟨y, n, h, hw⟩ := hat 0 _ rfl
    obtain ⟨s, e0, f0⟩ := opens_str ha _ _ _ _ _ _ h hw
    obtain ⟨y, n, h, hw⟩ := hat 1 _ rfl
    obtain ⟨v, e1, f1⟩ := hb _ _ _ _ _ _ h hw
    simp at e0 e1
    obtain ⟨rfl, rfl, rfl⟩ := e1
    subst e0
    exact ⟨⟨s, v⟩, rfl, f0, f1⟩
end Go.Proofs.YtgphngjniplonaaGreatDoor

namespace Go.Proofs.YtgphngjniplonaaGreatDoor
open Go.RowKit
theorem nameOk_all {s : ByteArray} {i : Nat} (hi : i < s.size) (h : nameB (byteAt s i) = false) : nameOk s = false := by simp [nameOk, allN_false hi h]
def refB (i b : Nat) : Bool := lowB b || (!decide (i = 0) && nameB b)
theorem refB_false {s : ByteArray} {i : Nat} (hi : i < s.size) (h : refB i (byteAt s i) = false) : nameOk s = false := by
  simp only [refB, Bool.or_eq_false_iff, Bool.and_eq_false_iff, Bool.not_eq_false', decide_eq_true_eq] at h
  rcases h.2 with h0 | h0
  · rw [h0] at h; simp [nameOk, h.1]
  · exact nameOk_all hi h0
theorem lowB_name {b : Nat} (h : lowB b = true) : nameB b = true := by
  simp only [lowB] at h; simp [nameB, h]
theorem refB_true {s : ByteArray} (h : ∀ j, j < s.size → refB j (byteAt s j) = true) : nameOk s = (decide (1 ≤ s.size) && decide (s.size ≤ 32)) := by
  have ha : allN s = true := by
    simp only [allN, decide_eq_true_eq]
    intro j hj
    have := h j hj
    simp only [refB, Bool.or_eq_true, Bool.and_eq_true] at this
    rcases this with h1 | h1
    · exact lowB_name h1
    · exact h1.2
  by_cases h0 : 1 ≤ s.size
  · have := h 0 (by omega)
    simp [refB] at this
    simp [nameOk, ha, this]
  · simp [nameOk, h0]
theorem refB_int (k b : Nat) : refB k b = ((decide (97 ≤ (b : Int)) && decide ((b : Int) ≤ 122)) || (!decide (k = 0) && ((decide (48 ≤ (b : Int)) && decide ((b : Int) ≤ 57)) || decide ((b : Int) = 95)))) := by
  rw [Bool.eq_iff_iff]; simp [refB, lowB, nameB]; omega
set_option linter.unusedSimpArgs false in
theorem refNameQ_any (s : ByteArray) (hsz : s.size ≤ 140737488351232) (w : World) : Calls Tryz.prog 181 #[.string s] w (RetSameB (nameOk s) w) := by
  go_enter Tryz.func181, Tryz.ntmps181
  go_wp2
  go_loop [3, 4, 5] (fun i _ _ => ∃ k : Nat, k ≤ s.size ∧ i = .int .i64 k ∧ Hid (∀ j, j < k → refB j (byteAt s j) = true)) (fun i _ _ => s.size - (intOf i).toNat)
  case atStart => exact ⟨0, by omega, rfl, fun j h => by omega⟩
  case round =>
    obtain ⟨k, hk, rfl, hpre⟩ := hrel
    by_cases hlt : k < s.size
    · have i0 : (0 : Int) ≤ (k : Int) := by omega
      have i1 : (k : Int) < (s.size : Int) := by omega
      have Hb := Lib.hid (byteAt_eq hlt).symm
      have HN : Hid (refB k (s[k]'hlt).toNat = true → ∀ j, j < k + 1 → refB j (byteAt s j) = true) := by
        intro h j hj
        by_cases hjk : j < k
        · exact hpre.out j hjk
        · have e : j = k := by omega
          subst e
          rw [Hb.out]; exact h
      have HF : Hid (refB k (s[k]'hlt).toNat = false → nameOk s = false) := by
        intro h; exact refB_false hlt (by rw [Hb.out]; exact h)
      have HE := Lib.hid (refB_int k (s[k]'hlt).toNat)
      clear hpre
      have z0 : ((k : Int) == 0) = decide (k = 0) := by rw [Bool.eq_iff_iff]; simp
      by_cases h1 : (97 : Int) ≤ ((s[k]'hlt).toNat : Int) <;> by_cases h2 : ((s[k]'hlt).toNat : Int) ≤ 122 <;> by_cases h3 : (48 : Int) ≤ ((s[k]'hlt).toNat : Int) <;> by_cases h4 : ((s[k]'hlt).toNat : Int) ≤ 57 <;> by_cases h5 : ((s[k]'hlt).toNat : Int) = 95 <;> cases hk0 : decide (k = 0) <;> (try (exfalso; omega))
      all_goals
        have z5 : (((s[k]'hlt).toNat : Int) != 95) = !decide (((s[k]'hlt).toNat : Int) = 95) := by rw [Bool.eq_iff_iff]; simp
        have h0 := HE.out
        rw [hk0] at z0 h0
        clear HE hk0
        simp only [h1, h2, h3, h4, h5, decide_true, decide_false, Bool.and_true, Bool.true_and, Bool.and_false, Bool.false_and, Bool.or_true, Bool.true_or, Bool.or_false, Bool.false_or, Bool.not_true, Bool.not_false] at z5 h0
        have HR := Lib.hid h0
        clear h0
        go_wp2_with fail
      all_goals first
        | (go_ret; exact ⟨by rw [HF.out HR.out]; rfl, rfl⟩)
        | exact ⟨⟨k + 1, by omega, by go_num, HN.out HR.out⟩, by simp [intOf]; omega⟩
    · have HR : Hid (nameOk s = (decide (1 ≤ s.size) && decide (s.size ≤ 32))) := refB_true (fun j hj => hpre.out j (by omega))
      have i1 : ¬ (k : Int) < (s.size : Int) := by omega
      by_cases h1 : (1 : Int) ≤ (s.size : Int) <;> by_cases h2 : (s.size : Int) ≤ 32 <;> (try (exfalso; omega))
      all_goals
        go_wp2_with fail
        go_ret
        exact ⟨by rw [HR.out]; simp; omega, rfl⟩
theorem refName_any (s : ByteArray) (hsz : s.size ≤ 140737488351232) (w : World) : Calls Tryz.prog 181 #[.string s] w (RetBool (nameOk s) w) :=
  (refNameQ_any s hsz w).mono fun _ _ ⟨he, hw⟩ => ⟨he, by rw [hw]; exact Below.refl _ _⟩
set_option linter.unusedSimpArgs false in
theorem refRight_any (v : GV) (hv : v.ok) (w : World) : Calls Tryz.prog 160 #[v.v] w (RetBool (rightB v) w) := by
  have hsz : v.s.size ≤ 140737488351232 := hv.2.2
  by_cases h1 : v.k = 1
  · have z1 : (v.k == 1) = true := by simp [h1]
    have Hk := Lib.hid h1
    clear h1
    have HE : Hid (rightB v = (((v.s.size : Int) == 0) && decide (-2147483647 ≤ v.n) && decide (v.n ≤ 2147483647))) := by
      show rightB v = _
      rw [Bool.eq_iff_iff]; simp [rightB, Hk.out]
    cases zs : ((v.s.size : Int) == 0) <;> by_cases h3 : -2147483647 ≤ v.n <;> by_cases h4 : v.n ≤ 2147483647 <;> (try (exfalso; omega))
    all_goals
      have h0 := HE.out
      clear HE
      simp only [zs, h3, h4, decide_true, decide_false, Bool.and_true, Bool.and_false, Bool.false_and] at h0
      have HR := Lib.hid h0
      clear h0
      go_enter Tryz.func160, Tryz.ntmps160
      go_wp2_with fail
      go_ret
      exact ⟨by rw [HR.out]; rfl, belowA (Below.refl _ _) _⟩
  · have z1 : (v.k == 1) = false := by simp [h1]
    have Hk := Lib.hid h1
    clear h1
    by_cases h2 : v.k = 2
    · have z2 : (v.k == 2) = true := by simp [h2]
      have Hk2 := Lib.hid h2
      clear h2
      by_cases h3 : v.n = 0
      · have z3 : (v.n == 0) = true := by simp [h3]
        have HR : Hid (rightB v = nameOk v.s) := by show rightB v = _; simp [rightB, Hk2.out, h3]
        clear h3
        go_enter Tryz.func160, Tryz.ntmps160
        go_wp2_with fail
        refine (refName_any v.s hsz _).mono ?_
        rintro e w1 ⟨rfl, hb⟩
        go_wp2_with fail
        go_ret
        exact ⟨by rw [HR.out]; rfl, below_next (belowA (Below.refl _ _) _) hb⟩
      · have z3 : (v.n == 0) = false := by simp [h3]
        have HR : Hid (rightB v = false) := by show rightB v = _; simp [rightB, Hk2.out, h3]
        clear h3
        go_enter Tryz.func160, Tryz.ntmps160
        go_wp2_with fail
        go_ret
        exact ⟨by rw [HR.out]; rfl, belowA (Below.refl _ _) _⟩
    · have z2 : (v.k == 2) = false := by simp [h2]
      have HR : Hid (rightB v = false) := by show rightB v = false; simp [rightB, Hk.out, h2]
      clear h2
      go_enter Tryz.func160, Tryz.ntmps160
      go_wp2_with fail
      go_ret
      exact ⟨by rw [HR.out]; rfl, belowA (Below.refl _ _) _⟩
end Go.Proofs.YtgphngjniplonaaGreatDoor

namespace Go.Proofs.YtgphngjniplonaaGreatDoor
open Go.RowKit
theorem is_any (n k : Int) (w : World) : Calls Tryz.prog 21 #[errV 57 n, .int .i64 k] w (RetBool (n == k) w) := by
  have hn := Lib.hid (num_any n)
  go_enter Tryz.func21, Tryz.ntmps21
  go_wp2_with fail
  refine (hn.out _).mono ?_
  rintro e w1 ⟨rfl, hq1⟩
  go_wp2_with fail
  go_ret
  exact ⟨rfl, hq1⟩
def parseO (s : ByteArray) : Option GV := if nameOk s then some ⟨2, 0, s⟩ else (refNum s.toList).map fun n => ⟨1, n, ⟨#[]⟩⟩
def parseG (s : ByteArray) : GV := (parseO s).getD gv0
theorem parse_name {s : ByteArray} (h : nameOk s = true) : parseO s = some ⟨2, 0, s⟩ := by simp [parseO, h]
theorem parse_num {s : ByteArray} (h : nameOk s = false) : parseO s = (refNum s.toList).map fun n => ⟨1, n, ⟨#[]⟩⟩ := by simp [parseO, h]
theorem parse_none {s : ByteArray} (h : nameOk s = false) (h2 : refNum s.toList = none) : parseO s = none := by rw [parse_num h, h2]; rfl
theorem parse_some {s : ByteArray} {n : Int} (h : nameOk s = false) (h2 : refNum s.toList = some n) : parseO s = some ⟨1, n, ⟨#[]⟩⟩ := by rw [parse_num h, h2]; rfl
theorem ba_tail (s : ByteArray) : (s.extract 1 s.size).toList = s.toList.tail := by
  rw [ByteArray.toList_eq, ByteArray.toList_eq, ByteArray.data_extract, Array.toList_extract]
  show List.take (s.size - 1) (s.data.toList.drop 1) = _
  rw [List.drop_one, List.take_of_length_le]
  rw [List.length_tail]; exact Nat.le_refl _
theorem digit_none {t : ByteArray} {k : Nat} (hk : k < t.size) (h : ¬ (48 ≤ (t[k]'hk).toNat ∧ (t[k]'hk).toNat ≤ 57)) : Lib.decFrom 0 t.toList = none := by
  cases hd : Lib.decFrom 0 t.toList with
  | none => rfl
  | some n =>
    obtain ⟨d, hd'⟩ := Lib.digit_of_decFrom _ _ _ hd k _ (ba_get hk)
    unfold Lib.digitVal at hd'
    rw [if_neg h] at hd'
    cases hd'
def sgn (neg : Bool) : Int := if neg then -1 else 1
theorem refNum_mag (l : List UInt8) : refNum l = (refMag (if l.head? = some 45 then l.tail else l) (decide (l.head? = some 45))).map fun (n : Nat) => sgn (decide (l.head? = some 45)) * (n : Int) := by
  unfold refNum
  by_cases h : l.head? = some 45
  · simp only [h, if_true, decide_true, sgn]
    congr 1; funext n; omega
  · simp only [h, if_false, decide_false, sgn]
    congr 1; funext n; simp
theorem refParse_any (s : ByteArray) (hs : s.size ≤ 140737488351232) (w : World) : Calls Tryz.prog 197 #[.string s] w (RetV (.tuple #[(parseG s).v, .bool (parseO s).isSome]) w) := by
  have hn := fun w => refNameQ_any s hs w
  cases hN : nameOk s with
  | true =>
    rw [hN] at hn
    have hn := Lib.hid hn
    rw [show parseG s = ⟨2, 0, s⟩ by simp [parseG, parse_name hN], show (parseO s).isSome = true by simp [parse_name hN]]
    clear hN
    go_enter Tryz.func197, Tryz.ntmps197
    go_wp2_with fail
    refine (hn.out _).mono ?_
    rintro e w1 ⟨rfl, rfl⟩
    go_wp2_with fail
    exact bodyPost_ret (v := .tuple #[(⟨2, 0, s⟩ : GV).v, .bool true]) (by simp [results, Tryz.results197, go_sem]) rfl ⟨rfl, belowA (Below.refl _ _) _⟩
  | false =>
    rw [hN] at hn
    have hn := Lib.hid hn
    obtain ⟨sg, t, neg, hsg, ht, htl, hr, hneg⟩ : ∃ (sg : Int) (t : ByteArray) (neg : Bool), Hid (sg = sgn neg) ∧ t.size ≤ 140737488351232 ∧ Hid (t = (if neg then s.extract 1 s.size else s)) ∧ Hid (refNum s.toList = (refMag t.toList neg).map fun (n : Nat) => sg * (n : Int)) ∧ Hid (neg = decide (s.toList.head? = some 45)) := by
      refine ⟨_, _, decide (s.toList.head? = some 45), rfl, ?_, rfl, ?_, rfl⟩
      · split
        · have : (s.extract 1 s.size).size ≤ s.size := by rw [ByteArray.size_extract]; omega
          omega
        · exact hs
      · show _ = _
        rw [refNum_mag]
        by_cases h : s.toList.head? = some 45
        · simp only [h, if_true, decide_true, ba_tail]
        · simp only [h, if_false, decide_false, Bool.false_eq_true]
    have hno : refMag t.toList neg = none → parseG s = gv0 ∧ (parseO s).isSome = false := by
      intro h
      have := parse_none hN (by rw [hr.out, h]; rfl)
      simp [parseG, this]
    have hyes : ∀ n : Nat, refMag t.toList neg = some n → parseG s = ⟨1, sg * n, ⟨#[]⟩⟩ ∧ (parseO s).isSome = true := by
      intro n h
      have := parse_some hN (n := sg * n) (by rw [hr.out, h]; rfl)
      simp [parseG, this]
    have Hno := Lib.hid hno
    have Hyes := Lib.hid hyes
    generalize parseG s = pg at Hno Hyes ⊢
    generalize (parseO s).isSome = po at Hno Hyes ⊢
    clear hs hno hyes hN hr
    go_enter Tryz.func197, Tryz.ntmps197
    go_wp2_with fail
    refine (hn.out _).mono ?_
    rintro e w1 ⟨rfl, rfl⟩
    go_upto_region 4 with fail
    go_cut [20] (fun x W => x = .bool neg ∧ W = w.alloc (.cells #[.int .i64 0, .int .i64 0, .string ⟨#[]⟩] 89))
    case first =>
      by_cases h0 : 0 < s.size
      · have i0 : (0 : Int) < (s.size : Int) := by omega
        have hb : (((s[0]'h0).toNat : Int) == 45) = neg := by
          rw [hneg.out, ba_head h0, Bool.eq_iff_iff]
          simp [← UInt8.toNat_inj]; omega
        go_wp2_with fail
        go_meet
        exact ⟨by simp, rfl⟩
      · have hb : neg = false := by
          rw [hneg.out]
          have : s.toList = [] := List.eq_nil_of_length_eq_zero (by rw [ba_len]; omega)
          rw [this]; rfl
        subst hb
        have i0 : ¬ (0 : Int) < (s.size : Int) := by omega
        go_wp2_with fail
        go_meet
        exact ⟨by simp, rfl⟩
    case rest =>
    obtain ⟨rfl, rfl⟩ := hcut
    go_upto_if 20 with fail
    go_cut [4, 5] (fun x y W => x = .string t ∧ y = .int .i64 sg ∧ W = w.alloc (.cells #[.int .i64 0, .int .i64 0, .string ⟨#[]⟩] 89))
    case first =>
      cases neg with
      | true =>
        have h0 : 1 ≤ s.size := by
          rcases Nat.eq_zero_or_pos s.size with h | h
          · have : s.toList = [] := List.eq_nil_of_length_eq_zero (by rw [ba_len]; exact h)
            have := hneg.out
            simp [*] at this
          · exact h
        have e1 : t = s.extract 1 s.size := by have := htl.out; simpa using this
        have e2 : sg = -1 := by have := hsg.out; simpa [sgn] using this
        subst e1 e2
        go_wp2_with fail
        go_meet
        exact ⟨by simp, rfl, rfl⟩
      | false =>
        have e1 : t = s := by have := htl.out; simpa using this
        have e2 : sg = 1 := by have := hsg.out; simpa [sgn] using this
        subst e1 e2
        go_wp2_with fail
        go_meet
        exact ⟨by simp, rfl, rfl⟩
    case rest =>
    obtain ⟨rfl, rfl, rfl⟩ := hcut
    clear htl hneg hn
    obtain ⟨bad, hbad⟩ : ∃ bad, Hid (bad = decide (t.toList.length = 0 ∨ 10 < t.toList.length ∨ (t.toList.head? = some 48 ∧ (1 < t.toList.length ∨ neg = true)))) := ⟨_, rfl⟩
    go_upto_region 6 with fail
    go_cut [44] (fun x W => x = .bool bad ∧ W = w.alloc (.cells #[.int .i64 0, .int .i64 0, .string ⟨#[]⟩] 89))
    case first =>
      have hB := hbad.out
      rw [ba_len] at hB
      by_cases h0 : t.size = 0
      · have hb : bad = true := by rw [hB]; simp [h0]
        have z0 : ((t.size : Int) == 0) = true := by simp [h0]
        subst hb
        clear hB h0
        go_wp2_with fail
        go_meet
        exact ⟨by simp, rfl⟩
      · have z0 : ((t.size : Int) == 0) = false := by simp [h0]
        by_cases h1 : 10 < t.size
        · have hb : bad = true := by rw [hB]; simp [h1]
          have i0 : (10 : Int) < (t.size : Int) := by omega
          subst hb
          clear hB h0 h1
          go_wp2_with fail
          go_meet
          exact ⟨by simp, rfl⟩
        · have i0 : ¬ (10 : Int) < (t.size : Int) := by omega
          have hp : 0 < t.size := by omega
          have hhd := ba_head hp
          by_cases h2 : t[0]'hp = 48
          · have z1 : (((t[0]'hp).toNat : Int) == 48) = true := by rw [h2]; rfl
            rw [hhd, h2] at hB
            by_cases h3 : 1 < t.size
            · have hb : bad = true := by rw [hB]; simp [h3]
              have i1 : (1 : Int) < (t.size : Int) := by omega
              subst hb
              clear hB h0 h1 h2 hhd h3
              go_wp2_with fail
              go_meet
              exact ⟨by simp, rfl⟩
            · have i1 : ¬ (1 : Int) < (t.size : Int) := by omega
              have hb : bad = neg := by rw [hB]; simp [h0, h1, h3]
              have e2 := hsg.out
              clear hB h0 h1 h2 hhd h3
              cases neg with
              | true =>
                have e2 : sg = -1 := by simpa [sgn] using e2
                subst hb e2
                go_wp2_with fail
                go_meet
                exact ⟨by simp [sgn] <;> omega, rfl⟩
              | false =>
                have e2 : sg = 1 := by simpa [sgn] using e2
                subst hb e2
                go_wp2_with fail
                go_meet
                exact ⟨by simp [sgn] <;> omega, rfl⟩
          · have z1 : (((t[0]'hp).toNat : Int) == 48) = false := by
              rw [Bool.eq_false_iff]; intro h; rw [beq_iff_eq] at h
              exact h2 (UInt8.toNat_inj.1 (by have : (48 : UInt8).toNat = 48 := rfl; omega))
            have hb : bad = false := by rw [hB, hhd]; simp [h0, h1, h2]
            subst hb
            clear hB h0 h1 h2 hhd
            go_wp2_with fail
            go_meet
            exact ⟨by simp, rfl⟩
    case rest =>
    obtain ⟨rfl, rfl⟩ := hcut
    have hmag : Hid (refMag t.toList neg = if bad = true then none else magOf t.toList) := by
      rw [hbad.out]; show refMag _ _ = _; unfold refMag; simp only [decide_eq_true_eq]
    have hle : bad = false → t.size ≤ 10 := by
      intro h
      have := hbad.out
      rw [h, ba_len] at this
      have := (decide_eq_false_iff_not.1 this.symm)
      omega
    have HsE := Lib.hid (show sg = 1 ∨ sg = -1 by rw [hsg.out]; unfold sgn; split <;> simp)
    clear hbad hsg
    cases bad with
    | true =>
      obtain ⟨rfl, rfl⟩ := Hno.out (by rw [hmag.out]; rfl)
      clear hmag Hno Hyes hle
      go_wp2_with fail
      exact bodyPost_ret (v := .tuple #[gv0.v, .bool false]) (by simp [results, Tryz.results197, go_sem, gv0]) rfl ⟨rfl, belowA (Below.refl _ _) _⟩
    | false =>
    have hle := hle rfl
    have hmag : Hid (refMag t.toList neg = magOf t.toList) := hmag.out
    generalize refMag t.toList neg = rm at hmag Hno Hyes
    go_wp2_with fail
    go_loop [6, 7] (fun x i => ∃ k a : Nat, k ≤ t.size ∧ a < 10000000000 ∧ x = .int .i64 a ∧ i = .int .i64 k ∧ Hid (Lib.decFrom 0 (t.toList.take k) = some a)) (fun _ i => t.size - (intOf i).toNat)
    case atStart => exact ⟨0, 0, by omega, by omega, rfl, rfl, rfl⟩
    case round =>
      obtain ⟨k, a, hk, ha, rfl, rfl, hm⟩ := hrel
      by_cases hlt : k < t.size
      · have i0 : (0 : Int) ≤ (k : Int) := by omega
        have i1 : (k : Int) < (t.size : Int) := by omega
        have ha9 : a < 1000000000 := by
          have h1 := Lib.decFrom_lt _ _ _ hm.out
          rw [List.length_take, ba_len, Nat.min_eq_left (by omega)] at h1
          have h2 : 10 ^ k ≤ 10 ^ 9 := Nat.pow_le_pow_right (by omega) (by omega)
          have h3 : (10 : Nat) ^ 9 = 1000000000 := by decide
          omega
        clear ha
        by_cases h1 : 48 ≤ (t[k]'hlt).toNat
        · by_cases h2 : (t[k]'hlt).toNat ≤ 57
          · have hst := Lib.hid (Lib.decFrom_take t.toList k 0 a (t[k]'hlt) ((t[k]'hlt).toNat - 48) hm.out (ba_get hlt) (by unfold Lib.digitVal; rw [if_pos ⟨h1, h2⟩]))
            clear hm
            go_wp2_with fail
            refine ⟨⟨k + 1, 10 * a + ((t[k]'hlt).toNat - 48), by omega, by omega, ?_, by go_num, ?_⟩, by simp [intOf]; omega⟩
            · congr 1; omega
            · show _ = _
              rw [hst.out]; congr 1; omega
          · obtain ⟨rfl, rfl⟩ := Hno.out (by rw [hmag.out]; unfold magOf; rw [digit_none hlt (fun h => h2 h.2)])
            have i2 : (57 : Int) < ((t[k]'hlt).toNat : Int) := by omega
            clear hmag Hno Hyes hm hle
            go_wp2_with fail
            exact bodyPost_ret (v := .tuple #[gv0.v, .bool false]) (by simp [results, Tryz.results197, go_sem, gv0]) rfl ⟨rfl, belowA (Below.refl _ _) _⟩
        · obtain ⟨rfl, rfl⟩ := Hno.out (by rw [hmag.out]; unfold magOf; rw [digit_none hlt (fun h => h1 h.1)])
          have i2 : ((t[k]'hlt).toNat : Int) < 48 := by omega
          clear hmag Hno Hyes hm hle
          go_wp2_with fail
          exact bodyPost_ret (v := .tuple #[gv0.v, .bool false]) (by simp [results, Tryz.results197, go_sem, gv0]) rfl ⟨rfl, belowA (Below.refl _ _) _⟩
      · have i1 : ¬ (k : Int) < (t.size : Int) := by omega
        have hd : Lib.decFrom 0 t.toList = some a := by
          rw [← hm.out, List.take_of_length_le (by rw [ba_len]; omega)]
        have hmg : rm = if 2147483647 < a then none else some a := by rw [hmag.out]; unfold magOf; rw [hd]
        clear hm hmag hd
        by_cases h1 : 2147483647 < a
        · rw [if_pos h1] at hmg
          obtain ⟨rfl, rfl⟩ := Hno.out hmg
          have i2 : (2147483647 : Int) < (a : Int) := by omega
          clear Hno Hyes hmg hle
          go_wp2_with fail
          exact bodyPost_ret (v := .tuple #[gv0.v, .bool false]) (by simp [results, Tryz.results197, go_sem, gv0]) rfl ⟨rfl, belowA (Below.refl _ _) _⟩
        · rw [if_neg h1] at hmg
          obtain ⟨rfl, rfl⟩ := Hyes.out a hmg
          have i2 : ¬ (2147483647 : Int) < (a : Int) := by omega
          clear Hno Hyes hmg hle
          rcases HsE.out with rfl | rfl
          · go_wp2_with fail
            exact bodyPost_ret (v := .tuple #[(⟨1, (a : Int), ⟨#[]⟩⟩ : GV).v, .bool true]) (by simp [results, Tryz.results197, go_sem]) rfl ⟨rfl, belowA (Below.refl _ _) _⟩
          · go_wp2_with fail
            exact bodyPost_ret (v := .tuple #[(⟨1, -(a : Int), ⟨#[]⟩⟩ : GV).v, .bool true]) (by simp [results, Tryz.results197, go_sem]) rfl ⟨rfl, belowA (Below.refl _ _) _⟩
end Go.Proofs.YtgphngjniplonaaGreatDoor

namespace Go.Proofs.YtgphngjniplonaaGreatDoor
open Go.RowKit
def OpensB {α : Type} (N : Nat) (P : Program) (t : TypeId) (E : Enc α) : Prop :=
  ∀ (H : Type) (enc : TypeId × Value → H) (w : World) (fuel : Nat) (cs : List Value) (x : DataW H × List MemPlace), fuel ≤ N →
    DataW.trod enc P w 0 (fun _ => true) true fuel t cs = some x → (∀ n ∈ x.1.weights P t, n ≤ reachBytes) → ∃ y : α, E.ok w w.heap.size cs y
theorem opensB_slice {α : Type} {N : Nat} {P : Program} {t e : TypeId} {E : Enc α} (h : P.underlying t = some (.slice e)) (he : OpensB N P e E) (hc : P.cellsOf e = E.sz) (hz : 0 < E.sz) (hb : 0 < P.bytesOf e) : OpensB (N + 1) P t (Enc.slice E) := by
  intro H enc w fuel cs x hfu hx hwt
  rcases DataW.trod_slice h hx with ⟨rfl, _⟩ | ⟨a, len, cap, elems, rest, n, rfl, rfl, rfl, -, hl, hm, hel, hi, -, -⟩
  · exact ⟨[], none, 0, 0, rfl, SliceIs.nil⟩
  · have hw0 := hwt ((elems.length + rest.length) * P.bytesOf e) (by simp [DataW.weights, h])
    have hle : len ≤ reachN := by
      rw [reach_eq] at hw0
      have : elems.length + rest.length ≤ (elems.length + rest.length) * P.bytesOf e := Nat.le_mul_of_pos_right _ hb
      omega
    obtain ⟨l, hll, hq⟩ := choose_list (Q := fun i y => ∃ cs', w.cells? 0 (a.add (i * P.cellsOf e)) (P.cellsOf e) = some cs' ∧ E.ok w w.heap.size cs' y) len (fun i hil => by
      have h1 := hi i hil
      rw [List.getElem?_eq_getElem (by omega)] at h1
      obtain ⟨cs', h2, h3⟩ := Option.bind_eq_some_iff.1 h1
      obtain ⟨y, hy⟩ := he H enc w n cs' _ (by omega) h3 (fun q hq => hwt q (by
        simp only [DataW.weights, h, List.mem_cons, List.mem_append]
        exact .inr (.inl (weights_all (List.mem_map.2 ⟨elems[i]'(by omega), List.getElem_mem _, rfl⟩) q hq))))
      exact ⟨y, cs', h2, hy⟩)
    refine ⟨l, some a, len, cap, rfl, hll, hl, hm, hle, ?_⟩
    by_cases h0 : len = 0
    · exact .inl (List.eq_nil_of_length_eq_zero (by omega))
    · right
      have hcell : ∀ i y, l[i]? = some y → ∃ cs', E.ok w w.heap.size cs' y ∧ ∀ j v, cs'[j]? = some v → w.cell? (a.add (i * E.sz + j)) = some v := by
        intro i y hy
        obtain ⟨cs', h1, h2⟩ := hq i y hy
        refine ⟨cs', h2, fun j v hj => ?_⟩
        obtain ⟨_, hcl, hat⟩ := World.cells?_some h1
        have hjl : j < P.cellsOf e := by rw [← hcl]; exact (List.getElem?_eq_some_iff.1 hj).1
        have := hat j hjl
        rw [hj, Go.Deep.add_add, hc] at this
        exact this
      have hex : ∃ y, l[0]? = some y := by
        rw [List.getElem?_eq_getElem (by omega)]
        exact ⟨_, rfl⟩
      obtain ⟨y, hy⟩ := hex
      obtain ⟨cs', h1, h2⟩ := hcell 0 y hy
      have hlen := E.len h1
      obtain ⟨v, hv⟩ : ∃ v, cs'[0]? = some v := by
        rw [List.getElem?_eq_getElem (by omega)]
        exact ⟨_, rfl⟩
      have hc0 := h2 0 v hv
      obtain ⟨b, off, spot⟩ := a
      obtain rfl : spot = none := by simpa [Addr.add] using World.cell?_spot hc0
      refine ⟨b, off, rfl, ?_, fun i y hy => ?_⟩
      · exact World.block_lt_of_cell? w _ (by simpa [Addr.add] using hc0)
      · obtain ⟨cs', h1, h2⟩ := hcell i y hy
        refine ⟨cs', h1, fun j v hj => ?_⟩
        have h3 := h2 j v hj
        rw [Nat.add_assoc]
        unfold Addr.add at h3
        split at h3
        · rename_i h0
          rw [h0]
          exact h3
        · exact h3
theorem open_fieldsB {H : Type} {enc : TypeId × Value → H} {P : Program} {w : World} {t : TypeId} {fuel : Nat} {cs : List Value} {x : DataW H × List MemPlace} {fl : List (TypeId × Nat × Nat)} (hf : fieldsOf P t = fl) (h0 : fl ≠ [])
    (hx : DataW.trod enc P w 0 (fun _ => true) true fuel t cs = some x) (hwt : ∀ n ∈ x.1.weights P t, n ≤ reachBytes) :
    cs.length = P.cellsOf t ∧ ∃ n, fuel = n + 1 ∧ ∀ (j : Nat) (f : TypeId × Nat × Nat), fl[j]? = some f → ∃ y, DataW.trod enc P w 0 (fun _ => true) true n f.1 ((cs.drop f.2.1).take f.2.2) = some y ∧ ∀ n ∈ y.1.weights P f.1, n ≤ reachBytes := by
  unfold fieldsOf at hf
  split at hf
  · rename_i fs hs
    obtain ⟨xs, n, rfl, rfl, hl, hlen, hat⟩ := DataW.trod_struct hs hx
    refine ⟨hl, n, rfl, fun j f hj => ?_⟩
    subst hf
    rw [List.getElem?_map, Option.map_eq_some_iff] at hj
    obtain ⟨fd, hfd, rfl⟩ := hj
    have hfd' : fs[j]? = some fd := by simpa using hfd
    have h1 := hat j fd hfd'
    have hjl : j < fs.size := (Array.getElem?_eq_some_iff.1 hfd').1
    have hxj : xs[j]? = some (xs[j]'(by omega)) := List.getElem?_eq_getElem (by omega)
    refine ⟨_, h1.trans hxj, fun q hq => hwt q ?_⟩
    simp only [DataW.weights, hs]
    exact DataW.weights_mem_each (j := j) (t := fd.type) (d := (xs[j]'(by omega)).1) (by simp [hfd']) (by simp [hxj]) q hq
  · exact absurd hf.symm h0
theorem opens_exp {P : Program} {t a b c : TypeId} (hf : fieldsOf P t = [(a, 0, 1), (b, 1, 4), (c, 5, 1)]) (hz : P.cellsOf t = 6) (hby : 0 < P.bytesOf t) (ha : P.underlying a = some (.int .i64)) (hb : Opens P b Enc.told) (hc : P.underlying c = some (.slice t)) :
    ∀ N, OpensB N P t (Enc.exp (N + 1))
  | 0 => fun H enc w fuel cs x hfu hx _ => by
    obtain rfl : fuel = 0 := by omega
    simp [DataW.trod] at hx
  | N + 1 => by
    have ih := opens_exp hf hz hby ha hb hc N
    have ihs := opensB_slice hc ih (by rw [hz, Enc.exp_sz]) (by rw [Enc.exp_sz]; omega) hby
    intro H enc w fuel cs x hfu hx hwt
    obtain ⟨hl, n, rfl, hat⟩ := open_fieldsB hf (by simp) hx hwt
    rw [hz] at hl
    match cs, hl with
    | [u0, u1, u2, u3, u4, u5], _ =>
      obtain ⟨y, h, hw⟩ := hat 0 _ rfl
      obtain ⟨k, e0, f0⟩ := opens_int ha _ _ _ _ _ _ h hw
      obtain ⟨y, h, hw⟩ := hat 1 _ rfl
      obtain ⟨tt, e1, f1, f2⟩ := hb _ _ _ _ _ _ h hw
      obtain ⟨y, h, hw⟩ := hat 2 _ rfl
      obtain ⟨ks, A, m, d, e2, f3⟩ := ihs _ _ _ _ _ _ (by omega) h hw
      simp at e0 e1 e2
      obtain ⟨rfl, rfl, rfl, rfl⟩ := e1
      subst e0 e2
      exact ⟨.mk k tt ks, A, m, d, rfl, f0, f1, f2, f3⟩
end Go.Proofs.YtgphngjniplonaaGreatDoor

namespace Go.Proofs.YtgphngjniplonaaGreatDoor
open Go.RowKit
section
variable {w : World} {B : Nat} {A : Option Addr} {n c d : Nat}
end
theorem OpensB.down {α : Type} {N M : Nat} {P : Program} {t : TypeId} {E : Enc α} (h : OpensB N P t E) (hM : M ≤ N) : OpensB M P t E := fun H enc w fuel cs x hf hx hw => h H enc w fuel cs x (by omega) hx hw
theorem opensB_slice' {α : Type} {N : Nat} {P : Program} {t e : TypeId} {E : Enc α} (h : P.underlying t = some (.slice e)) (he : OpensB N P e E) (hc : P.cellsOf e = E.sz) (hz : 0 < E.sz) (hb : 0 < P.bytesOf e) : OpensB N P t (Enc.slice E) :=
  (opensB_slice h he hc hz hb).down (Nat.le_succ _)
theorem opens_atomF {H : Type} {enc : TypeId × Value → H} {P : Program} {w : World} {t a b : TypeId} {fuel : Nat} {cs : List Value} {x : DataW H × List MemPlace} (hf : fieldsOf P t = [(a, 0, 1), (b, 1, 1)]) (hz : P.cellsOf t = 2) (ha : P.underlying a = some .string) (hb : Opens P b (Enc.slice Enc.told))
    (hx : DataW.trod enc P w 0 (fun _ => true) true fuel t cs = some x) (hwt : ∀ n ∈ x.1.weights P t, n ≤ reachBytes) : ∃ (y : GAtom) (h : Hd), cs = [.string y.rel, h.v] ∧ y.rel.size ≤ reachN ∧ SliceIs Enc.told w w.heap.size h.A h.n h.c y.args := by
  obtain ⟨hl, n, rfl, hat⟩ := open_fieldsB hf (by simp) hx hwt
  rw [hz] at hl
  match cs, hl with
  | [u0, u1], _ =>
    obtain ⟨y, h, hw⟩ := hat 0 _ rfl
    obtain ⟨s, e0, f0⟩ := opens_str ha _ _ _ _ _ _ h hw
    obtain ⟨y, h, hw⟩ := hat 1 _ rfl
    obtain ⟨ks, A, m, d, e1, f1⟩ := hb _ _ _ _ _ _ h hw
    simp at e0 e1
    subst e0 e1
    exact ⟨⟨s, ks⟩, ⟨A, m, d⟩, rfl, f0, f1⟩
theorem opens_lit {N d : Nat} {P : Program} {t k at_ o e s al : TypeId} (hf : fieldsOf P t = [(k, 0, 1), (at_, 1, 2), (o, 3, 1), (e, 4, 6), (e, 10, 6), (o, 16, 1)]) (hz : P.cellsOf t = 17) (hk : P.underlying k = some (.int .i64)) (ho : P.underlying o = some (.int .i64))
    (hfa : fieldsOf P at_ = [(s, 0, 1), (al, 1, 1)]) (hza : P.cellsOf at_ = 2) (hs : P.underlying s = some .string) (hal : Opens P al (Enc.slice Enc.told)) (he : OpensB N P e (Enc.exp (d + 1))) : OpensB N P t (Enc.lit d) := by
  intro H enc w fuel cs x hfu hx hwt
  obtain ⟨hl, n, rfl, hat⟩ := open_fieldsB hf (by simp) hx hwt
  rw [hz] at hl
  match cs, hl with
  | [u0, u1, u2, u3, u4, u5, u6, u7, u8, u9, u10, u11, u12, u13, u14, u15, u16], _ =>
    obtain ⟨y, h, hw⟩ := hat 0 _ rfl
    obtain ⟨i0, e0, f0⟩ := opens_int hk _ _ _ _ _ _ h hw
    obtain ⟨y, h, hw⟩ := hat 1 _ rfl
    obtain ⟨ga, ha, e1, f1, f2⟩ := opens_atomF hfa hza hs hal h hw
    obtain ⟨y, h, hw⟩ := hat 2 _ rfl
    obtain ⟨i3, e3, f3⟩ := opens_int ho _ _ _ _ _ _ h hw
    obtain ⟨y, h, hw⟩ := hat 3 _ rfl
    obtain ⟨x4, A4, m4, d4, e4, f4, g4, h4, k4⟩ := he _ _ _ _ _ _ (by omega) h hw
    obtain ⟨y, h, hw⟩ := hat 4 _ rfl
    obtain ⟨x5, A5, m5, d5, e5, f5, g5, h5, k5⟩ := he _ _ _ _ _ _ (by omega) h hw
    obtain ⟨y, h, hw⟩ := hat 5 _ rfl
    obtain ⟨i6, e6, f6⟩ := opens_int ho _ _ _ _ _ _ h hw
    simp at e0 e1 e3 e4 e5 e6
    obtain ⟨rfl, rfl⟩ := e1
    obtain ⟨rfl, rfl, rfl, rfl, rfl, rfl⟩ := e4
    obtain ⟨rfl, rfl, rfl, rfl, rfl, rfl⟩ := e5
    subst e0 e3 e6
    exact ⟨⟨i0, ga, i3, x4, x5, i6⟩, ha, ⟨A4, m4, d4⟩, ⟨A5, m5, d5⟩, rfl, ⟨f0, f3, f6, f1, f2, f4, g4, h4, k4, f5, g5, h5, k5⟩⟩
theorem opens_rule {N d : Nat} {P : Program} {t at_ o lt s al : TypeId} (hf : fieldsOf P t = [(at_, 0, 2), (o, 2, 1), (o, 3, 1), (lt, 4, 1), (o, 5, 1)]) (hz : P.cellsOf t = 6) (ho : P.underlying o = some (.int .i64))
    (hfa : fieldsOf P at_ = [(s, 0, 1), (al, 1, 1)]) (hza : P.cellsOf at_ = 2) (hs : P.underlying s = some .string) (hal : Opens P al (Enc.slice Enc.told)) (hl : OpensB N P lt (Enc.slice (Enc.lit d))) : OpensB N P t (Enc.rule d) := by
  intro H enc w fuel cs x hfu hx hwt
  obtain ⟨hlen, n, rfl, hat⟩ := open_fieldsB hf (by simp) hx hwt
  rw [hz] at hlen
  match cs, hlen with
  | [u0, u1, u2, u3, u4, u5], _ =>
    obtain ⟨y, h, hw⟩ := hat 0 _ rfl
    obtain ⟨ga, ha, e1, f1, f2⟩ := opens_atomF hfa hza hs hal h hw
    obtain ⟨y, h, hw⟩ := hat 1 _ rfl
    obtain ⟨i2, e2, f3⟩ := opens_int ho _ _ _ _ _ _ h hw
    obtain ⟨y, h, hw⟩ := hat 2 _ rfl
    obtain ⟨i3, e3, f4⟩ := opens_int ho _ _ _ _ _ _ h hw
    obtain ⟨y, h, hw⟩ := hat 3 _ rfl
    obtain ⟨ls, A, m, c, e4, f5⟩ := hl _ _ _ _ _ _ (by omega) h hw
    obtain ⟨y, h, hw⟩ := hat 4 _ rfl
    obtain ⟨i5, e5, f6⟩ := opens_int ho _ _ _ _ _ _ h hw
    simp at e1 e2 e3 e4 e5
    obtain ⟨rfl, rfl⟩ := e1
    subst e2 e3 e4 e5
    exact ⟨⟨ga, i2, i3, ls, i5⟩, ha, ⟨A, m, c⟩, rfl, ⟨f1, f2, f3, f4, f5, f6⟩⟩
theorem opens_decl {P : Program} {t s k o : TypeId} (hf : fieldsOf P t = [(s, 0, 1), (k, 1, 1), (o, 2, 1)]) (hz : P.cellsOf t = 3) (hs : P.underlying s = some .string) (hk : Opens P k (Enc.slice Enc.int)) (ho : P.underlying o = some (.int .i64)) : Opens P t Enc.decl := by
  intro H enc w fuel cs x hx hwt
  obtain ⟨hlen, n, rfl, hat⟩ := open_fieldsB hf (by simp) hx hwt
  rw [hz] at hlen
  match cs, hlen with
  | [u0, u1, u2], _ =>
    obtain ⟨y, h, hw⟩ := hat 0 _ rfl
    obtain ⟨s0, e0, f0⟩ := opens_str hs _ _ _ _ _ _ h hw
    obtain ⟨y, h, hw⟩ := hat 1 _ rfl
    obtain ⟨ks, A, m, c, e1, f1⟩ := hk _ _ _ _ _ _ h hw
    obtain ⟨y, h, hw⟩ := hat 2 _ rfl
    obtain ⟨i2, e2, f2⟩ := opens_int ho _ _ _ _ _ _ h hw
    simp at e0 e1 e2
    subst e0 e1 e2
    exact ⟨⟨s0, ks, i2⟩, ⟨A, m, c⟩, rfl, ⟨f0, f1, f2⟩⟩
def Enc.prog (d : Nat) : Enc GProg where
  sz := 2
  ok := fun w B cs x => ∃ a b : Hd, cs = [a.v, b.v] ∧ ProgAt d w B x a b
  mono := fun hB hk ⟨a, b, h1, h2⟩ => ⟨a, b, h1, ⟨h2.decls.mono' hB hk, h2.rules.mono' hB hk⟩⟩
  len := fun ⟨_, _, h, _⟩ => by rw [h]; rfl
theorem opens_prog {N d : Nat} {P : Program} {t a b : TypeId} (hf : fieldsOf P t = [(a, 0, 1), (b, 1, 1)]) (hz : P.cellsOf t = 2) (ha : Opens P a (Enc.slice Enc.decl)) (hb : OpensB N P b (Enc.slice (Enc.rule d))) : OpensB N P t (Enc.prog d) := by
  intro H enc w fuel cs x hfu hx hwt
  obtain ⟨hlen, n, rfl, hat⟩ := open_fieldsB hf (by simp) hx hwt
  rw [hz] at hlen
  match cs, hlen with
  | [u0, u1], _ =>
    obtain ⟨y, h, hw⟩ := hat 0 _ rfl
    obtain ⟨ds, A, m, c, e0, f0⟩ := ha _ _ _ _ _ _ h hw
    obtain ⟨y, h, hw⟩ := hat 1 _ rfl
    obtain ⟨rs, A', m', c', e1, f1⟩ := hb _ _ _ _ _ _ (by omega) h hw
    simp at e0 e1
    subst e0 e1
    exact ⟨⟨ds, rs⟩, ⟨A, m, c⟩, ⟨A', m', c'⟩, rfl, ⟨f0, f1⟩⟩
end Go.Proofs.YtgphngjniplonaaGreatDoor

namespace Go.Proofs.YtgphngjniplonaaGreatDoor
open Go.RowKit Go.WideShapes
theorem open_encB {α : Type} {E : Nat → Enc α} {H : Type} {enc : TypeId × Value → H} {P : Program} {w : World} {t : TypeId} {v : Value} {d : DataW H} {p : List MemPlace} {r : Reach} {b0 : Nat} (hs : ∃ fs, P.underlying t = some (.struct fs)) (ho : ∀ N, OpensB N P t (E N))
    (hval : Value.okWide P w r b0 t v) (h : DataW.Trod enc P w 0 (fun _ => true) true t v d p) (hwt : ∀ n ∈ d.weights P t, n ≤ reachBytes) : ∃ (N : Nat) (x : α) (cs : List Value), v = .agg cs.toArray ∧ (E N).ok w w.heap.size cs x := by
  obtain ⟨fs, hs⟩ := hs
  obtain ⟨cs, rfl, hsz⟩ := okWide_struct hs hval
  obtain ⟨fuel, hx⟩ := h
  obtain ⟨y, hy⟩ := ho fuel _ _ _ fuel _ _ (Nat.le_refl _) hx hwt
  obtain ⟨cs⟩ := cs
  exact ⟨fuel, y, cs, rfl, by simpa [Value.cells] using hy⟩
theorem o_val2 : Opens Tryz.prog 89 Enc.val := opens_val (a := 87) (b := 3) (c := 9) (by kernel_rfl) (by kernel_rfl) Tryz.underlying87 Tryz.underlying3 Tryz.underlying9
theorem o_term : Opens Tryz.prog 91 Enc.told := opens_told (a := 9) (b := 89) (by kernel_rfl) (by kernel_rfl) Tryz.underlying9 o_val2
theorem o_exp (N : Nat) : OpensB N Tryz.prog 94 (Enc.exp (N + 1)) := opens_exp (a := 3) (b := 91) (c := 92) (by kernel_rfl) (by kernel_rfl) (of_decide_eq_true (by kernel_rfl)) Tryz.underlying3 o_term Tryz.underlying92 N
theorem o_terms : Opens Tryz.prog 78 (Enc.slice Enc.told) := opens_slice Tryz.underlying78 o_term (by kernel_rfl) (by show 0 < _; decide) (of_decide_eq_true (by kernel_rfl))
theorem o_lit (N : Nat) : OpensB N Tryz.prog 96 (Enc.lit N) := opens_lit (k := 86) (at_ := 80) (o := 3) (e := 94) (s := 9) (al := 78) (by kernel_rfl) (by kernel_rfl) Tryz.underlying86 Tryz.underlying3 (by kernel_rfl) (by kernel_rfl) Tryz.underlying9 o_terms (o_exp N)
theorem o_lits (N : Nat) : OpensB N Tryz.prog 81 (Enc.slice (Enc.lit N)) := opensB_slice' Tryz.underlying81 (o_lit N) (by show _ = 17; kernel_rfl) (show 0 < 17 by decide) (of_decide_eq_true (by kernel_rfl))
theorem o_rule (N : Nat) : OpensB N Tryz.prog 83 (Enc.rule N) := opens_rule (at_ := 80) (o := 3) (lt := 81) (s := 9) (al := 78) (by kernel_rfl) (by kernel_rfl) Tryz.underlying3 (by kernel_rfl) (by kernel_rfl) Tryz.underlying9 o_terms (o_lits N)
theorem o_rules (N : Nat) : OpensB N Tryz.prog 23 (Enc.slice (Enc.rule N)) := opensB_slice' Tryz.underlying23 (o_rule N) (by show _ = 6; kernel_rfl) (show 0 < 6 by decide) (of_decide_eq_true (by kernel_rfl))
theorem o_kind : Opens Tryz.prog 87 Enc.int := opens_int Tryz.underlying87
theorem o_kinds : Opens Tryz.prog 75 (Enc.slice Enc.int) := opens_slice Tryz.underlying75 o_kind (by kernel_rfl) (by show 0 < _; decide) (of_decide_eq_true (by kernel_rfl))
theorem o_decl : Opens Tryz.prog 77 Enc.decl := opens_decl (s := 9) (k := 75) (o := 3) (by kernel_rfl) (by kernel_rfl) Tryz.underlying9 o_kinds Tryz.underlying3
theorem o_decls : Opens Tryz.prog 22 (Enc.slice Enc.decl) := opens_slice Tryz.underlying22 o_decl (by kernel_rfl) (by show 0 < _; decide) (of_decide_eq_true (by kernel_rfl))
theorem o_prog (N : Nat) : OpensB N Tryz.prog 25 (Enc.prog N) := opens_prog (a := 22) (b := 23) (by kernel_rfl) (by kernel_rfl) o_decls (o_rules N)
theorem u_prog : ∃ fs, Tryz.prog.underlying 25 = some (.struct fs) := ⟨_, Tryz.underlying25⟩
end Go.Proofs.YtgphngjniplonaaGreatDoor
