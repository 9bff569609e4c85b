/- My own texts VParse, VFrameE, LexLaw, LexG, as far as this claim needs them. -/
import Derived.Test.YtgabkmibfhmkmaaGreatDoorZe2
import Derived.Test.YtgabkmibfhmkmaaGreatDoorZe3
import Derived.Laws.BitsAllLaws
import Derived.Laws.IdiomStrings
import Derived.Deep.DeepCutAuto
import Derived.Stop.LaidErr
import Derived.Lib.CutLaws
set_option linter.unusedVariables false
set_option linter.unusedSimpArgs false
namespace Go.Proofs.YtgabkmibfhmkmaaGreatDoor
open Go.RowKit
def gv0 : GV := ⟨0, 0, ⟨#[]⟩⟩
theorem toList_mk (l : List UInt8) : (⟨l.toArray⟩ : ByteArray).toList = l := by rw [ByteArray.toList_eq]
theorem bytes_back (s : ByteArray) : (⟨s.toList.toArray⟩ : ByteArray) = s := by
  rw [ByteArray.toList_eq]
set_option maxRecDepth 100000 in
set_option maxHeartbeats 400000 in
theorem is_any (n k : Int) (w : World) : Calls Tryz.prog 25 #[errV 66 n, .int .i64 k] w (RetBool (n == k) w) := by
  have hn := Lib.hid (num_any n)
  go_enter Tryz.func25, Tryz.ntmps25
  go_wp2_with fail
  refine (hn.out _).mono ?_
  rintro e w1 ⟨rfl, hq1⟩
  go_wp2_with fail
  go_ret
  exact ⟨rfl, hq1⟩
/-- the value of a text -/
def parseO (s : ByteArray) : Option GV := if nameOk s then some ⟨2, 0, s⟩ else (refNum s.toList).map fun n => ⟨1, n, ⟨#[]⟩⟩
def parseG (s : ByteArray) : GV := (parseO s).getD gv0
theorem parse_name {s : ByteArray} (h : nameOk s = true) : parseO s = some ⟨2, 0, s⟩ := by simp [parseO, h]
theorem parse_num {s : ByteArray} (h : nameOk s = false) : parseO s = (refNum s.toList).map fun n => ⟨1, n, ⟨#[]⟩⟩ := by simp [parseO, h]
theorem parse_none {s : ByteArray} (h : nameOk s = false) (h2 : refNum s.toList = none) : parseO s = none := by rw [parse_num h, h2]; rfl
theorem parse_some {s : ByteArray} {n : Int} (h : nameOk s = false) (h2 : refNum s.toList = some n) : parseO s = some ⟨1, n, ⟨#[]⟩⟩ := by rw [parse_num h, h2]; rfl
theorem ba_get {s : ByteArray} {k : Nat} (h : k < s.size) : s.toList[k]? = some (s[k]'h) := by
  rw [ByteArray.toList_eq, List.getElem?_eq_getElem (h := show k < s.data.toList.length from by simpa using h)]
  rfl
theorem ba_len (s : ByteArray) : s.toList.length = s.size := by rw [ByteArray.toList_eq]; rfl
theorem ba_head {s : ByteArray} (h : 0 < s.size) : s.toList.head? = some (s[0]'h) := by
  rw [List.head?_eq_getElem?]; exact ba_get h
theorem ba_tail (s : ByteArray) : (s.extract 1 s.size).toList = s.toList.tail := by
  rw [ByteArray.toList_eq, ByteArray.toList_eq, ByteArray.data_extract, Array.toList_extract]
  show List.take (s.size - 1) (s.data.toList.drop 1) = _
  rw [List.drop_one, List.take_of_length_le]
  rw [List.length_tail]; exact Nat.le_refl _
/-- the piece of the document's Parse behind the sign: the loop over the digits -/
theorem digit_none {t : ByteArray} {k : Nat} (hk : k < t.size) (h : ¬ (48 ≤ (t[k]'hk).toNat ∧ (t[k]'hk).toNat ≤ 57)) : Lib.decFrom 0 t.toList = none := by
  cases hd : Lib.decFrom 0 t.toList with
  | none => rfl
  | some n =>
    obtain ⟨d, hd'⟩ := Lib.digit_of_decFrom _ _ _ hd k _ (ba_get hk)
    unfold Lib.digitVal at hd'
    rw [if_neg h] at hd'
    cases hd'
def sgn (neg : Bool) : Int := if neg then -1 else 1
theorem refNum_mag (l : List UInt8) : refNum l = (refMag (if l.head? = some 45 then l.tail else l) (decide (l.head? = some 45))).map fun (n : Nat) => sgn (decide (l.head? = some 45)) * (n : Int) := by
  unfold refNum
  by_cases h : l.head? = some 45
  · simp only [h, if_true, decide_true, sgn]
    congr 1; funext n; omega
  · simp only [h, if_false, decide_false, sgn]
    congr 1; funext n; simp
set_option maxRecDepth 100000 in
set_option maxHeartbeats 2000000 in
theorem refParse_any (s : ByteArray) (hs : s.size ≤ 140737488351232) (w : World) : Calls Tryz.prog 367 #[.string s] w (RetV (.tuple #[(parseG s).v, .bool (parseO s).isSome]) w) := by
  have hn := fun w => refNameQ_any s hs w
  cases hN : nameOk s with
  | true =>
    rw [hN] at hn
    have hn := Lib.hid hn
    rw [show parseG s = ⟨2, 0, s⟩ by simp [parseG, parse_name hN], show (parseO s).isSome = true by simp [parse_name hN]]
    clear hN
    go_enter Tryz.func367, Tryz.ntmps367
    go_wp2_with fail
    refine (hn.out _).mono ?_
    rintro e w1 ⟨rfl, rfl⟩
    go_wp2_with fail
    exact bodyPost_ret (v := .tuple #[(⟨2, 0, s⟩ : GV).v, .bool true]) (by simp [results, Tryz.results367, go_sem]) rfl ⟨rfl, belowA (Below.refl _ _) _⟩
  | false =>
    rw [hN] at hn
    have hn := Lib.hid hn
    obtain ⟨sg, t, neg, hsg, ht, htl, hr, hneg⟩ : ∃ (sg : Int) (t : ByteArray) (neg : Bool), Hid (sg = sgn neg) ∧ t.size ≤ 140737488351232 ∧ Hid (t = (if neg then s.extract 1 s.size else s)) ∧ Hid (refNum s.toList = (refMag t.toList neg).map fun (n : Nat) => sg * (n : Int)) ∧ Hid (neg = decide (s.toList.head? = some 45)) := by
      refine ⟨_, _, decide (s.toList.head? = some 45), rfl, ?_, rfl, ?_, rfl⟩
      · split
        · have : (s.extract 1 s.size).size ≤ s.size := by rw [ByteArray.size_extract]; omega
          omega
        · exact hs
      · show _ = _
        rw [refNum_mag]
        by_cases h : s.toList.head? = some 45
        · simp only [h, if_true, decide_true, ba_tail]
        · simp only [h, if_false, decide_false, Bool.false_eq_true]
    have hno : refMag t.toList neg = none → parseG s = gv0 ∧ (parseO s).isSome = false := by
      intro h
      have := parse_none hN (by rw [hr.out, h]; rfl)
      simp [parseG, this]
    have hyes : ∀ n : Nat, refMag t.toList neg = some n → parseG s = ⟨1, sg * n, ⟨#[]⟩⟩ ∧ (parseO s).isSome = true := by
      intro n h
      have := parse_some hN (n := sg * n) (by rw [hr.out, h]; rfl)
      simp [parseG, this]
    have Hno := Lib.hid hno
    have Hyes := Lib.hid hyes
    generalize parseG s = pg at Hno Hyes ⊢
    generalize (parseO s).isSome = po at Hno Hyes ⊢
    clear hs hno hyes hN hr
    go_enter Tryz.func367, Tryz.ntmps367
    go_wp2_with fail
    refine (hn.out _).mono ?_
    rintro e w1 ⟨rfl, rfl⟩
    go_upto_region 4 with fail
    go_cut [20] (fun x W => x = .bool neg ∧ W = w.alloc (.cells #[.int .i64 0, .int .i64 0, .string ⟨#[]⟩] 28))
    case first =>
      by_cases h0 : 0 < s.size
      · have i0 : (0 : Int) < (s.size : Int) := by omega
        have hb : (((s[0]'h0).toNat : Int) == 45) = neg := by
          rw [hneg.out, ba_head h0, Bool.eq_iff_iff]
          simp [← UInt8.toNat_inj]; omega
        go_wp2_with fail
        go_meet
        exact ⟨by simp, rfl⟩
      · have hb : neg = false := by
          rw [hneg.out]
          have : s.toList = [] := List.eq_nil_of_length_eq_zero (by rw [ba_len]; omega)
          rw [this]; rfl
        subst hb
        have i0 : ¬ (0 : Int) < (s.size : Int) := by omega
        go_wp2_with fail
        go_meet
        exact ⟨by simp, rfl⟩
    case rest =>
    obtain ⟨rfl, rfl⟩ := hcut
    go_upto_if 20 with fail
    go_cut [4, 5] (fun x y W => x = .string t ∧ y = .int .i64 sg ∧ W = w.alloc (.cells #[.int .i64 0, .int .i64 0, .string ⟨#[]⟩] 28))
    case first =>
      cases neg with
      | true =>
        have h0 : 1 ≤ s.size := by
          rcases Nat.eq_zero_or_pos s.size with h | h
          · have : s.toList = [] := List.eq_nil_of_length_eq_zero (by rw [ba_len]; exact h)
            have := hneg.out
            simp [*] at this
          · exact h
        have e1 : t = s.extract 1 s.size := by have := htl.out; simpa using this
        have e2 : sg = -1 := by have := hsg.out; simpa [sgn] using this
        subst e1 e2
        go_wp2_with fail
        go_meet
        exact ⟨by simp, rfl, rfl⟩
      | false =>
        have e1 : t = s := by have := htl.out; simpa using this
        have e2 : sg = 1 := by have := hsg.out; simpa [sgn] using this
        subst e1 e2
        go_wp2_with fail
        go_meet
        exact ⟨by simp, rfl, rfl⟩
    case rest =>
    obtain ⟨rfl, rfl, rfl⟩ := hcut
    clear htl hneg hn
    obtain ⟨bad, hbad⟩ : ∃ bad, Hid (bad = decide (t.toList.length = 0 ∨ 10 < t.toList.length ∨ (t.toList.head? = some 48 ∧ (1 < t.toList.length ∨ neg = true)))) := ⟨_, rfl⟩
    go_upto_region 6 with fail
    go_cut [44] (fun x W => x = .bool bad ∧ W = w.alloc (.cells #[.int .i64 0, .int .i64 0, .string ⟨#[]⟩] 28))
    case first =>
      have hB := hbad.out
      rw [ba_len] at hB
      by_cases h0 : t.size = 0
      · have hb : bad = true := by rw [hB]; simp [h0]
        have z0 : ((t.size : Int) == 0) = true := by simp [h0]
        subst hb
        clear hB h0
        go_wp2_with fail
        go_meet
        exact ⟨by simp, rfl⟩
      · have z0 : ((t.size : Int) == 0) = false := by simp [h0]
        by_cases h1 : 10 < t.size
        · have hb : bad = true := by rw [hB]; simp [h1]
          have i0 : (10 : Int) < (t.size : Int) := by omega
          subst hb
          clear hB h0 h1
          go_wp2_with fail
          go_meet
          exact ⟨by simp, rfl⟩
        · have i0 : ¬ (10 : Int) < (t.size : Int) := by omega
          have hp : 0 < t.size := by omega
          have hhd := ba_head hp
          by_cases h2 : t[0]'hp = 48
          · have z1 : (((t[0]'hp).toNat : Int) == 48) = true := by rw [h2]; rfl
            rw [hhd, h2] at hB
            by_cases h3 : 1 < t.size
            · have hb : bad = true := by rw [hB]; simp [h3]
              have i1 : (1 : Int) < (t.size : Int) := by omega
              subst hb
              clear hB h0 h1 h2 hhd h3
              go_wp2_with fail
              go_meet
              exact ⟨by simp, rfl⟩
            · have i1 : ¬ (1 : Int) < (t.size : Int) := by omega
              have hb : bad = neg := by rw [hB]; simp [h0, h1, h3]
              have e2 := hsg.out
              clear hB h0 h1 h2 hhd h3
              cases neg with
              | true =>
                have e2 : sg = -1 := by simpa [sgn] using e2
                subst hb e2
                go_wp2_with fail
                go_meet
                exact ⟨by simp [sgn] <;> omega, rfl⟩
              | false =>
                have e2 : sg = 1 := by simpa [sgn] using e2
                subst hb e2
                go_wp2_with fail
                go_meet
                exact ⟨by simp [sgn] <;> omega, rfl⟩
          · have z1 : (((t[0]'hp).toNat : Int) == 48) = false := by
              rw [Bool.eq_false_iff]; intro h; rw [beq_iff_eq] at h
              exact h2 (UInt8.toNat_inj.1 (by have : (48 : UInt8).toNat = 48 := rfl; omega))
            have hb : bad = false := by rw [hB, hhd]; simp [h0, h1, h2]
            subst hb
            clear hB h0 h1 h2 hhd
            go_wp2_with fail
            go_meet
            exact ⟨by simp, rfl⟩
    case rest =>
    obtain ⟨rfl, rfl⟩ := hcut
    have hmag : Hid (refMag t.toList neg = if bad = true then none else magOf t.toList) := by
      rw [hbad.out]; show refMag _ _ = _; unfold refMag; simp only [decide_eq_true_eq]
    have hle : bad = false → t.size ≤ 10 := by
      intro h
      have := hbad.out
      rw [h, ba_len] at this
      have := (decide_eq_false_iff_not.1 this.symm)
      omega
    have HsE := Lib.hid (show sg = 1 ∨ sg = -1 by rw [hsg.out]; unfold sgn; split <;> simp)
    clear hbad hsg
    cases bad with
    | true =>
      obtain ⟨rfl, rfl⟩ := Hno.out (by rw [hmag.out]; rfl)
      clear hmag Hno Hyes hle
      go_wp2_with fail
      exact bodyPost_ret (v := .tuple #[gv0.v, .bool false]) (by simp [results, Tryz.results367, go_sem, gv0]) rfl ⟨rfl, belowA (Below.refl _ _) _⟩
    | false =>
    have hle := hle rfl
    have hmag : Hid (refMag t.toList neg = magOf t.toList) := hmag.out
    generalize refMag t.toList neg = rm at hmag Hno Hyes
    go_wp2_with fail
    go_loop [6, 7] (fun x i => ∃ k a : Nat, k ≤ t.size ∧ a < 10000000000 ∧ x = .int .i64 a ∧ i = .int .i64 k ∧ Hid (Lib.decFrom 0 (t.toList.take k) = some a)) (fun _ i => t.size - (intOf i).toNat)
    case atStart => exact ⟨0, 0, by omega, by omega, rfl, rfl, rfl⟩
    case round =>
      obtain ⟨k, a, hk, ha, rfl, rfl, hm⟩ := hrel
      by_cases hlt : k < t.size
      · have i0 : (0 : Int) ≤ (k : Int) := by omega
        have i1 : (k : Int) < (t.size : Int) := by omega
        have ha9 : a < 1000000000 := by
          have h1 := Lib.decFrom_lt _ _ _ hm.out
          rw [List.length_take, ba_len, Nat.min_eq_left (by omega)] at h1
          have h2 : 10 ^ k ≤ 10 ^ 9 := Nat.pow_le_pow_right (by omega) (by omega)
          have h3 : (10 : Nat) ^ 9 = 1000000000 := by decide
          omega
        clear ha
        by_cases h1 : 48 ≤ (t[k]'hlt).toNat
        · by_cases h2 : (t[k]'hlt).toNat ≤ 57
          · have hst := Lib.hid (Lib.decFrom_take t.toList k 0 a (t[k]'hlt) ((t[k]'hlt).toNat - 48) hm.out (ba_get hlt) (by unfold Lib.digitVal; rw [if_pos ⟨h1, h2⟩]))
            clear hm
            go_wp2_with fail
            refine ⟨⟨k + 1, 10 * a + ((t[k]'hlt).toNat - 48), by omega, by omega, ?_, by go_num, ?_⟩, by simp [intOf]; omega⟩
            · congr 1; omega
            · show _ = _
              rw [hst.out]; congr 1; omega
          · obtain ⟨rfl, rfl⟩ := Hno.out (by rw [hmag.out]; unfold magOf; rw [digit_none hlt (fun h => h2 h.2)])
            have i2 : (57 : Int) < ((t[k]'hlt).toNat : Int) := by omega
            clear hmag Hno Hyes hm hle
            go_wp2_with fail
            exact bodyPost_ret (v := .tuple #[gv0.v, .bool false]) (by simp [results, Tryz.results367, go_sem, gv0]) rfl ⟨rfl, belowA (Below.refl _ _) _⟩
        · obtain ⟨rfl, rfl⟩ := Hno.out (by rw [hmag.out]; unfold magOf; rw [digit_none hlt (fun h => h1 h.1)])
          have i2 : ((t[k]'hlt).toNat : Int) < 48 := by omega
          clear hmag Hno Hyes hm hle
          go_wp2_with fail
          exact bodyPost_ret (v := .tuple #[gv0.v, .bool false]) (by simp [results, Tryz.results367, go_sem, gv0]) rfl ⟨rfl, belowA (Below.refl _ _) _⟩
      · have i1 : ¬ (k : Int) < (t.size : Int) := by omega
        have hd : Lib.decFrom 0 t.toList = some a := by
          rw [← hm.out, List.take_of_length_le (by rw [ba_len]; omega)]
        have hmg : rm = if 2147483647 < a then none else some a := by rw [hmag.out]; unfold magOf; rw [hd]
        clear hm hmag hd
        by_cases h1 : 2147483647 < a
        · rw [if_pos h1] at hmg
          obtain ⟨rfl, rfl⟩ := Hno.out hmg
          have i2 : (2147483647 : Int) < (a : Int) := by omega
          clear Hno Hyes hmg hle
          go_wp2_with fail
          exact bodyPost_ret (v := .tuple #[gv0.v, .bool false]) (by simp [results, Tryz.results367, go_sem, gv0]) rfl ⟨rfl, belowA (Below.refl _ _) _⟩
        · rw [if_neg h1] at hmg
          obtain ⟨rfl, rfl⟩ := Hyes.out a hmg
          have i2 : ¬ (2147483647 : Int) < (a : Int) := by omega
          clear Hno Hyes hmg hle
          rcases HsE.out with rfl | rfl
          · go_wp2_with fail
            exact bodyPost_ret (v := .tuple #[(⟨1, (a : Int), ⟨#[]⟩⟩ : GV).v, .bool true]) (by simp [results, Tryz.results367, go_sem]) rfl ⟨rfl, belowA (Below.refl _ _) _⟩
          · go_wp2_with fail
            exact bodyPost_ret (v := .tuple #[(⟨1, -(a : Int), ⟨#[]⟩⟩ : GV).v, .bool true]) (by simp [results, Tryz.results367, go_sem]) rfl ⟨rfl, belowA (Below.refl _ _) _⟩
def ErrIs (W : World) (g : Nat) : Prop := ∃ tp p, W.cell? ⟨g, 0, none⟩ = some (.iface tp p)
def ErrW (W : World) : Prop := ErrIs W 8 ∧ ErrIs W 9
theorem ErrW.on {W W' : World} (h : ErrW W) (hb : Below W.heap.size W W') : ErrW W' := by
  obtain ⟨⟨t1, p1, h1⟩, ⟨t2, p2, h2⟩⟩ := h
  exact ⟨⟨t1, p1, below_cell hb h1⟩, ⟨t2, p2, below_cell hb h2⟩⟩
def AtoiPost (s : ByteArray) (w : World) (e : Ending) (w' : World) : Prop :=
  ∃ n : Int, ∃ ev : Value, fits n ∧ e = .returned (.tuple #[.int .i64 n, ev]) ∧ Below w.heap.size w w' ∧
    ((Lib.atoiAll s.toList = .ok n ∧ ev = .nilIface) ∨ ((∀ m, Lib.atoiAll s.toList ≠ .ok m) ∧ ∃ T p, ev = .iface T p))
theorem fits_of {n : Int} (h1 : -9223372036854775808 ≤ n) (h2 : n ≤ 9223372036854775807) : fits n := (fits_iff n).2 ⟨h1, h2⟩
theorem atoi_any (s : ByteArray) (hs : s.size ≤ 140737488351232) (w : World) (h : ErrW w) : Calls Tryz.prog 337 #[.string s] w (AtoiPost s w) := by
  obtain ⟨⟨t1, p1, h1⟩, ⟨t2, p2, h2⟩⟩ := h
  have el : s.data.toList = s.toList := (ByteArray.toList_eq s).symm
  cases ha : Lib.atoiAll s.toList
  · rename_i v
    refine (Tryz.strconv_Atoi_ok s (by omega) v (by rw [el]; exact ha) w).mono ?_
    rintro e w' ⟨rfl, hw⟩
    have hb := Lib.atoiAll_bounds ha
    refine ⟨v, .nilIface, fits_of hb.1 hb.2, rfl, ?_, .inl ⟨ha, rfl⟩⟩
    rcases hw with rfl | ⟨t, rfl⟩
    · exact Below.refl _ _
    · exact Lib.bytesWorld_below _ _ _
  · refine (Any.strconv_Atoi_syntax Tryz.laysC172 s (by omega) (by rw [el]; exact ha) _ w h1 (.inr ⟨_, _, rfl⟩)).mono ?_
    rintro e w' ⟨N, rfl, -, -, hb⟩
    exact ⟨0, _, by unfold fits; decide, rfl, hb, .inr ⟨(fun m e => by rw [ha] at e; cases e), _, _, rfl⟩⟩
  · refine (Any.strconv_Atoi_range Tryz.laysC172 s (by omega) (by rw [el]; exact ha) _ w h2 (.inr ⟨_, _, rfl⟩)).mono ?_
    rintro e w' ⟨N, rfl, -, -, hb⟩
    exact ⟨_, _, by unfold Lib.atoiSat; split <;> (unfold fits; decide), rfl, hb, .inr ⟨(fun m e => by rw [ha] at e; cases e), _, _, rfl⟩⟩
end Go.Proofs.YtgabkmibfhmkmaaGreatDoor

namespace Go.Proofs.YtgabkmibfhmkmaaGreatDoor
open Go.ChangeShapes Go.WideShapes Go.ChangeAt Go.RowKit
set_option linter.unusedVariables false
theorem gER : Tryz.prog.globalNamed "strconv.ErrRange" = some 9 := by kernel_rfl
theorem gERT : (Tryz.prog.globals[9]?).map (·.type) = some 57 := by kernel_rfl
theorem gES : Tryz.prog.globalNamed "strconv.ErrSyntax" = some 8 := by kernel_rfl
theorem gEST : (Tryz.prog.globals[8]?).map (·.type) = some 57 := by kernel_rfl
theorem cellsES : Tryz.prog.cellsOf 459 = 1 := by kernel_rfl
theorem cellsStr : Tryz.prog.cellsOf 9 = 1 := by kernel_rfl
theorem starES : "*" ++ "errors.errorString" = "*errors.errorString" := by decide
theorem rowES (u : TypeId) (h : Tryz.prog.typeName? 3 u = some "*errors.errorString") : u = 457 :=
  typeName_ptr_named (nm := "errors.errorString") (by rw [starES]; kernel_rfl) (by kernel_rfl) (by decide) u (by rw [starES]; exact h)
abbrev synS : ByteArray := { data := #[105, 110, 118, 97, 108, 105, 100, 32, 115, 121, 110, 116, 97, 120] }
abbrev rngS : ByteArray := { data := #[118, 97, 108, 117, 101, 32, 111, 117, 116, 32, 111, 102, 32, 114, 97, 110, 103, 101] }
noncomputable def low : Nat := (World.holding Tryz.prog default ⟨#[], #[], []⟩).heap.size
end Go.Proofs.YtgabkmibfhmkmaaGreatDoor

namespace Go.Proofs.YtgabkmibfhmkmaaGreatDoor
def insB (c : UInt8) : Bool := (decide (97 ≤ c.toNat) && decide (c.toNat ≤ 122)) || (decide (65 ≤ c.toNat) && decide (c.toNat ≤ 90)) || (decide (48 ≤ c.toNat) && decide (c.toNat ≤ 57)) || decide (c.toNat = 95)
def blankB (c : UInt8) : Bool := decide (c = 9) || decide (c = 10) || decide (c = 32) || decide (c = 13)
def runL (l : List UInt8) : Nat := (l.takeWhile insB).length
/-- how many bytes are skipped; true: within a note -/
def skipG : Bool → List UInt8 → Nat
  | _, [] => 0
  | true, c :: r => if c = 10 then 1 + skipG false r else 1 + skipG true r
  | false, c :: r => if blankB c then 1 + skipG false r else if c = 37 then 1 + skipG true r else 0
/-- a token: its kind, its text, its place -/
structure GTok where
  k : Int
  t : List UInt8
  a : Nat
deriving DecidableEq
def signsL : List (List UInt8) := [[58, 45], [33, 61], [60, 61], [62, 61], [40], [41], [44], [46], [61], [60], [62], [43], [45], [42]]
/-- the token that a rest begins with: its kind (0: none), its length -/
def tokL (wk : List UInt8 → Int) (l : List UInt8) : Int × Nat :=
  if 0 < runL l ∧ l.head? ≠ some 95 then (wk (l.take (runL l)), runL l) else match signsL.find? (·.isPrefixOf l) with
    | some s => (5, s.length)
    | none => (0, 0)
def lexF (wk : List UInt8 → Int) : Nat → Nat → List UInt8 → List GTok × Option Nat
  | 0, _, _ => ([], none)
  | f + 1, a, l => if l.drop (skipG false l) = [] then ([], none) else
      if (tokL wk (l.drop (skipG false l))).1 = 0 then ([], some (a + skipG false l)) else
        (⟨(tokL wk (l.drop (skipG false l))).1, (l.drop (skipG false l)).take (tokL wk (l.drop (skipG false l))).2, a + skipG false l⟩ ::
          (lexF wk f (a + skipG false l + (tokL wk (l.drop (skipG false l))).2) ((l.drop (skipG false l)).drop (tokL wk (l.drop (skipG false l))).2)).1,
          (lexF wk f (a + skipG false l + (tokL wk (l.drop (skipG false l))).2) ((l.drop (skipG false l)).drop (tokL wk (l.drop (skipG false l))).2)).2)
/-- the tokens of the rest l that begins at a, and the place without one -/
def lexA (wk : List UInt8 → Int) (a : Nat) (l : List UInt8) : List GTok × Option Nat := lexF wk l.length a l
variable {wk : List UInt8 → Int}
theorem skipG_le : ∀ (l : List UInt8) (b : Bool), skipG b l ≤ l.length
  | [], b => by simp [skipG]
  | c :: r, true => by
    unfold skipG
    have h1 := skipG_le r false; have h2 := skipG_le r true
    simp only [List.length_cons]; split <;> omega
  | c :: r, false => by
    unfold skipG
    have h1 := skipG_le r false; have h2 := skipG_le r true
    simp only [List.length_cons]; split
    · omega
    · split <;> omega
theorem runL_le (l : List UInt8) : runL l ≤ l.length := by
  unfold runL
  exact List.Sublist.length_le (List.takeWhile_sublist insB)
theorem sign_mem {l s : List UInt8} (h : signsL.find? (·.isPrefixOf l) = some s) : s ∈ signsL ∧ s <+: l :=
  ⟨List.mem_of_find?_eq_some h, List.isPrefixOf_iff_prefix.1 (by have := List.find?_some h; simpa using this)⟩
theorem sign_pos {s : List UInt8} (h : s ∈ signsL) : 1 ≤ s.length ∧ s.length ≤ 2 := by
  revert s; decide
theorem tokL_len (l : List UInt8) (h : (tokL wk l).1 ≠ 0) : 1 ≤ (tokL wk l).2 ∧ (tokL wk l).2 ≤ l.length := by
  revert h
  unfold tokL
  split
  · rename_i h; intro _; exact ⟨by show 1 ≤ runL l; omega, runL_le l⟩
  · split
    · rename_i s hs
      obtain ⟨h1, h2⟩ := sign_mem hs
      intro _
      exact ⟨(sign_pos h1).1, h2.length_le⟩
    · intro h; simp at h
theorem lexF_fuel : ∀ (f g a : Nat) (l : List UInt8), l.length ≤ f → l.length ≤ g → lexF wk f a l = lexF wk g a l
  | 0, g, a, l, hf, hg => by
    obtain rfl : l = [] := List.eq_nil_of_length_eq_zero (by omega)
    cases g with
    | zero => rfl
    | succ g => simp [lexF]
  | f + 1, 0, a, l, hf, hg => by
    obtain rfl : l = [] := List.eq_nil_of_length_eq_zero (by omega)
    simp [lexF]
  | f + 1, g + 1, a, l, hf, hg => by
    unfold lexF
    split
    · rfl
    · split
      · rfl
      · rename_i h1 h2
        have h3 := tokL_len _ h2
        have h4 : ((l.drop (skipG false l)).drop (tokL wk (l.drop (skipG false l))).2).length ≤ l.length - 1 := by
          simp only [List.length_drop] at h3 ⊢; omega
        rw [lexF_fuel f g _ _ (by omega) (by omega)]
theorem lexA_nil (a : Nat) (l : List UInt8) (h : l.drop (skipG false l) = []) : lexA wk a l = ([], none) := by
  unfold lexA
  cases l with
  | nil => rfl
  | cons c r => simp only [List.length_cons]; unfold lexF; rw [if_pos h]
theorem lexA_bad (a : Nat) (l : List UInt8) (h : l.drop (skipG false l) ≠ []) (h0 : (tokL wk (l.drop (skipG false l))).1 = 0) : lexA wk a l = ([], some (a + skipG false l)) := by
  unfold lexA
  cases l with
  | nil => simp at h
  | cons c r => simp only [List.length_cons]; unfold lexF; rw [if_neg h, if_pos h0]
theorem lexA_tok (a : Nat) (l : List UInt8) (h : l.drop (skipG false l) ≠ []) (h0 : (tokL wk (l.drop (skipG false l))).1 ≠ 0) :
    lexA wk a l = (⟨(tokL wk (l.drop (skipG false l))).1, (l.drop (skipG false l)).take (tokL wk (l.drop (skipG false l))).2, a + skipG false l⟩ ::
      (lexA wk (a + skipG false l + (tokL wk (l.drop (skipG false l))).2) ((l.drop (skipG false l)).drop (tokL wk (l.drop (skipG false l))).2)).1,
      (lexA wk (a + skipG false l + (tokL wk (l.drop (skipG false l))).2) ((l.drop (skipG false l)).drop (tokL wk (l.drop (skipG false l))).2)).2) := by
  have h3 := tokL_len _ h0
  unfold lexA
  cases l with
  | nil => simp at h
  | cons c r =>
    rw [show (c :: r).length = r.length + 1 from rfl]
    conv => lhs; unfold lexF
    rw [if_neg h, if_neg h0]
    have h4 : (((c :: r).drop (skipG false (c :: r))).drop (tokL wk ((c :: r).drop (skipG false (c :: r)))).2).length ≤ r.length := by
      simp only [List.length_drop, List.length_cons] at h3 ⊢; omega
    rw [lexF_fuel r.length _ _ _ h4 (Nat.le_refl _)]
theorem skip_note : ∀ l : List UInt8, skipG true l = (l.takeWhile (· != 10)).length + skipG false (l.drop (l.takeWhile (· != 10)).length)
  | [] => by simp [skipG]
  | c :: r => by
    by_cases h : c = 10
    · subst h; simp [skipG, blankB]
    · have h1 := skip_note r
      rw [skipG, if_neg h, h1]
      simp [h]; omega
theorem lex_places : ∀ (n a : Nat) (l : List UInt8), l.length ≤ n → ∀ q ∈ (lexA wk a l).1, a ≤ q.a ∧ q.a + q.t.length ≤ a + l.length ∧ (l.drop (q.a - a)).take q.t.length = q.t
  | 0, a, l, hn, q, hq => by
    obtain rfl : l = [] := List.eq_nil_of_length_eq_zero (by omega)
    simp [lexA, lexF] at hq
  | n + 1, a, l, hn, q, hq => by
    by_cases h : l.drop (skipG false l) = []
    · rw [lexA_nil _ _ h] at hq; simp at hq
    by_cases h0 : (tokL wk (l.drop (skipG false l))).1 = 0
    · rw [lexA_bad _ _ h h0] at hq; simp at hq
    have h3 := tokL_len _ h0
    rw [lexA_tok _ _ h h0] at hq
    simp only [List.length_drop] at h3
    have h6 := skipG_le l false
    rcases List.mem_cons.1 hq with rfl | hq
    · refine ⟨by simp, ?_, ?_⟩
      · simp only [List.length_take, List.length_drop]; omega
      · simp only [List.length_take, List.length_drop, Nat.add_sub_cancel_left]
        rw [Nat.min_eq_left (by omega)]
    · obtain ⟨q1, q2, q3⟩ := lex_places n _ _ (by simp only [List.length_drop]; omega) q hq
      simp only [List.length_drop] at q2
      refine ⟨by omega, by omega, ?_⟩
      rw [List.drop_drop, List.drop_drop] at q3
      rw [← q3]
      congr 2
      · omega
theorem lex_len : ∀ (n a : Nat) (l : List UInt8), l.length ≤ n → ((lexA wk a l).1.map fun q => q.t.length).sum ≤ l.length ∧ (lexA wk a l).1.length ≤ l.length
  | 0, a, l, hn => by
    obtain rfl : l = [] := List.eq_nil_of_length_eq_zero (by omega)
    simp [lexA, lexF]
  | n + 1, a, l, hn => by
    by_cases h : l.drop (skipG false l) = []
    · rw [lexA_nil _ _ h]; simp
    by_cases h0 : (tokL wk (l.drop (skipG false l))).1 = 0
    · rw [lexA_bad _ _ h h0]; simp
    have h3 := tokL_len _ h0
    simp only [List.length_drop] at h3
    have h6 := skipG_le l false
    obtain ⟨q1, q2⟩ := lex_len n (a + skipG false l + (tokL wk (l.drop (skipG false l))).2) ((l.drop (skipG false l)).drop (tokL wk (l.drop (skipG false l))).2) (by simp only [List.length_drop]; omega)
    rw [lexA_tok _ _ h h0]
    simp only [List.length_drop] at q1 q2
    simp only [List.map_cons, List.sum_cons, List.length_cons, List.length_take, List.length_drop]
    omega
def TextOf (wk : List UInt8 → Int) (q : Int) (t : List UInt8) : Prop := q ≠ 0 ∧ ((q = wk t ∧ t ≠ [] ∧ (∀ c ∈ t, insB c = true) ∧ t.head? ≠ some 95) ∨ (q = 5 ∧ t ∈ signsL))
theorem takeWhile_all {p : UInt8 → Bool} : ∀ (l : List UInt8) (c : UInt8), c ∈ l.takeWhile p → p c = true
  | [], c, h => by simp at h
  | d :: r, c, h => by
    rw [List.takeWhile_cons] at h
    split at h
    · rcases List.mem_cons.1 h with rfl | h
      · assumption
      · exact takeWhile_all r c h
    · simp at h
theorem take_run (l : List UInt8) : l.take (runL l) = l.takeWhile insB := by
  unfold runL
  exact (List.prefix_iff_eq_take.1 (List.takeWhile_prefix insB)).symm
theorem tok_text (l : List UInt8) (h : (tokL wk l).1 ≠ 0) : TextOf wk (tokL wk l).1 (l.take (tokL wk l).2) := by
  refine ⟨h, ?_⟩
  revert h
  unfold tokL
  split
  · rename_i h
    intro _
    refine .inl ⟨rfl, ?_, ?_, ?_⟩
    · intro he
      have := congrArg List.length he
      have h2 := runL_le l
      simp only [List.length_take, List.length_nil] at this; omega
    · intro c hc
      simp only [take_run] at hc
      exact takeWhile_all _ _ hc
    · cases l with
      | nil => simp [runL] at h
      | cons c r =>
        have h1 := h.1
        have h2 := h.2
        obtain ⟨k, hk⟩ : ∃ k, runL (c :: r) = k + 1 := ⟨runL (c :: r) - 1, by omega⟩
        simp only [hk, List.take_succ_cons]
        simpa using h2
  · split
    · rename_i s hs
      obtain ⟨h1, h2⟩ := sign_mem hs
      intro _
      refine .inr ⟨rfl, ?_⟩
      show l.take s.length ∈ signsL
      rw [← List.prefix_iff_eq_take.1 h2]; exact h1
    · intro h; simp at h
theorem lex_texts : ∀ (n a : Nat) (l : List UInt8), l.length ≤ n → ∀ q ∈ (lexA wk a l).1, TextOf wk q.k q.t
  | 0, a, l, hn, q, hq => by
    obtain rfl : l = [] := List.eq_nil_of_length_eq_zero (by omega)
    simp [lexA, lexF] at hq
  | n + 1, a, l, hn, q, hq => by
    by_cases h : l.drop (skipG false l) = []
    · rw [lexA_nil _ _ h] at hq; simp at hq
    by_cases h0 : (tokL wk (l.drop (skipG false l))).1 = 0
    · rw [lexA_bad _ _ h h0] at hq; simp at hq
    have h3 := tokL_len _ h0
    rw [lexA_tok _ _ h h0] at hq
    simp only [List.length_drop] at h3
    rcases List.mem_cons.1 hq with rfl | hq
    · exact tok_text _ h0
    · exact lex_texts n _ _ (by simp only [List.length_drop]; omega) q hq
theorem skip_idem : ∀ (l : List UInt8) (b : Bool), skipG false (l.drop (skipG b l)) = 0
  | [], b => by simp [skipG]
  | c :: r, true => by
    have h1 := skip_idem r false; have h2 := skip_idem r true
    by_cases h : c = 10
    · have e : skipG true (c :: r) = skipG false r + 1 := by simp [skipG, h]; omega
      rw [e, List.drop_succ_cons, h1]
    · have e : skipG true (c :: r) = skipG true r + 1 := by simp [skipG, h]; omega
      rw [e, List.drop_succ_cons, h2]
  | c :: r, false => by
    have h1 := skip_idem r false; have h2 := skip_idem r true
    by_cases h : blankB c = true
    · have e : skipG false (c :: r) = skipG false r + 1 := by simp [skipG, h]; omega
      rw [e, List.drop_succ_cons, h1]
    · by_cases h3 : c = 37
      · have h4 : blankB 37 = false := by decide
        have e : skipG false (c :: r) = skipG true r + 1 := by simp [skipG, h3, h4]; omega
        rw [e, List.drop_succ_cons, h2]
      · have e : skipG false (c :: r) = 0 := by simp [skipG, h, h3]
        rw [e]; exact e
theorem lexA_adv {l : List UInt8} {k : Nat} (hk : skipG false l = k + skipG false (l.drop k)) (a : Nat) : lexA wk a l = lexA wk (a + k) (l.drop k) := by
  have e : l.drop (skipG false l) = (l.drop k).drop (skipG false (l.drop k)) := by rw [List.drop_drop, ← hk]
  have e2 : a + skipG false l = a + k + skipG false (l.drop k) := by omega
  by_cases h : l.drop (skipG false l) = []
  · rw [lexA_nil a l h, lexA_nil (a + k) (l.drop k) (by rw [← e]; exact h)]
  by_cases h0 : (tokL wk (l.drop (skipG false l))).1 = 0
  · rw [lexA_bad a l h h0, lexA_bad (a + k) (l.drop k) (by rw [← e]; exact h) (by rw [← e]; exact h0), e2]
  · rw [lexA_tok a l h h0, lexA_tok (a + k) (l.drop k) (by rw [← e]; exact h) (by rw [← e]; exact h0), e2, e]
theorem lexA_skip (l : List UInt8) (a : Nat) : lexA wk a l = lexA wk (a + skipG false l) (l.drop (skipG false l)) := lexA_adv (by rw [skip_idem]; rfl) a
/-- at a token's place -/
theorem lexA_at {l : List UInt8} (hl : l ≠ []) (hs : skipG false l = 0) (a : Nat) :
    lexA wk a l = if (tokL wk l).1 = 0 then ([], some a) else
      (⟨(tokL wk l).1, l.take (tokL wk l).2, a⟩ :: (lexA wk (a + (tokL wk l).2) (l.drop (tokL wk l).2)).1, (lexA wk (a + (tokL wk l).2) (l.drop (tokL wk l).2)).2) := by
  have e : l.drop (skipG false l) = l := by rw [hs]; rfl
  split
  · rename_i h; rw [lexA_bad _ _ (by rw [e]; exact hl) (by rw [e]; exact h), hs]; rfl
  · rename_i h; rw [lexA_tok _ _ (by rw [e]; exact hl) (by rw [e]; exact h), e, hs]; rfl
theorem skip_one {c : UInt8} {r : List UInt8} (h : blankB c = true) : skipG false (c :: r) = 1 + skipG false r := by simp [skipG, h]
theorem skip_per (r : List UInt8) : skipG false (37 :: r) = ((37 :: r).takeWhile (· != 10)).length + skipG false ((37 :: r).drop ((37 :: r).takeWhile (· != 10)).length) := by
  have h4 : blankB 37 = false := by decide
  rw [show skipG false (37 :: r) = 1 + skipG true r by simp [skipG, h4], skip_note r]
  simp; omega
theorem skip_zero {c : UInt8} {r : List UInt8} (h : blankB c = false) (h2 : c ≠ 37) : skipG false (c :: r) = 0 := by simp [skipG, h, h2]
end Go.Proofs.YtgabkmibfhmkmaaGreatDoor

namespace Go.Proofs.YtgabkmibfhmkmaaGreatDoor
open Go.RowKit
theorem ba_ext (s : ByteArray) (a b : Nat) : (s.extract a b).toList = (s.toList.take b).drop a := by
  rw [ByteArray.toList_eq, ByteArray.toList_eq, ByteArray.data_extract, Array.toList_extract]
  show List.take (b - a) (s.data.toList.drop a) = _
  rw [List.drop_take]
theorem ba_drop (s : ByteArray) (a : Nat) : (s.extract a s.size).toList = s.toList.drop a := by
  rw [ba_ext, List.take_of_length_le (by rw [ba_len]; exact Nat.le_refl _)]
theorem ba_take (s : ByteArray) (b : Nat) : (s.extract 0 b).toList = s.toList.take b := by rw [ba_ext]; rfl
theorem ba_eq {s : ByteArray} {l : List UInt8} (h : s.toList = l) : s = ⟨l.toArray⟩ := by rw [← h]; exact (bytes_back s).symm
def greatB (n : Nat) : Bool := decide (65 ≤ n) && decide (n ≤ 90)
def figB (n : Nat) : Bool := decide (48 ≤ n) && decide (n ≤ 57)
theorem insB_eq (c : UInt8) : insB c = (lowB c.toNat || greatB c.toNat || figB c.toNat || decide (c.toNat = 95)) := rfl
set_option maxRecDepth 100000 in
theorem small_any (r : Nat) (w : World) : Calls Tryz.prog 363 #[.int .u8 r] w (RetSameB (lowB r) w) := by
  by_cases h1 : (97 : Int) ≤ r <;> by_cases h2 : (r : Int) ≤ 122 <;> (try (exfalso; omega))
  all_goals
    go_enter Tryz.func363, Tryz.ntmps363
    go_wp2
    go_ret
    exact ⟨by simp [lowB]; omega, rfl⟩
set_option maxRecDepth 100000 in
theorem great_any (r : Nat) (w : World) : Calls Tryz.prog 364 #[.int .u8 r] w (RetSameB (greatB r) w) := by
  by_cases h1 : (65 : Int) ≤ r <;> by_cases h2 : (r : Int) ≤ 90 <;> (try (exfalso; omega))
  all_goals
    go_enter Tryz.func364, Tryz.ntmps364
    go_wp2
    go_ret
    exact ⟨by simp [greatB]; omega, rfl⟩
set_option maxRecDepth 100000 in
theorem figure_any (r : Nat) (w : World) : Calls Tryz.prog 365 #[.int .u8 r] w (RetSameB (figB r) w) := by
  by_cases h1 : (48 : Int) ≤ r <;> by_cases h2 : (r : Int) ≤ 57 <;> (try (exfalso; omega))
  all_goals
    go_enter Tryz.func365, Tryz.ntmps365
    go_wp2
    go_ret
    exact ⟨by simp [figB]; omega, rfl⟩
theorem ins_run : ∀ (l : List UInt8) (k : Nat) (c : UInt8), k ≤ runL l → l[k]? = some c → insB c = true → k + 1 ≤ runL l
  | [], k, c, h, hc, hi => by simp at hc
  | d :: r, 0, c, h, hc, hi => by
    simp at hc; subst hc
    simp [runL, hi]
  | d :: r, k + 1, c, h, hc, hi => by
    unfold runL at h ⊢
    rw [List.takeWhile_cons] at h ⊢
    cases hd : insB d with
    | false => rw [hd] at h; simp at h
    | true =>
      rw [hd] at h
      simp only [if_true, List.length_cons] at h ⊢
      have := ins_run r k c (by unfold runL; omega) (by simpa using hc) hi
      unfold runL at this; omega
theorem run_out : ∀ (l : List UInt8) (k : Nat) (c : UInt8), k ≤ runL l → l[k]? = some c → insB c = false → runL l = k
  | [], k, c, h, hc, hi => by simp at hc
  | d :: r, 0, c, h, hc, hi => by
    simp at hc; subst hc
    simp [runL, hi]
  | d :: r, k + 1, c, h, hc, hi => by
    unfold runL at h ⊢
    rw [List.takeWhile_cons] at h ⊢
    cases hd : insB d with
    | false => rw [hd] at h; simp at h
    | true =>
      rw [hd] at h
      simp only [if_true, List.length_cons] at h ⊢
      have := run_out r k c (by unfold runL; omega) (by simpa using hc) hi
      unfold runL at this; omega
def RetSame' (n : Int) (w : World) (e : Ending) (w' : World) : Prop := e = .returned (.int .i64 n) ∧ w' = w
set_option maxRecDepth 100000 in
set_option maxHeartbeats 2000000 in
theorem run_any (s : ByteArray) (hs : s.size ≤ 140737488351232) (w : World) : Calls Tryz.prog 346 #[.string s] w (RetSame' (runL s.toList) w) := by
  have Hle := Lib.hid (runL_le s.toList)
  have Hlen := Lib.hid (ba_len s)
  obtain ⟨R, HR⟩ : ∃ R, Hid (R = runL s.toList) := ⟨_, rfl⟩
  rw [← HR.out]
  have Hs := Lib.hid (fun r => small_any r w)
  have Hg := Lib.hid (fun r => great_any r w)
  have Hf := Lib.hid (fun r => figure_any r w)
  go_enter Tryz.func346, Tryz.ntmps346
  go_wp2
  go_loop [3] (fun i => ∃ k : Nat, k ≤ s.size ∧ i = .int .i64 k ∧ Hid (k ≤ runL s.toList)) (fun i => s.size - (intOf i).toNat)
  case atStart => exact ⟨0, by omega, rfl, Nat.zero_le _⟩
  case round =>
    obtain ⟨k, hk, rfl, HK⟩ := hrel
    by_cases hlt : k < s.size
    · have i0 : (0 : Int) ≤ (k : Int) := by omega
      have i1 : (k : Int) < (s.size : Int) := by omega
      have Hc := Lib.hid (ba_get hlt)
      have HN : Hid (insB (s[k]'hlt) = true → k + 1 ≤ runL s.toList) := fun h => ins_run _ _ _ HK.out Hc.out h
      have HF : Hid (insB (s[k]'hlt) = false → R = k) := fun h => by rw [HR.out]; exact run_out _ _ _ HK.out Hc.out h
      have HE := Lib.hid (insB_eq (s[k]'hlt))
      cases h1 : lowB (s[k]'hlt).toNat with
      | true =>
        have HI : Hid (insB (s[k]'hlt) = true) := by show _ = _; rw [HE.out]; simp [h1]
        go_wp2_with (go_at_call 363; refine (Hs.out _).mono ?_; rintro e w1 ⟨rfl, rfl⟩)
        go_round
        case rel => exact ⟨k + 1, by omega, by go_num, HN.out HI.out⟩
        case measure => simp [intOf]; omega
      | false =>
      cases h2 : greatB (s[k]'hlt).toNat with
      | true =>
        have HI : Hid (insB (s[k]'hlt) = true) := by show _ = _; rw [HE.out]; simp [h2]
        go_wp2_with (first | (go_at_call 363; refine (Hs.out _).mono ?_; rintro e w1 ⟨rfl, rfl⟩) | (go_at_call 364; refine (Hg.out _).mono ?_; rintro e w1 ⟨rfl, rfl⟩))
        go_round
        case rel => exact ⟨k + 1, by omega, by go_num, HN.out HI.out⟩
        case measure => simp [intOf]; omega
      | false =>
      cases h3 : figB (s[k]'hlt).toNat with
      | true =>
        have HI : Hid (insB (s[k]'hlt) = true) := by show _ = _; rw [HE.out]; simp [h3]
        go_wp2_with (first | (go_at_call 363; refine (Hs.out _).mono ?_; rintro e w1 ⟨rfl, rfl⟩) | (go_at_call 364; refine (Hg.out _).mono ?_; rintro e w1 ⟨rfl, rfl⟩) | (go_at_call 365; refine (Hf.out _).mono ?_; rintro e w1 ⟨rfl, rfl⟩))
        go_round
        case rel => exact ⟨k + 1, by omega, by go_num, HN.out HI.out⟩
        case measure => simp [intOf]; omega
      | false =>
      by_cases h4 : (s[k]'hlt).toNat = 95
      · have HI : Hid (insB (s[k]'hlt) = true) := by show _ = _; rw [HE.out]; simp [h4]
        have z5 : (((s[k]'hlt).toNat : Int) == 95) = true := by simp; omega
        clear h4
        go_wp2_with (first | (go_at_call 363; refine (Hs.out _).mono ?_; rintro e w1 ⟨rfl, rfl⟩) | (go_at_call 364; refine (Hg.out _).mono ?_; rintro e w1 ⟨rfl, rfl⟩) | (go_at_call 365; refine (Hf.out _).mono ?_; rintro e w1 ⟨rfl, rfl⟩))
        go_round
        case rel => exact ⟨k + 1, by omega, by go_num, HN.out HI.out⟩
        case measure => simp [intOf]; omega
      · have HI : Hid (insB (s[k]'hlt) = false) := by show _ = _; rw [HE.out]; simp [h1, h2, h3, h4]
        have z5 : (((s[k]'hlt).toNat : Int) == 95) = false := by simp; omega
        clear h4
        go_wp2_with (first | (go_at_call 363; refine (Hs.out _).mono ?_; rintro e w1 ⟨rfl, rfl⟩) | (go_at_call 364; refine (Hg.out _).mono ?_; rintro e w1 ⟨rfl, rfl⟩) | (go_at_call 365; refine (Hf.out _).mono ?_; rintro e w1 ⟨rfl, rfl⟩))
        go_ret
        exact ⟨by rw [HF.out HI.out]; rfl, rfl⟩
    · have i1 : ¬ (k : Int) < (s.size : Int) := by omega
      have HE : Hid (R = k) := by
        show _ = _
        have h1 := HK.out; have h2 := Hle.out; have h3 := Hlen.out; have h4 := HR.out
        omega
      go_wp2_with fail
      go_ret
      exact ⟨by rw [HE.out]; rfl, rfl⟩
end Go.Proofs.YtgabkmibfhmkmaaGreatDoor
