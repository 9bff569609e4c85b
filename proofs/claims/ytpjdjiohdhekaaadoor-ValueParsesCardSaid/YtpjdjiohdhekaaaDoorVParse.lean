/- value.Parse and the document's: at every text. -/
import Derived.Test.YtpjdjiohdhekaaaDoorVOf
import Derived.Test.YtpjdjiohdhekaaaDoorVParseLaw
import Derived.Deep.DeepCutAuto
namespace Go.Proofs.YtpjdjiohdhekaaaDoor
open Go.RowKit

/-- the value of a text -/
def parseO (s : ByteArray) : Option GV := if nameOk s then some ⟨2, 0, s⟩ else (refNum s.toList).map fun n => ⟨1, n, ⟨#[]⟩⟩
def parseG (s : ByteArray) : GV := (parseO s).getD gv0
theorem parse_name {s : ByteArray} (h : nameOk s = true) : parseO s = some ⟨2, 0, s⟩ := by simp [parseO, h]
theorem parse_num {s : ByteArray} (h : nameOk s = false) : parseO s = (refNum s.toList).map fun n => ⟨1, n, ⟨#[]⟩⟩ := by simp [parseO, h]
theorem parse_none {s : ByteArray} (h : nameOk s = false) (h2 : refNum s.toList = none) : parseO s = none := by rw [parse_num h, h2]; rfl
theorem parse_some {s : ByteArray} {n : Int} (h : nameOk s = false) (h2 : refNum s.toList = some n) : parseO s = some ⟨1, n, ⟨#[]⟩⟩ := by rw [parse_num h, h2]; rfl

theorem ba_get {s : ByteArray} {k : Nat} (h : k < s.size) : s.toList[k]? = some (s[k]'h) := by
  rw [ByteArray.toList_eq, List.getElem?_eq_getElem (h := show k < s.data.toList.length from by simpa using h)]
  rfl
theorem ba_len (s : ByteArray) : s.toList.length = s.size := by rw [ByteArray.toList_eq]; rfl
theorem ba_head {s : ByteArray} (h : 0 < s.size) : s.toList.head? = some (s[0]'h) := by
  rw [List.head?_eq_getElem?]; exact ba_get h
theorem ba_tail (s : ByteArray) : (s.extract 1 s.size).toList = s.toList.tail := by
  rw [ByteArray.toList_eq, ByteArray.toList_eq, ByteArray.data_extract, Array.toList_extract]
  show List.take (s.size - 1) (s.data.toList.drop 1) = _
  rw [List.drop_one, List.take_of_length_le]
  rw [List.length_tail]; exact Nat.le_refl _

/-- the piece of the document's Parse behind the sign: the loop over the digits -/
theorem digit_none {t : ByteArray} {k : Nat} (hk : k < t.size) (h : ¬ (48 ≤ (t[k]'hk).toNat ∧ (t[k]'hk).toNat ≤ 57)) : Lib.decFrom 0 t.toList = none := by
  cases hd : Lib.decFrom 0 t.toList with
  | none => rfl
  | some n =>
    obtain ⟨d, hd'⟩ := Lib.digit_of_decFrom _ _ _ hd k _ (ba_get hk)
    unfold Lib.digitVal at hd'
    rw [if_neg h] at hd'
    cases hd'

def sgn (neg : Bool) : Int := if neg then -1 else 1
theorem refNum_mag (l : List UInt8) : refNum l = (refMag (if l.head? = some 45 then l.tail else l) (decide (l.head? = some 45))).map fun (n : Nat) => sgn (decide (l.head? = some 45)) * (n : Int) := by
  unfold refNum
  by_cases h : l.head? = some 45
  · simp only [h, if_true, decide_true, sgn]
    congr 1; funext n; omega
  · simp only [h, if_false, decide_false, sgn]
    congr 1; funext n; simp

set_option maxRecDepth 100000 in
set_option maxHeartbeats 2000000 in
theorem refParse_any (s : ByteArray) (hs : s.size ≤ 140737488351232) (w : World) : Calls Tryd.prog 23 #[.string s] w (RetV (.tuple #[(parseG s).v, .bool (parseO s).isSome]) w) := by
  have hn := fun w => refNameQ_any s hs w
  cases hN : nameOk s with
  | true =>
    rw [hN] at hn
    have hn := Lib.hid hn
    rw [show parseG s = ⟨2, 0, s⟩ by simp [parseG, parse_name hN], show (parseO s).isSome = true by simp [parse_name hN]]
    clear hN
    go_enter Tryd.func23, Tryd.ntmps23
    go_wp2_with fail
    refine (hn.out _).mono ?_
    rintro e w1 ⟨rfl, rfl⟩
    go_wp2_with fail
    exact bodyPost_ret (v := .tuple #[(⟨2, 0, s⟩ : GV).v, .bool true]) (by simp [results, Tryd.results23, go_sem]) rfl ⟨rfl, belowA (Below.refl _ _) _⟩
  | false =>
    rw [hN] at hn
    have hn := Lib.hid hn
    obtain ⟨sg, t, neg, hsg, ht, htl, hr, hneg⟩ : ∃ (sg : Int) (t : ByteArray) (neg : Bool), Hid (sg = sgn neg) ∧ t.size ≤ 140737488351232 ∧ Hid (t = (if neg then s.extract 1 s.size else s)) ∧ Hid (refNum s.toList = (refMag t.toList neg).map fun (n : Nat) => sg * (n : Int)) ∧ Hid (neg = decide (s.toList.head? = some 45)) := by
      refine ⟨_, _, decide (s.toList.head? = some 45), rfl, ?_, rfl, ?_, rfl⟩
      · split
        · have : (s.extract 1 s.size).size ≤ s.size := by rw [ByteArray.size_extract]; omega
          omega
        · exact hs
      · show _ = _
        rw [refNum_mag]
        by_cases h : s.toList.head? = some 45
        · simp only [h, if_true, decide_true, ba_tail]
        · simp only [h, if_false, decide_false, Bool.false_eq_true]
    have hno : refMag t.toList neg = none → parseG s = gv0 ∧ (parseO s).isSome = false := by
      intro h
      have := parse_none hN (by rw [hr.out, h]; rfl)
      simp [parseG, this]
    have hyes : ∀ n : Nat, refMag t.toList neg = some n → parseG s = ⟨1, sg * n, ⟨#[]⟩⟩ ∧ (parseO s).isSome = true := by
      intro n h
      have := parse_some hN (n := sg * n) (by rw [hr.out, h]; rfl)
      simp [parseG, this]
    have Hno := Lib.hid hno
    have Hyes := Lib.hid hyes
    generalize parseG s = pg at Hno Hyes ⊢
    generalize (parseO s).isSome = po at Hno Hyes ⊢
    clear hs hno hyes hN hr
    go_enter Tryd.func23, Tryd.ntmps23
    go_wp2_with fail
    refine (hn.out _).mono ?_
    rintro e w1 ⟨rfl, rfl⟩
    go_upto_region 4 with fail
    go_cut [20] (fun x W => x = .bool neg ∧ W = w.alloc (.cells #[.int .i64 0, .int .i64 0, .string ⟨#[]⟩] 24))
    case first =>
      by_cases h0 : 0 < s.size
      · have i0 : (0 : Int) < (s.size : Int) := by omega
        have hb : (((s[0]'h0).toNat : Int) == 45) = neg := by
          rw [hneg.out, ba_head h0, Bool.eq_iff_iff]
          simp [← UInt8.toNat_inj]; omega
        go_wp2_with fail
        go_meet
        exact ⟨by simp, rfl⟩
      · have hb : neg = false := by
          rw [hneg.out]
          have : s.toList = [] := List.eq_nil_of_length_eq_zero (by rw [ba_len]; omega)
          rw [this]; rfl
        subst hb
        have i0 : ¬ (0 : Int) < (s.size : Int) := by omega
        go_wp2_with fail
        go_meet
        exact ⟨by simp, rfl⟩
    case rest =>
    obtain ⟨rfl, rfl⟩ := hcut
    go_upto_if 20 with fail
    go_cut [4, 5] (fun x y W => x = .string t ∧ y = .int .i64 sg ∧ W = w.alloc (.cells #[.int .i64 0, .int .i64 0, .string ⟨#[]⟩] 24))
    case first =>
      cases neg with
      | true =>
        have h0 : 1 ≤ s.size := by
          rcases Nat.eq_zero_or_pos s.size with h | h
          · have : s.toList = [] := List.eq_nil_of_length_eq_zero (by rw [ba_len]; exact h)
            have := hneg.out
            simp [*] at this
          · exact h
        have e1 : t = s.extract 1 s.size := by have := htl.out; simpa using this
        have e2 : sg = -1 := by have := hsg.out; simpa [sgn] using this
        subst e1 e2
        go_wp2_with fail
        go_meet
        exact ⟨by simp, rfl, rfl⟩
      | false =>
        have e1 : t = s := by have := htl.out; simpa using this
        have e2 : sg = 1 := by have := hsg.out; simpa [sgn] using this
        subst e1 e2
        go_wp2_with fail
        go_meet
        exact ⟨by simp, rfl, rfl⟩
    case rest =>
    obtain ⟨rfl, rfl, rfl⟩ := hcut
    clear htl hneg hn
    obtain ⟨bad, hbad⟩ : ∃ bad, Hid (bad = decide (t.toList.length = 0 ∨ 10 < t.toList.length ∨ (t.toList.head? = some 48 ∧ (1 < t.toList.length ∨ neg = true)))) := ⟨_, rfl⟩
    go_upto_region 6 with fail
    go_cut [44] (fun x W => x = .bool bad ∧ W = w.alloc (.cells #[.int .i64 0, .int .i64 0, .string ⟨#[]⟩] 24))
    case first =>
      have hB := hbad.out
      rw [ba_len] at hB
      by_cases h0 : t.size = 0
      · have hb : bad = true := by rw [hB]; simp [h0]
        have z0 : ((t.size : Int) == 0) = true := by simp [h0]
        subst hb
        clear hB h0
        go_wp2_with fail
        go_meet
        exact ⟨by simp, rfl⟩
      · have z0 : ((t.size : Int) == 0) = false := by simp [h0]
        by_cases h1 : 10 < t.size
        · have hb : bad = true := by rw [hB]; simp [h1]
          have i0 : (10 : Int) < (t.size : Int) := by omega
          subst hb
          clear hB h0 h1
          go_wp2_with fail
          go_meet
          exact ⟨by simp, rfl⟩
        · have i0 : ¬ (10 : Int) < (t.size : Int) := by omega
          have hp : 0 < t.size := by omega
          have hhd := ba_head hp
          by_cases h2 : t[0]'hp = 48
          · have z1 : (((t[0]'hp).toNat : Int) == 48) = true := by rw [h2]; rfl
            rw [hhd, h2] at hB
            by_cases h3 : 1 < t.size
            · have hb : bad = true := by rw [hB]; simp [h3]
              have i1 : (1 : Int) < (t.size : Int) := by omega
              subst hb
              clear hB h0 h1 h2 hhd h3
              go_wp2_with fail
              go_meet
              exact ⟨by simp, rfl⟩
            · have i1 : ¬ (1 : Int) < (t.size : Int) := by omega
              have hb : bad = neg := by rw [hB]; simp [h0, h1, h3]
              have e2 := hsg.out
              clear hB h0 h1 h2 hhd h3
              cases neg with
              | true =>
                have e2 : sg = -1 := by simpa [sgn] using e2
                subst hb e2
                go_wp2_with fail
                go_meet
                exact ⟨by simp [sgn] <;> omega, rfl⟩
              | false =>
                have e2 : sg = 1 := by simpa [sgn] using e2
                subst hb e2
                go_wp2_with fail
                go_meet
                exact ⟨by simp [sgn] <;> omega, rfl⟩
          · have z1 : (((t[0]'hp).toNat : Int) == 48) = false := by
              rw [Bool.eq_false_iff]; intro h; rw [beq_iff_eq] at h
              exact h2 (UInt8.toNat_inj.1 (by have : (48 : UInt8).toNat = 48 := rfl; omega))
            have hb : bad = false := by rw [hB, hhd]; simp [h0, h1, h2]
            subst hb
            clear hB h0 h1 h2 hhd
            go_wp2_with fail
            go_meet
            exact ⟨by simp, rfl⟩
    case rest =>
    obtain ⟨rfl, rfl⟩ := hcut
    have hmag : Hid (refMag t.toList neg = if bad = true then none else magOf t.toList) := by
      rw [hbad.out]; show refMag _ _ = _; unfold refMag; simp only [decide_eq_true_eq]
    have hle : bad = false → t.size ≤ 10 := by
      intro h
      have := hbad.out
      rw [h, ba_len] at this
      have := (decide_eq_false_iff_not.1 this.symm)
      omega
    have HsE := Lib.hid (show sg = 1 ∨ sg = -1 by rw [hsg.out]; unfold sgn; split <;> simp)
    clear hbad hsg
    cases bad with
    | true =>
      obtain ⟨rfl, rfl⟩ := Hno.out (by rw [hmag.out]; rfl)
      clear hmag Hno Hyes hle
      go_wp2_with fail
      exact bodyPost_ret (v := .tuple #[gv0.v, .bool false]) (by simp [results, Tryd.results23, go_sem, gv0]) rfl ⟨rfl, belowA (Below.refl _ _) _⟩
    | false =>
    have hle := hle rfl
    have hmag : Hid (refMag t.toList neg = magOf t.toList) := hmag.out
    generalize refMag t.toList neg = rm at hmag Hno Hyes
    go_wp2_with fail
    go_loop [6, 7] (fun x i => ∃ k a : Nat, k ≤ t.size ∧ a < 10000000000 ∧ x = .int .i64 a ∧ i = .int .i64 k ∧ Hid (Lib.decFrom 0 (t.toList.take k) = some a)) (fun _ i => t.size - (intOf i).toNat)
    case atStart => exact ⟨0, 0, by omega, by omega, rfl, rfl, rfl⟩
    case round =>
      obtain ⟨k, a, hk, ha, rfl, rfl, hm⟩ := hrel
      by_cases hlt : k < t.size
      · have i0 : (0 : Int) ≤ (k : Int) := by omega
        have i1 : (k : Int) < (t.size : Int) := by omega
        have ha9 : a < 1000000000 := by
          have h1 := Lib.decFrom_lt _ _ _ hm.out
          rw [List.length_take, ba_len, Nat.min_eq_left (by omega)] at h1
          have h2 : 10 ^ k ≤ 10 ^ 9 := Nat.pow_le_pow_right (by omega) (by omega)
          have h3 : (10 : Nat) ^ 9 = 1000000000 := by decide
          omega
        clear ha
        by_cases h1 : 48 ≤ (t[k]'hlt).toNat
        · by_cases h2 : (t[k]'hlt).toNat ≤ 57
          · have hst := Lib.hid (Lib.decFrom_take t.toList k 0 a (t[k]'hlt) ((t[k]'hlt).toNat - 48) hm.out (ba_get hlt) (by unfold Lib.digitVal; rw [if_pos ⟨h1, h2⟩]))
            clear hm
            go_wp2_with fail
            refine ⟨⟨k + 1, 10 * a + ((t[k]'hlt).toNat - 48), by omega, by omega, ?_, by go_num, ?_⟩, by simp [intOf]; omega⟩
            · congr 1; omega
            · show _ = _
              rw [hst.out]; congr 1; omega
          · obtain ⟨rfl, rfl⟩ := Hno.out (by rw [hmag.out]; unfold magOf; rw [digit_none hlt (fun h => h2 h.2)])
            have i2 : (57 : Int) < ((t[k]'hlt).toNat : Int) := by omega
            clear hmag Hno Hyes hm hle
            go_wp2_with fail
            exact bodyPost_ret (v := .tuple #[gv0.v, .bool false]) (by simp [results, Tryd.results23, go_sem, gv0]) rfl ⟨rfl, belowA (Below.refl _ _) _⟩
        · obtain ⟨rfl, rfl⟩ := Hno.out (by rw [hmag.out]; unfold magOf; rw [digit_none hlt (fun h => h1 h.1)])
          have i2 : ((t[k]'hlt).toNat : Int) < 48 := by omega
          clear hmag Hno Hyes hm hle
          go_wp2_with fail
          exact bodyPost_ret (v := .tuple #[gv0.v, .bool false]) (by simp [results, Tryd.results23, go_sem, gv0]) rfl ⟨rfl, belowA (Below.refl _ _) _⟩
      · have i1 : ¬ (k : Int) < (t.size : Int) := by omega
        have hd : Lib.decFrom 0 t.toList = some a := by
          rw [← hm.out, List.take_of_length_le (by rw [ba_len]; omega)]
        have hmg : rm = if 2147483647 < a then none else some a := by rw [hmag.out]; unfold magOf; rw [hd]
        clear hm hmag hd
        by_cases h1 : 2147483647 < a
        · rw [if_pos h1] at hmg
          obtain ⟨rfl, rfl⟩ := Hno.out hmg
          have i2 : (2147483647 : Int) < (a : Int) := by omega
          clear Hno Hyes hmg hle
          go_wp2_with fail
          exact bodyPost_ret (v := .tuple #[gv0.v, .bool false]) (by simp [results, Tryd.results23, go_sem, gv0]) rfl ⟨rfl, belowA (Below.refl _ _) _⟩
        · rw [if_neg h1] at hmg
          obtain ⟨rfl, rfl⟩ := Hyes.out a hmg
          have i2 : ¬ (2147483647 : Int) < (a : Int) := by omega
          clear Hno Hyes hmg hle
          rcases HsE.out with rfl | rfl
          · go_wp2_with fail
            exact bodyPost_ret (v := .tuple #[(⟨1, (a : Int), ⟨#[]⟩⟩ : GV).v, .bool true]) (by simp [results, Tryd.results23, go_sem]) rfl ⟨rfl, belowA (Below.refl _ _) _⟩
          · go_wp2_with fail
            exact bodyPost_ret (v := .tuple #[(⟨1, -(a : Int), ⟨#[]⟩⟩ : GV).v, .bool true]) (by simp [results, Tryd.results23, go_sem]) rfl ⟨rfl, belowA (Below.refl _ _) _⟩

/-! ### strconv.Atoi at every text -/
def ErrIs (W : World) (g : Nat) : Prop := ∃ tp p, W.cell? ⟨g, 0, none⟩ = some (.iface tp p)
def ErrW (W : World) : Prop := ErrIs W 0 ∧ ErrIs W 1
theorem ErrW.on {W W' : World} (h : ErrW W) (hb : Below W.heap.size W W') : ErrW W' := by
  obtain ⟨⟨t1, p1, h1⟩, ⟨t2, p2, h2⟩⟩ := h
  exact ⟨⟨t1, p1, below_cell hb h1⟩, ⟨t2, p2, below_cell hb h2⟩⟩
def AtoiPost (s : ByteArray) (w : World) (e : Ending) (w' : World) : Prop :=
  ∃ n : Int, ∃ ev : Value, fits n ∧ e = .returned (.tuple #[.int .i64 n, ev]) ∧ Below w.heap.size w w' ∧
    ((Lib.atoiAll s.toList = .ok n ∧ ev = .nilIface) ∨ ((∀ m, Lib.atoiAll s.toList ≠ .ok m) ∧ ∃ T p, ev = .iface T p))
theorem fits_of {n : Int} (h1 : -9223372036854775808 ≤ n) (h2 : n ≤ 9223372036854775807) : fits n := (fits_iff n).2 ⟨h1, h2⟩
theorem atoi_any (s : ByteArray) (hs : s.size ≤ 140737488351232) (w : World) (h : ErrW w) : Calls Tryd.prog 37 #[.string s] w (AtoiPost s w) := by
  obtain ⟨⟨t1, p1, h1⟩, ⟨t2, p2, h2⟩⟩ := h
  have el : s.data.toList = s.toList := (ByteArray.toList_eq s).symm
  cases ha : Lib.atoiAll s.toList
  · rename_i v
    refine (Tryd.strconv_Atoi_ok s (by omega) v (by rw [el]; exact ha) w).mono ?_
    rintro e w' ⟨rfl, hw⟩
    have hb := Lib.atoiAll_bounds ha
    refine ⟨v, .nilIface, fits_of hb.1 hb.2, rfl, ?_, .inl ⟨ha, rfl⟩⟩
    rcases hw with rfl | ⟨t, rfl⟩
    · exact Below.refl _ _
    · exact Lib.bytesWorld_below _ _ _
  · refine (Any.strconv_Atoi_syntax Tryd.laysC172 s (by omega) (by rw [el]; exact ha) _ w h1 (.inr ⟨_, _, rfl⟩)).mono ?_
    rintro e w' ⟨N, rfl, -, -, hb⟩
    exact ⟨0, _, by unfold fits; decide, rfl, hb, .inr ⟨(fun m e => by rw [ha] at e; cases e), _, _, rfl⟩⟩
  · refine (Any.strconv_Atoi_range Tryd.laysC172 s (by omega) (by rw [el]; exact ha) _ w h2 (.inr ⟨_, _, rfl⟩)).mono ?_
    rintro e w' ⟨N, rfl, -, -, hb⟩
    exact ⟨_, _, by unfold Lib.atoiSat; split <;> (unfold fits; decide), rfl, hb, .inr ⟨(fun m e => by rw [ha] at e; cases e), _, _, rfl⟩⟩

def VBlk (W : World) (g : Nat) (v : GV) : Prop := W.heap[g]? = some (.cells #[.int .i64 v.k, .int .i64 v.n, .string v.s] 24 (0, 0))
theorem VBlk.on {W W' : World} {g : Nat} {v : GV} (h : VBlk W g v) (hb : Below W.heap.size W W') : VBlk W' g v := (hb.block g (Array.getElem?_eq_some_iff.1 h).1).trans h
theorem VBlk.facts {W : World} {g : Nat} {v : GV} (h : VBlk W g v) : W.cell? ⟨g, 0, none⟩ = some (.int .i64 v.k) ∧ W.cell? ⟨g, 1, none⟩ = some (.int .i64 v.n) ∧ W.cell? ⟨g, 2, none⟩ = some (.string v.s) ∧ W.frozen? ⟨g, 0, none⟩ = false ∧ W.frozen? ⟨g, 1, none⟩ = false ∧ W.frozen? ⟨g, 2, none⟩ = false :=
  ⟨(cell_of_row _ _ 0 _ _ _ h).trans rfl, (cell_of_row _ _ 1 _ _ _ h).trans rfl, (cell_of_row _ _ 2 _ _ _ h).trans rfl, frozen_of_row _ _ 0 _ _ h, frozen_of_row _ _ 1 _ _ h, frozen_of_row _ _ 2 _ _ h⟩

set_option maxRecDepth 100000 in
set_option maxHeartbeats 2000000 in
theorem parse_any (s : ByteArray) (hs : s.size ≤ 140737488351232) (w : World) (h : TabW w) (hE : ErrW w) : Calls Tryd.prog 22 #[.string s] w (RetV (.tuple #[(parseG s).v, errV 36 (if (parseO s).isSome then 0 else 2)]) w) := by
  have HT := Lib.hid h
  have HE := Lib.hid hE
  have HS := Lib.hid hs
  have hsy := fun w => symbol_any s w
  cases hN : nameOk s with
  | true =>
    have e1 : symV s = ⟨2, 0, s⟩ := by simp [symV, hN]
    have e2 : symE s = 0 := by simp [symE, hN]
    rw [show parseG s = ⟨2, 0, s⟩ by simp [parseG, parse_name hN], show (parseO s).isSome = true by simp [parse_name hN]]
    simp only [e1, e2, errV, if_true] at hsy ⊢
    have hsy := Lib.hid hsy
    clear h hE hs hN e1 e2
    go_enter Tryd.func22, Tryd.ntmps22
    go_wp2_with fail
    have B2 : VBlk (w.alloc (.cells #[.int .i64 0, .int .i64 0, .string ⟨#[]⟩] 24)) w.heap.size ⟨0, 0, ⟨#[]⟩⟩ := Go.heap_alloc_new w _
    have hbw := belowA (Below.refl w.heap.size w) (.cells #[.int .i64 0, .int .i64 0, .string ⟨#[]⟩] 24)
    generalize w.alloc (.cells #[.int .i64 0, .int .i64 0, .string ⟨#[]⟩] 24) = wb at B2 hbw ⊢
    refine (hsy.out _).mono ?_
    rintro e w1 ⟨rfl, hq1⟩
    replace B2 := B2.on hq1
    replace hbw := below_next hbw hq1
    clear hq1
    obtain ⟨c0, c1, c2, f0, f1, f2⟩ := B2.facts
    have hz : w.heap.size < w1.heap.size := (Array.getElem?_eq_some_iff.1 B2).1
    clear B2
    dsimp only at c0 c1 c2
    go_wp2_with fail
    exact bodyPost_ret (v := .tuple #[(⟨2, 0, s⟩ : GV).v, .nilIface]) (by simp [results, Tryd.results22, go_sem, c0, c1, c2, hz]) rfl ⟨rfl, belowA (((hbw.setCell (Nat.le_refl _) _).setCell (Nat.le_refl _) _).setCell (Nat.le_refl _) _) _⟩
  | false =>
    have e1 : symV s = gv0 := by simp [symV, hN]
    have e2 : symE s = 5 := by simp [symE, hN]
    rw [e1, e2] at hsy
    have hsy0 := hsy
    clear hsy
    have hsy : ∀ w, Calls Tryd.prog 12 #[.string s] w (RetV (.tuple #[gv0.v, .iface 36 (.int .i64 5)]) w) := hsy0
    have hpn := parse_num hN
    rw [← own_eq_ref] at hpn
    have hno : ownNum s.toList = none → parseG s = gv0 ∧ errV 36 (if (parseO s).isSome = true then 0 else 2) = .iface 36 (.int .i64 2) := by
      intro h; rw [h] at hpn; simp [parseG, hpn, errV]
    have hyes : ∀ n : Int, ownNum s.toList = some n → parseG s = ⟨1, n, ⟨#[]⟩⟩ ∧ errV 36 (if (parseO s).isSome = true then 0 else 2) = .nilIface := by
      intro n h; rw [h] at hpn; simp [parseG, hpn, errV]
    have Hno := Lib.hid hno
    have Hyes := Lib.hid hyes
    generalize parseG s = pg at Hno Hyes ⊢
    generalize errV 36 (if (parseO s).isSome = true then 0 else 2) = po at Hno Hyes ⊢
    have hsy1 := Lib.hid hsy
    clear h hE hsy hsy0 hs hN e1 e2 hno hyes hpn
    go_enter Tryd.func22, Tryd.ntmps22
    go_wp2_with fail
    have B2 : VBlk (w.alloc (.cells #[.int .i64 0, .int .i64 0, .string ⟨#[]⟩] 24)) w.heap.size ⟨0, 0, ⟨#[]⟩⟩ := Go.heap_alloc_new w _
    have hbw := belowA (Below.refl w.heap.size w) (.cells #[.int .i64 0, .int .i64 0, .string ⟨#[]⟩] 24)
    generalize w.alloc (.cells #[.int .i64 0, .int .i64 0, .string ⟨#[]⟩] 24) = wb at B2 hbw ⊢
    refine (hsy1.out _).mono ?_
    rintro e w1 ⟨rfl, hq1⟩
    replace B2 := B2.on hq1
    replace hbw := below_next hbw hq1
    clear hq1
    simp only [gv0]
    go_upto_region 4 with fail
    have hq1 := belowA (Below.refl w1.heap.size w1) (.cells #[.int .i64 0, .int .i64 0, .string ⟨#[]⟩] 24)
    replace B2 := B2.on hq1
    replace hbw := below_next hbw hq1
    generalize w1.alloc (.cells #[.int .i64 0, .int .i64 0, .string ⟨#[]⟩] 24) = w2 at B2 hbw ⊢
    clear hq1
    go_wp2_with fail
    refine (atoi_any s HS.out _ (HE.out.on hbw)).mono ?_
    rintro e w3 ⟨n, ev, hf, rfl, hq1, hev⟩
    replace B2 := B2.on hq1
    replace hbw := below_next hbw hq1
    clear hq1
    rcases hev with ⟨ha, rfl⟩ | ⟨ha, T, p, rfl⟩
    · have Ha := Lib.hid ha
      have Hf := Lib.hid hf
      clear ha hf
      go_wp2_with fail
      refine (itoa_any n Hf.out _ (HT.out.on hbw)).mono ?_
      rintro e w4 ⟨s', hs', -, rfl, hq1⟩
      replace B2 := B2.on hq1
      replace hbw := below_next hbw hq1
      clear hq1
      have hl : s'.toList = Lib.itoa n := by rw [hs'.out, toList_mk]
      cases hq : (s'.toList == s.toList) with
      | false =>
        have hz : (s'.toList != s.toList) = true := by simp [bne, hq]
        obtain ⟨rfl, rfl⟩ := Hno.out (by
          unfold ownNum; rw [Ha.out]; simp only
          rw [if_neg]; rintro ⟨h1, -⟩
          rw [hl, h1] at hq; simp at hq)
        obtain ⟨c0, c1, c2, f0, f1, f2⟩ := B2.facts
        clear B2 hl Ha Hf Hno Hyes hs'
        dsimp only at c0 c1 c2
        go_wp2_with fail
        exact bodyPost_ret (v := .tuple #[gv0.v, .iface 36 (.int .i64 2)]) (by simp [results, Tryd.results22, go_sem, c0, c1, c2, gv0]) rfl ⟨rfl, ((hbw.setCell (Nat.le_refl _) _).setCell (Nat.le_refl _) _).setCell (Nat.le_refl _) _⟩
      | true =>
        have hz : (s'.toList != s.toList) = false := by simp [bne, hq]
        have hb := fun w => bounded_any n w
        have hcase : Hid (ownNum s.toList = if bnd31 n = true then some n else none) := by
          show _ = _
          unfold ownNum; rw [Ha.out]; simp only
          have : Lib.itoa n = s.toList := by rw [← hl]; simpa using hq
          simp [this]
        have hb : Hid (∀ w, Calls Tryd.prog 30 #[.int .i64 n] w (RetBool (bnd31 n) w)) := hb
        clear hl Ha Hf hs'
        cases hbn : bnd31 n with
        | false =>
          rw [hbn] at hb
          obtain ⟨rfl, rfl⟩ := Hno.out (by rw [hcase.out, hbn]; rfl)
          clear hcase Hno Hyes hbn
          go_wp2_with fail
          refine (hb.out _).mono ?_
          rintro e w5 ⟨rfl, hq1⟩
          replace B2 := B2.on hq1
          replace hbw := below_next hbw hq1
          clear hq1
          obtain ⟨c0, c1, c2, f0, f1, f2⟩ := B2.facts
          clear B2
          dsimp only at c0 c1 c2
          go_wp2_with fail
          exact bodyPost_ret (v := .tuple #[gv0.v, .iface 36 (.int .i64 2)]) (by simp [results, Tryd.results22, go_sem, c0, c1, c2, gv0]) rfl ⟨rfl, ((hbw.setCell (Nat.le_refl _) _).setCell (Nat.le_refl _) _).setCell (Nat.le_refl _) _⟩
        | true =>
          rw [hbn] at hb
          obtain ⟨rfl, rfl⟩ := Hyes.out n (by rw [hcase.out, hbn]; rfl)
          clear hcase Hno Hyes hbn
          go_wp2_with fail
          refine (hb.out _).mono ?_
          rintro e w5 ⟨rfl, hq1⟩
          replace B2 := B2.on hq1
          replace hbw := below_next hbw hq1
          clear hq1
          obtain ⟨c0, c1, c2, f0, f1, f2⟩ := B2.facts
          clear B2
          dsimp only at c0 c1 c2
          go_wp2_with fail
          exact bodyPost_ret (v := .tuple #[(⟨1, n, ⟨#[]⟩⟩ : GV).v, .nilIface]) (by simp [results, Tryd.results22, go_sem, c0, c1, c2, gv0]) rfl ⟨rfl, ((hbw.setCell (Nat.le_refl _) _).setCell (Nat.le_refl _) _).setCell (Nat.le_refl _) _⟩
    · obtain ⟨rfl, rfl⟩ := Hno.out (by
        unfold ownNum
        split
        · rename_i m hm; exact absurd hm (ha m)
        · rfl)
      obtain ⟨c0, c1, c2, f0, f1, f2⟩ := B2.facts
      clear B2 ha Hno Hyes hf
      dsimp only at c0 c1 c2
      go_wp2_with fail
      exact bodyPost_ret (v := .tuple #[gv0.v, .iface 36 (.int .i64 2)]) (by simp [results, Tryd.results22, go_sem, c0, c1, c2, gv0]) rfl ⟨rfl, ((hbw.setCell (Nat.le_refl _) _).setCell (Nat.le_refl _) _).setCell (Nat.le_refl _) _⟩
end Go.Proofs.YtpjdjiohdhekaaaDoor
