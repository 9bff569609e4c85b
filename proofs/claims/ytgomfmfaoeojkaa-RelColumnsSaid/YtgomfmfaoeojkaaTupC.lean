/- Tuples: Compare, Right, Copy and the document's Right, Less, Same: at every tuple. -/
import Derived.Test.YtgomfmfaoeojkaaTupLaw
import Derived.Test.YtgomfmfaoeojkaaTup
import Derived.Test.YtgomfmfaoeojkaaVal
namespace Go.Proofs.Ytgomfmfaoeojkaa
open Go.RowKit

/-- is a tuple right -/
def rightT (t : List GV) : Bool := decide (t.length ≤ 6) && t.all rightB

set_option maxRecDepth 100000 in
set_option maxHeartbeats 2000000 in
theorem compareFunc_any (A B : Option Addr) (n c m d : Nat) (l l' : List GV) (w : World) (hx : SliceIs Enc.val w w.heap.size A n c l) (hy : SliceIs Enc.val w w.heap.size B m d l') :
    Calls Try.prog 72 #[.slice A n c, .slice B m d, .func (.func 73) #[] #[]] w (RetInt (cmpL l l') w) := by
  have hn := hx.bound
  have hm := hy.bound
  have hxl := Lib.hid hx.1
  have hyl := Lib.hid hy.1
  have HX := Lib.hid hx
  have HY := Lib.hid hy
  obtain ⟨r, hr⟩ : ∃ r, cmpL l l' = r := ⟨_, rfl⟩
  rw [hr]
  have Hr := Lib.hid hr
  clear hr hx hy
  go_enter Try.func72, Try.ntmps72
  go_wp2_with fail
  go_loopw [7, 8, 9, 10, 13] (fun _ _ _ _ i wr => ∃ k : Nat, k ≤ n ∧ k ≤ m ∧ i = .int .i64 k ∧ Hid (l.take k = l'.take k) ∧ Below w.heap.size w wr) (fun _ _ _ _ i _ => n - (intOf i).toNat)
  case atStart => exact ⟨0, by omega, by omega, rfl, rfl, Below.refl _ _⟩
  case round =>
    obtain ⟨k, hk, hkm, rfl, hpre, hbr⟩ := hrel
    have i0 : (0 : Int) ≤ (k : Int) := by omega
    by_cases hlt : k < n
    · have i1 : (k : Int) < (n : Int) := by omega
      obtain ⟨b, o, x, rfl, hb, hx, x1, x2, x3, -⟩ := (HX.out.below hbr).val_at hlt
      by_cases hlm : k < m
      · have i2 : ¬ (m : Int) ≤ (k : Int) := by omega
        obtain ⟨b', o', y, rfl, hb', hy, y1, y2, y3, -⟩ := (HY.out.below hbr).val_at hlm
        have hcall := Lib.hid (fun W => compare_any x y W)
        obtain ⟨cv, hcv⟩ : ∃ cv, cmpV x y = cv := ⟨_, rfl⟩
        rw [hcv] at hcall
        have Hcv := Lib.hid hcv
        clear hcv
        have hz := hbr.size
        have hb2 : b' < wr.heap.size := by omega
        have hb1 : b < wr.heap.size := by omega
        clear hz hb hb'
        by_cases hc : cv = 0
        · have hc0 : (cv != 0) = false := by simp [hc]
          have HS : Hid (l.take (k + 1) = l'.take (k + 1)) := by
            have e : x = y := (cmpV_zero x y).1 (by rw [Hcv.out, hc])
            exact take_same hpre.out hx.out (e ▸ hy.out)
          clear hc Hcv hpre
          go_wp2_with fail
          refine (hcall.out _).mono ?_
          rintro e w1 ⟨rfl, hq1⟩
          have hbw := below_next (belowA (belowA hbr _) _) hq1
          clear hq1
          go_wp2_with fail
          go_roundw
          case rel => exact ⟨k + 1, by omega, by omega, by go_num, HS.out, hbw⟩
          case measure => simp [intOf]; omega
        · have hc0 : (cv != 0) = true := by simp [hc]
          obtain rfl : r = cv := by
            rw [← Hr.out, ← Hcv.out]
            exact cmpL_at hpre.out hx.out hy.out (by rw [Hcv.out]; exact hc)
          clear hc Hcv hpre
          go_wp2_with fail
          refine (hcall.out _).mono ?_
          rintro e w1 ⟨rfl, hq1⟩
          have hbw := below_next (belowA (belowA hbr _) _) hq1
          clear hq1
          go_wp2_with fail
          go_ret
          exact ⟨rfl, hbw⟩
      · have i2 : (m : Int) ≤ (k : Int) := by omega
        obtain rfl : r = 1 := by
          rw [← Hr.out]
          have hl' : l'.length = k := by have := hyl.out; omega
          refine cmpL_long ?_ (by have := hxl.out; omega)
          rw [hl', hpre.out, ← hl', List.take_length]
        clear hpre
        go_wp2_with fail
        go_ret
        exact ⟨rfl, belowA hbr _⟩
    · have i1 : ¬ (k : Int) < (n : Int) := by omega
      have hl : l = l'.take l.length := by
        have e : l.length = k := by have := hxl.out; omega
        have := hpre.out
        rw [← e, List.take_length] at this
        rw [← this]
      by_cases hlm : n < m
      · have i2 : (n : Int) < (m : Int) := by omega
        obtain rfl : r = -1 := by
          rw [← Hr.out]
          exact cmpL_short hl (by have := hxl.out; have := hyl.out; omega)
        clear hl hpre
        go_wp2_with fail
        go_ret
        exact ⟨rfl, hbr⟩
      · have i2 : ¬ (n : Int) < (m : Int) := by omega
        obtain rfl : r = 0 := by
          rw [← Hr.out, cmpL_zero, hl]
          exact List.take_of_length_le (by have := hxl.out; have := hyl.out; omega)
        clear hl hpre
        go_wp2_with fail
        go_ret
        exact ⟨rfl, hbr⟩

set_option maxRecDepth 100000 in
theorem tcompare_any (A B : Option Addr) (n c m d : Nat) (l l' : List GV) (w : World) (hx : SliceIs Enc.val w w.heap.size A n c l) (hy : SliceIs Enc.val w w.heap.size B m d l') :
    Calls Try.prog 62 #[.slice A n c, .slice B m d] w (RetInt (cmpL l l') w) := by
  have hc := Lib.hid (compareFunc_any A B n c m d l l' w hx hy)
  generalize cmpL l l' = r at hc ⊢
  clear hx hy
  go_enter Try.func62, Try.ntmps62
  go_wp2_with fail
  refine hc.out.mono ?_
  rintro e w1 ⟨rfl, hq1⟩
  go_wp2_with fail
  go_ret
  exact ⟨rfl, hq1⟩

set_option maxRecDepth 100000 in
theorem tRight_any (A : Option Addr) (n c : Nat) (t : List GV) (w : World) (ht : SliceIs Enc.val w w.heap.size A n c t) :
    Calls Try.prog 44 #[.slice A n c] w (RetBool (rightT t) w) := by
  have hn := ht.bound
  have hl := ht.1
  by_cases h6 : n ≤ 6
  · have i6 : (n : Int) ≤ 6 := by omega
    have hi := containsV_any A n c t w ht
    have HR : Hid (rightT t = t.all rightB) := by show rightT t = _; simp [rightT, hl, h6]
    generalize t.all rightB = r at hi HR
    have hi := Lib.hid hi
    clear ht hl h6
    go_enter Try.func44, Try.ntmps44
    go_wp2_with (go_at_call 65; refine hi.out.mono ?_; rintro e w1 ⟨rfl, hq1⟩)
    go_ret
    exact ⟨by rw [HR.out]; simp, hq1⟩
  · have i6 : ¬ (n : Int) ≤ 6 := by omega
    have HR : Hid (rightT t = false) := by show rightT t = _; simp [rightT, hl, h6]
    clear ht hl h6
    go_enter Try.func44, Try.ntmps44
    go_wp2_with fail
    go_ret
    exact ⟨by rw [HR.out]; rfl, Below.refl _ _⟩

set_option maxRecDepth 100000 in
set_option maxHeartbeats 1000000 in
theorem refTRight_any (A : Option Addr) (n c : Nat) (t : List GV) (w : World) (ht : SliceIs Enc.val w w.heap.size A n c t) :
    Calls Try.prog 48 #[.slice A n c] w (RetBool (rightT t) w) := by
  have hn := ht.bound
  have hlen := Lib.hid ht.1
  have HT := Lib.hid ht
  obtain ⟨r, hr⟩ : ∃ r, rightT t = r := ⟨_, rfl⟩
  rw [hr]
  have Hr := Lib.hid hr
  clear hr ht
  go_enter Try.func48, Try.ntmps48
  go_wp2_with fail
  go_loopw [3] (fun i wr => ∃ k : Nat, k ≤ n ∧ k ≤ 6 ∧ i = .int .i64 k ∧ Hid (∀ y ∈ t.take k, rightB y = true) ∧ Below w.heap.size w wr) (fun i _ => n - (intOf i).toNat)
  case atStart => exact ⟨0, by omega, by omega, rfl, fun y hy => by simp at hy, Below.refl _ _⟩
  case round =>
    obtain ⟨k, hk, hk6, rfl, hpre, hbr⟩ := hrel
    have i0 : (0 : Int) ≤ (k : Int) := by omega
    by_cases hlt : k < n
    · have i1 : (k : Int) < (n : Int) := by omega
      by_cases h5 : 5 < k
      · have i2 : (5 : Int) < (k : Int) := by omega
        obtain rfl : r = false := by
          rw [← Hr.out]; simp only [rightT, Bool.and_eq_false_iff, decide_eq_false_iff_not]
          exact .inl (by have := hlen.out; omega)
        clear hpre
        go_wp2_with fail
        go_ret
        exact ⟨rfl, hbr⟩
      · have i2 : ¬ (5 : Int) < (k : Int) := by omega
        obtain ⟨b, o, x, rfl, _, hx, x1, x2, x3, hxo⟩ := (HT.out.below hbr).val_at hlt
        have hcall := refRight_any x hxo
        cases hm : rightB x with
        | false =>
          rw [hm] at hcall
          have hcall := Lib.hid hcall
          obtain rfl : r = false := by
            rw [← Hr.out]; simp only [rightT, Bool.and_eq_false_iff]
            exact .inr (List.all_eq_false.2 ⟨x, List.mem_of_getElem? hx.out, by rw [hm]; simp⟩)
          clear hm hxo hpre
          go_wp2_with fail
          refine (hcall.out _).mono ?_
          rintro e w1 ⟨rfl, hq1⟩
          go_wp2_with fail
          go_ret
          exact ⟨rfl, below_next hbr hq1⟩
        | true =>
          rw [hm] at hcall
          have hcall := Lib.hid hcall
          have HS : Hid (∀ y ∈ t.take (k + 1), rightB y = true) := by
            intro y hy
            rw [List.take_add_one, hx.out] at hy
            rcases List.mem_append.1 hy with hy | hy
            · exact hpre.out y hy
            · simp at hy; rw [hy]; exact hm
          clear hm hxo hpre
          go_wp2_with fail
          refine (hcall.out _).mono ?_
          rintro e w1 ⟨rfl, hq1⟩
          go_wp2_with fail
          go_roundw
          case rel => exact ⟨k + 1, by omega, by omega, by go_num, HS.out, below_next hbr hq1⟩
          case measure => simp [intOf]; omega
    · have i1 : ¬ (k : Int) < (n : Int) := by omega
      obtain rfl : r = true := by
        rw [← Hr.out]
        simp only [rightT, Bool.and_eq_true, decide_eq_true_eq, List.all_eq_true]
        have h1 := hlen.out
        refine ⟨by omega, fun y hy => hpre.out y ?_⟩
        rw [List.take_of_length_le (by omega)]; exact hy
      clear hpre
      go_wp2_with fail
      go_ret
      exact ⟨rfl, hbr⟩

set_option maxRecDepth 100000 in
set_option maxHeartbeats 1000000 in
theorem refTLess_any (A B : Option Addr) (n c m d : Nat) (l l' : List GV) (w : World) (hx : SliceIs Enc.val w w.heap.size A n c l) (hy : SliceIs Enc.val w w.heap.size B m d l') :
    Calls Try.prog 69 #[.slice A n c, .slice B m d] w (RetBool (lessL l l') w) := by
  have hn := hx.bound
  have hm := hy.bound
  have hxl := Lib.hid hx.1
  have hyl := Lib.hid hy.1
  have HX := Lib.hid hx
  have HY := Lib.hid hy
  obtain ⟨r, hr⟩ : ∃ r, lessL l l' = r := ⟨_, rfl⟩
  rw [hr]
  have Hr := Lib.hid hr
  clear hr hx hy
  go_enter Try.func69, Try.ntmps69
  go_wp2_with fail
  go_loopw [5] (fun i wr => ∃ k : Nat, k ≤ n ∧ k ≤ m ∧ i = .int .i64 k ∧ Hid (l.take k = l'.take k) ∧ Below w.heap.size w wr) (fun i _ => n - (intOf i).toNat)
  case atStart => exact ⟨0, by omega, by omega, rfl, rfl, Below.refl _ _⟩
  case round =>
    obtain ⟨k, hk, hkm, rfl, hpre, hbr⟩ := hrel
    have i0 : (0 : Int) ≤ (k : Int) := by omega
    by_cases hlt : k < n ∧ k < m
    · obtain ⟨hlt, hlm⟩ := hlt
      have i1 : (k : Int) < (n : Int) := by omega
      have i2 : (k : Int) < (m : Int) := by omega
      obtain ⟨b, o, x, rfl, hb, hx, x1, x2, x3, -⟩ := (HX.out.below hbr).val_at hlt
      obtain ⟨b', o', y, rfl, hb', hy, y1, y2, y3, -⟩ := (HY.out.below hbr).val_at hlm
      have rn := run_neq_value x y
      by_cases hxy : x = y
      · have HS : Hid (l.take (k + 1) = l'.take (k + 1)) := take_same hpre.out hx.out (hxy ▸ hy.out)
        subst hxy
        rw [GV.beq_self] at rn
        simp only [Bool.not_true] at rn
        clear hpre
        go_wp2_with fail
        go_quiet (fail)
        all_goals
          go_wp2_with fail
          go_roundw
          case rel => exact ⟨k + 1, by omega, by omega, by go_num, HS.out, below_next hbr (below_drewN _ _ _)⟩
          case measure => simp [intOf]; omega
      · have hcall := Lib.hid (fun W => less_any x y W)
        obtain ⟨cv, hcv⟩ : ∃ cv, lessV x y = cv := ⟨_, rfl⟩
        rw [hcv] at hcall
        obtain rfl : r = cv := by rw [← Hr.out, ← hcv]; exact lessL_at hpre.out hx.out hy.out hxy
        have hb0 : x.beq y = false := by rw [GV.beq_dec]; simp [hxy]
        rw [hb0] at rn
        simp only [Bool.not_false] at rn
        clear hcv hxy hb0 hpre
        go_wp2_with fail
        go_quiet (fail)
        go_wp2_with fail
        have Hk := Lib.hid (fun W (h : Below wr.heap.size wr W) => And.intro (below_cell h x1) (And.intro (below_cell h x2) (And.intro (below_cell h x3) (And.intro (below_cell h y1) (And.intro (below_cell h y2) (below_cell h y3))))))
        go_region_held3 (fun w' => w'.cell? ⟨b, o + k * 3, none⟩ = some (.int .i64 x.k) ∧ w'.cell? ⟨b, o + k * 3 + 1, none⟩ = some (.int .i64 x.n) ∧ w'.cell? ⟨b, o + k * 3 + 2, none⟩ = some (.string x.s) ∧ w'.cell? ⟨b', o' + k * 3, none⟩ = some (.int .i64 y.k) ∧ w'.cell? ⟨b', o' + k * 3 + 1, none⟩ = some (.int .i64 y.n) ∧ w'.cell? ⟨b', o' + k * 3 + 2, none⟩ = some (.string y.s))
          (first
            | (refine Hk.out _ ?_; (repeat (first | with_reducible exact Below.refl _ _ | with_reducible assumption | with_reducible exact below_drewN _ _ _ | with_reducible refine Below.drew ?_ | with_reducible refine belowA ?_ _)))
            | go_keep)
          ((go_at_call 78
            refine (hcall.out _).mono ?_
            rintro e w1 ⟨rfl, hq1⟩
            have hb1 : Below wr.heap.size wr w1 := by
              refine below_next ?_ hq1
              repeat (first | with_reducible exact Below.refl _ _ | with_reducible assumption | with_reducible exact below_drewN _ _ _ | with_reducible refine Below.drew ?_ | with_reducible refine belowA ?_ _)))
        all_goals
          go_wp2_with fail
          go_ret
          exact ⟨rfl, below_next hbr hb1⟩
    · have hle : Hid (lessL l l' = decide (l.length < l'.length)) := lessL_end hpre.out (by have := hxl.out; omega) (by have := hyl.out; omega) (by have := hxl.out; have := hyl.out; omega)
      obtain rfl : r = decide (n < m) := by rw [← Hr.out, hle.out, hxl.out, hyl.out]
      clear hpre hle
      by_cases h1 : k < n
      · have i1 : (k : Int) < (n : Int) := by omega
        have i2 : ¬ (k : Int) < (m : Int) := by omega
        clear hlt
        go_wp2_with fail
        go_ret
        exact ⟨by simp, hbr⟩
      · have i1 : ¬ (k : Int) < (n : Int) := by omega
        clear hlt
        go_wp2_with fail
        go_ret
        exact ⟨by simp, hbr⟩
end Go.Proofs.Ytgomfmfaoeojkaa
