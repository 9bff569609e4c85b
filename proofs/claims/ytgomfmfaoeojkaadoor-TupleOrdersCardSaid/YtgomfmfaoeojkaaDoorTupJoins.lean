/- TupleJoins: the walk. -/
import Derived.Test.YtgomfmfaoeojkaaDoorTupShards
namespace Go.Proofs.YtgomfmfaoeojkaaDoor
open Go.RowKit

/-- the numbers from p on, k of them -/
def numsFrom (p k : Nat) : List Int := (List.range k).map fun i => ((p + i : Nat) : Int)
theorem numsFrom_len (p k : Nat) : (numsFrom p k).length = k := by simp [numsFrom]
theorem numsFrom_succ (p k : Nat) : numsFrom p (k + 1) = numsFrom p k ++ [((p + k : Nat) : Int)] := by simp [numsFrom, List.range_succ]
theorem numsFrom_mem {p k : Nat} {x : Int} (h : x ∈ numsFrom p k) : (p : Int) ≤ x ∧ x < p + k := by
  simp only [numsFrom, List.mem_map, List.mem_range] at h
  obtain ⟨i, hi, rfl⟩ := h
  omega
theorem pick_nums (t : List GV) (p k : Nat) (h : p + k ≤ t.length) : pickV t (numsFrom p k) = (t.drop p).take k := by
  apply List.ext_getElem?
  intro i
  simp only [pickV, numsFrom, List.map_map, List.getElem?_map, List.getElem?_take, List.getElem?_drop]
  by_cases hi : i < k
  · rw [List.getElem?_eq_getElem (by simpa using hi), if_pos hi]
    simp only [List.getElem_range, Option.map_some, Function.comp, Int.toNat_natCast]
    rw [List.getElem?_eq_getElem (by omega)]
    simp [List.getD_eq_getElem?_getD, List.getElem?_eq_getElem (show p + i < t.length by omega)]
  · rw [List.getElem?_eq_none (by simpa using hi), if_neg hi]; rfl
theorem pick_nums_ok (t : List GV) (p k : Nat) (h : p + k ≤ t.length) (h6 : k ≤ 6) : pickE t.length (numsFrom p k) = 0 ∧ pickL t (numsFrom p k) = (t.drop p).take k := by
  have e := pickE_ok (n := t.length) (cs := numsFrom p k) (pickOk_true fun c hc => by have := numsFrom_mem hc; omega) (by rw [numsFrom_len]; omega)
  exact ⟨e, by simp only [pickL, e, if_true]; exact pick_nums t p k h⟩

/-- the rows of columns, as the loop makes them: first the left one, then the right one -/
def SplitAt (n k : Nat) (w0 W : World) (l r : Value) : Prop :=
  (k ≤ n ∧ r = .slice none 0 0 ∧ ∃ A c, l = .slice A k c ∧ W.ownsRow w0.heap.size 3 1 l k ((numsFrom 0 k).map fun x => .int .i64 x) ∧ Below w0.heap.size w0 W) ∨
  (n ≤ k ∧ ∃ wm A c A' c', Below w0.heap.size w0 wm ∧ l = .slice A n c ∧ SliceIs Enc.int wm wm.heap.size A n c (numsFrom 0 n) ∧ r = .slice A' (k - n) c' ∧ W.ownsRow wm.heap.size 3 1 r (k - n) ((numsFrom n (k - n)).map fun x => .int .i64 x) ∧ Below wm.heap.size wm W)
theorem SplitAt.below {n k : Nat} {w0 W : World} {l r : Value} (h : SplitAt n k w0 W l r) : Below w0.heap.size w0 W := by
  rcases h with ⟨_, _, _, _, _, _, hb⟩ | ⟨_, wm, _, _, _, _, h0, _, _, _, _, hb⟩
  · exact hb
  · exact below_next h0 hb
theorem nums_fits {p k : Nat} (h : p + k ≤ 140737488351232) : ∀ x ∈ numsFrom p k, fits x := fun x hx => (fits_iff x).2 (by have := numsFrom_mem hx; omega)
theorem SplitAt.late {n k : Nat} {w0 W : World} {l r : Value} (h : SplitAt n k w0 W l r) (hk : n ≤ k) (hn : n ≤ 1000) :
    ∃ wm A c A' c', Below w0.heap.size w0 wm ∧ l = .slice A n c ∧ SliceIs Enc.int wm wm.heap.size A n c (numsFrom 0 n) ∧ r = .slice A' (k - n) c' ∧ W.ownsRow wm.heap.size 3 1 r (k - n) ((numsFrom n (k - n)).map fun x => .int .i64 x) ∧ Below wm.heap.size wm W := by
  rcases h with ⟨h1, rfl, A, c, rfl, ho, hb⟩ | ⟨_, h⟩
  · obtain rfl : k = n := by omega
    refine ⟨W, A, c, none, 0, hb, rfl, ints_is ho (numsFrom_len 0 k) (by simp [reachN]; omega) (nums_fits (by omega)), by rw [Nat.sub_self], ?_, Below.refl _ _⟩
    rw [Nat.sub_self]; exact World.ownsRow_nil _ _ _ _
  · exact h

set_option maxRecDepth 100000 in
set_option maxHeartbeats 4000000 in
theorem tupleJoins_walk (A B : Option Addr) (n c m d : Nat) (a b : List GV) (w : World) (ha : SliceIs Enc.val w w.heap.size A n c a) (hb : SliceIs Enc.val w w.heap.size B m d b) (h : TabW w) :
    Calls Tryd.prog 7 #[.slice A n c, .slice B m d] w (RetBool true w) := by
  have hn := ha.bound
  have hm := hb.bound
  have hla := Lib.hid ha.1
  have hlb := Lib.hid hb.1
  have HA := Lib.hid ha
  have HB := Lib.hid hb
  have HW := Lib.hid h
  have Hok : Hid (∀ x ∈ a ++ b, x.ok) := fun x hx => by
    rcases List.mem_append.1 hx with hx | hx
    · exact vals_ok ha x hx
    · exact vals_ok hb x hx
  clear ha hb h
  go_enter Tryd.func7, Tryd.ntmps7
  go_wp2_with fail
  refine (alive_any _ HW.out).mono ?_
  rintro e2 w1 ⟨rfl, hbw⟩
  have HL := Lib.hid (long02_any (some ⟨w1.heap.size, 0, none⟩) 2 2 [a, b] _ (two_tuples (HA.out.keep hbw) (HB.out.keep hbw)))
  go_wp2_with fail
  refine HL.out.mono ?_
  clear HL
  rintro e2 w2 ⟨r, rfl, hr, hq2⟩
  replace hbw := below_next (belowA hbw _) hq2
  clear hq2 hr
  cases r with
  | true =>
    go_wp2_with fail
    go_ret
    exact ⟨rfl, hbw⟩
  | false =>
  by_cases h6 : 6 < n + m
  · have i1 : (6 : Int) < (n : Int) + (m : Int) := by omega
    go_wp2_with fail
    go_ret
    exact ⟨rfl, hbw⟩
  · have i1 : ¬ (6 : Int) < (n : Int) + (m : Int) := by omega
    have HJ := Lib.hid (tjoin_any A B n c m d a b w2 (HA.out.keep hbw) (HB.out.keep hbw) h6)
    go_wp2_with fail
    refine HJ.out.mono ?_
    clear HJ
    rintro e w3 ⟨A3, c3, rfl, hj, hq⟩
    have hjl : (a ++ b).length = n + m := by rw [List.length_append, hla.out, hlb.out]
    rw [hjl] at hj ⊢
    replace hbw := below_next hbw hq
    have HJ := Lib.hid hj
    have Hjl := Lib.hid hjl
    clear hq hj hjl
    have rn0 : (((n : Int) + (m : Int)) != ((n : Int) + (m : Int))) = false := by simp
    go_wp2_with fail
    go_loopw [7, 8, 9, 47] (fun l r _ i wr => ∃ k : Nat, k ≤ n + m ∧ i = .int .i64 k ∧ SplitAt n k w3 wr l r) (fun _ _ _ i _ => (n + m) - (intOf i).toNat)
    case atStart => exact ⟨0, by omega, rfl, .inl ⟨by omega, rfl, none, 0, rfl, World.ownsRow_nil _ _ _ _, Below.refl _ _⟩⟩
    case round =>
      obtain ⟨k, hk, rfl, hsp⟩ := hrel
      have i0 : (0 : Int) ≤ (k : Int) := by omega
      by_cases hlt : k < n + m
      · have i2 : (k : Int) < (n : Int) + (m : Int) := by omega
        by_cases hkn : k < n
        · have i3 : (k : Int) < (n : Int) := by omega
          rcases hsp with ⟨_, rfl, A1, c1, rfl, ho, hbr⟩ | ⟨hno, _⟩
          · obtain ⟨v', w', hrun, hown', hb'⟩ := int_push (B := w3.heap.size) (k : Int) (by omega) hbr.size ho
            obtain ⟨A2, c2, rfl⟩ := own_form hown'
            have HRun := Lib.hid hrun
            have HO : SplitAt n (k + 1) w3 w' (.slice A2 (k + 1) c2) (.slice none 0 0) :=
              .inl ⟨by omega, rfl, A2, c2, rfl, by rw [numsFrom_succ, List.map_append, Nat.zero_add]; exact hown', hbr.trans hb'⟩
            have HO2 := Lib.hid HO
            clear hrun hown' hb' HO ho
            go_wp2_with (at_builtin; refine wpList_append_run rfl _ _ _ rfl _ _ rfl rfl (HRun.out _) ?_)
            go_roundw
            case rel => exact ⟨k + 1, by omega, by go_num, HO2.out⟩
            case measure => simp [intOf]; omega
          · omega
        · have i3 : ¬ (k : Int) < (n : Int) := by omega
          obtain ⟨wm, A1, c1, A2, c2, h0, rfl, hsl, rfl, ho, hbr⟩ := hsp.late (by omega) (by omega)
          obtain ⟨v', w', hrun, hown', hb'⟩ := int_push (B := wm.heap.size) (k : Int) (by omega) hbr.size ho
          obtain ⟨A4, c4, rfl⟩ := own_form hown'
          have HRun := Lib.hid hrun
          have e1 : k + 1 - n = k - n + 1 := by omega
          have HO : SplitAt n (k + 1) w3 w' (.slice A1 n c1) (.slice A4 (k - n + 1) c4) := by
            refine .inr ⟨by omega, wm, A1, c1, A4, c4, h0, rfl, hsl, by rw [e1], ?_, hbr.trans hb'⟩
            rw [e1, numsFrom_succ, List.map_append, show n + (k - n) = k by omega]; exact hown'
          have HO2 := Lib.hid HO
          clear hrun hown' hb' HO ho hsl e1 hsp
          go_wp2_with (at_builtin; refine wpList_append_run rfl _ _ _ rfl _ _ rfl rfl (HRun.out _) ?_)
          go_roundw
          case rel => exact ⟨k + 1, by omega, by go_num, HO2.out⟩
          case measure => simp [intOf]; omega
      · have i2 : ¬ (k : Int) < (n : Int) + (m : Int) := by omega
        obtain rfl : k = n + m := by omega
        obtain ⟨wm, A1, c1, A2, c2, h0, rfl, hsl, rfl, ho, hbr⟩ := hsp.late (by omega) (by omega)
        have e1 : n + m - n = m := by omega
        rw [e1] at ho ⊢
        have hsr := ints_is ho (numsFrom_len n m) (by simp [reachN]; omega) (nums_fits (by omega))
        have hsl' := hsl.keep hbr
        have hb3 := below_next h0 hbr
        have hj := HJ.out.keep hb3
        replace hbw := below_next hbw hb3
        obtain ⟨e2, e3⟩ := pick_nums_ok (a ++ b) 0 n (by rw [Hjl.out]; omega) (by omega)
        obtain ⟨e4, e5⟩ := pick_nums_ok (a ++ b) n m (by rw [Hjl.out]; omega) (by omega)
        have e3 : pickL (a ++ b) (numsFrom 0 n) = a := by rw [e3, List.drop_zero, ← hla.out, List.take_left]
        have e5 : pickL (a ++ b) (numsFrom n m) = b := by rw [e5, ← hla.out, List.drop_left, ← hlb.out, List.take_length]
        have hp1 := pick_any A3 A1 (n + m) c3 n c1 (a ++ b) (numsFrom 0 n) wr hj hsl'
        rw [e2, e3] at hp1
        have hp2 := Lib.hid (fun W (hb : Below wr.heap.size wr W) => pick_any A3 A2 (n + m) c3 m c2 (a ++ b) (numsFrom n m) W (hj.keep hb) (hsr.keep hb))
        rw [e4, e5] at hp2
        have hp1 := Lib.hid hp1
        have Hoka : Hid (∀ x ∈ a, x.ok) := fun x hx => Hok.out x (List.mem_append_left _ hx)
        have Hokb : Hid (∀ x ∈ b, x.ok) := fun x hx => Hok.out x (List.mem_append_right _ hx)
        clear hsl hsl' hsr ho hsp hj e1 e2 e3 e4 e5
        go_wp2_with fail
        refine hp1.out.mono ?_
        rintro e w4 ⟨A4, c4, rfl, ho4, hq4⟩
        have hs4 := ho4.is rfl (by simp [reachN]; have := hla.out; omega) Hoka.out
        have HS4 := Lib.hid hs4
        clear ho4 hs4
        replace hbw := below_next hbw hq4
        simp only [errV, if_true]
        go_wp2_with fail
        refine (hp2.out _ hq4).mono ?_
        rintro e w5 ⟨A5, c5, rfl, ho5, hq5⟩
        have hs5 := ho5.is rfl (by simp [reachN]; have := hlb.out; omega) Hokb.out
        have HS5 := Lib.hid hs5
        have hs4 := HS4.out.keep hq5
        clear ho5 hs5
        replace hbw := below_next hbw hq5
        simp only [errV, if_true]
        have heq1 := Lib.hid (tuple_eq A4 A a.length n c4 c a w5 hs4 (HA.out.keep hbw))
        have heq2 := Lib.hid (fun W (hb : Below w5.heap.size w5 W) => tuple_eq A5 B b.length m c5 d b W (HS5.out.keep hb) (HB.out.keep (below_next hbw hb)))
        clear hs4
        go_wp2_with fail
        refine heq1.out.mono ?_
        rintro e w6 ⟨rfl, hq6⟩
        go_wp2_with fail
        refine (heq2.out _ hq6).mono ?_
        rintro e w7 ⟨rfl, hq7⟩
        go_wp2_with fail
        go_ret
        exact ⟨by simp, below_next hbw (below_next hq6 hq7)⟩
end Go.Proofs.YtgomfmfaoeojkaaDoor
