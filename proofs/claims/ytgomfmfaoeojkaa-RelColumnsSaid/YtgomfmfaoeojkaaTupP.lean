/- Tuples: Copy, Pick, and the document's Pick. -/
import Derived.Test.YtgomfmfaoeojkaaTupC
import Derived.Lib.SliceRun
namespace Go.Proofs.Ytgomfmfaoeojkaa
open Go.RowKit

theorem val_info : (Try.prog.info? 56).map (fun i => (i.zero, i.size, i.bytes)) = some (some (.agg #[.int .i64 0, .int .i64 0, .string ⟨#[]⟩]), 3, 32) := by kernel_rfl
theorem val_one (x : GV) : ∀ u ∈ x.cells, u.oneCell' = true := by intro u hu; simp [GV.cells] at hu; rcases hu with rfl | rfl | rfl <;> rfl
/-- a tuple's values are right as Go values -/
theorem vals_ok {w : World} {B : Nat} {A : Option Addr} {n c : Nat} {l : List GV} (h : SliceIs Enc.val w B A n c l) : ∀ x ∈ l, x.ok := by
  intro x hx
  obtain ⟨i, hi, rfl⟩ := List.mem_iff_getElem.1 hx
  obtain ⟨b, o, y, hA, hb, hy, _, _, _, hok⟩ := h.val_at (i := i) (by rw [← h.1]; exact hi)
  have : l[i] = y := by have := hy.out; rw [List.getElem?_eq_getElem hi] at this; simpa using this
  rw [this]; exact hok
/-- a tuple in a row of the call's own -/
def TupOwn (w : World) (base : Nat) (v : Value) (l : List GV) : Prop := w.ownsRow base 56 3 v l.length (l.flatMap GV.cells)
theorem TupOwn.is {w : World} {base : Nat} {A : Option Addr} {n c : Nat} {l : List GV} (h : TupOwn w base (.slice A n c) l) (hl : l.length = n) (hr : n ≤ reachN) (hok : ∀ x ∈ l, x.ok) : SliceIs Enc.val w w.heap.size A n c l :=
  SliceIs.of_flat (E := Enc.val) GV.cells (fun _ => rfl) (base := base) (e := 56) (by subst hl; exact h) hl hr (fun x hx => ⟨rfl, hok x hx⟩)
def CopyPost (l : List GV) (w : World) (e : Ending) (w' : World) : Prop := ∃ A c, e = .returned (.slice A l.length c) ∧ TupOwn w' w.heap.size (.slice A l.length c) l ∧ Below w.heap.size w w'

theorem clone_app {w W : World} {A : Option Addr} {n c g : Nat} {l : List GV} (hl : SliceIs Enc.val w w.heap.size A n c l) (hn : n ≤ 1000000) (hb : Below w.heap.size w W) (hg : w.heap.size ≤ g) (h : W.heap[g]? = some (.cells #[] 56 (0, 0))) :
    ∃ v' w', (∀ ty, (Builtin.append_ #[24, 24] ty #[.slice (some ⟨g, 0, none⟩) 0 0, .slice A n c]).run Try.prog W = .ok v' w') ∧
      (w'.ownsRow w.heap.size 56 3 v' n (l.flatMap GV.cells) ∧ Below w.heap.size w w') := by
  obtain ⟨v', w', h1, h2, h3, h4⟩ := run_append_slice (P := Try.prog) (E := Enc.val) (B := w.heap.size) (ty := 24) GV.cells (fun _ => rfl) (fun h => h.1) val_one W (base := w.heap.size) Try.underlying24 val_info rfl (by decide)
    (own_empty hg h) (hl.below hb) (by simp [maxLen]; omega) (by omega) hb.size
  exact ⟨v', w', fun _ => h1, by simpa [Enc.val] using h2, hb.trans h4⟩

set_option maxRecDepth 100000 in
set_option maxHeartbeats 1000000 in
theorem clone_any (A : Option Addr) (n c : Nat) (l : List GV) (w : World) (hl : SliceIs Enc.val w w.heap.size A n c l) (hn : n ≤ 1000000) :
    Calls Try.prog 68 #[.slice A n c] w (CopyPost l w) := by
  obtain rfl : l.length = n := hl.1
  cases A with
  | none =>
    have h0 : l = [] := by
      rcases hl.2.2.2.2 with h | ⟨b, o, h, _⟩
      · exact h
      · cases h
    subst h0
    have he := fun w => Lib.run_eql_slice_nil (P := Try.prog) w 24 56 none 0 c 0 0 Try.underlying24
    simp only [Option.isNone_none] at he
    simp only [List.length_nil]
    go_enter Try.func68, Try.ntmps68
    go_wp2_with fail
    go_ret
    exact ⟨none, 0, rfl, World.ownsRow_nil _ _ _ _, Below.refl _ _⟩
  | some a =>
    have he := fun w => Lib.run_eql_slice_nil (P := Try.prog) w 24 56 (some a) l.length c 0 0 Try.underlying24
    simp only [Option.isNone_some] at he
    obtain ⟨v', w', hrun, hown, hb⟩ := clone_app hl hn (belowA (Below.refl _ w) (.cells #[] 56)) (Nat.le_refl _) (heapNew (w := w) rfl)
    obtain ⟨A', c', rfl⟩ := own_form hown
    have HRun := Lib.hid hrun
    have HO := Lib.hid hown
    clear hrun hown
    go_enter Try.func68, Try.ntmps68
    go_wp2_with (at_builtin; refine wpList_append_run rfl _ _ _ rfl _ _ rfl rfl (HRun.out _) ?_)
    go_ret
    exact ⟨A', c', rfl, HO.out, hb⟩

set_option maxRecDepth 100000 in
theorem copy_any (A : Option Addr) (n c : Nat) (l : List GV) (w : World) (hl : SliceIs Enc.val w w.heap.size A n c l) (hn : n ≤ 1000000) :
    Calls Try.prog 46 #[.slice A n c] w (CopyPost l w) := by
  have hc := Lib.hid (clone_any A n c l w hl hn)
  clear hl
  go_enter Try.func46, Try.ntmps46
  go_wp2_with fail
  refine hc.out.mono ?_
  rintro e w1 ⟨A', c', rfl, ho, hb⟩
  have HO := Lib.hid ho
  clear ho
  go_wp2_with fail
  go_ret
  exact ⟨A', c', rfl, HO.out, hb⟩

/-! ### the values of columns -/
def pickOk (n : Nat) (cs : List Int) : Bool := cs.all fun c => decide (0 ≤ c) && decide (c < n)
def gvZ : GV := ⟨0, 0, ⟨#[]⟩⟩
def pickV (t : List GV) (cs : List Int) : List GV := cs.map fun c => t.getD c.toNat gvZ
def pickE (n : Nat) (cs : List Int) : Int := if pickOk n cs = true then (if 6 < cs.length then 6 else 0) else 1
def pickL (t : List GV) (cs : List Int) : List GV := if pickE t.length cs = 0 then pickV t cs else []
theorem pickOk_false {n : Nat} {cs : List Int} {c : Int} (hm : c ∈ cs) (h : ¬ (0 ≤ c ∧ c < n)) : pickOk n cs = false := by
  rw [pickOk, List.all_eq_false]; exact ⟨c, hm, by simpa using h⟩
theorem pickOk_true {n : Nat} {cs : List Int} (h : ∀ c ∈ cs, 0 ≤ c ∧ c < n) : pickOk n cs = true := by
  rw [pickOk, List.all_eq_true]; intro c hc; simpa using h c hc
theorem pickE_no {n : Nat} {cs : List Int} (h : pickOk n cs = false) : pickE n cs = 1 := by simp [pickE, h]
theorem pickE_long {n : Nat} {cs : List Int} (h : pickOk n cs = true) (h6 : 6 < cs.length) : pickE n cs = 6 := by simp [pickE, h, h6]
theorem pickE_ok {n : Nat} {cs : List Int} (h : pickOk n cs = true) (h6 : ¬ 6 < cs.length) : pickE n cs = 0 := by simp [pickE, h, h6]
theorem pickV_ok {t : List GV} (ht : ∀ x ∈ t, x.ok) (cs : List Int) : ∀ x ∈ pickV t cs, x.ok := by
  intro x hx
  obtain ⟨c, -, rfl⟩ := List.mem_map.1 hx
  rw [List.getD_eq_getElem?_getD]
  cases h : t[c.toNat]? with
  | none => exact GV.ok_zero
  | some y => exact ht y (List.mem_of_getElem? h)
theorem pickV_take {t : List GV} {cs : List Int} {k : Nat} {c : Int} {x : GV} (hc : cs[k]? = some c) (hx : t[c.toNat]? = some x) : pickV t (cs.take (k + 1)) = pickV t (cs.take k) ++ [x] := by
  rw [List.take_add_one, hc]; simp [pickV, List.getD_eq_getElem?_getD, hx]
def PickR (pl : List GV) (pe : Int) (w : World) (e : Ending) (w' : World) : Prop := ∃ A c, e = .returned (.tuple #[.slice A pl.length c, errV 45 pe]) ∧ TupOwn w' w.heap.size (.slice A pl.length c) pl ∧ Below w.heap.size w w'
theorem PickR.no {pe : Int} (hpe : pe ≠ 0) {w w' : World} (h : Below w.heap.size w w') : PickR [] pe w (.returned (.tuple #[.slice none 0 0, .iface 45 (.int .i64 pe)])) w' :=
  ⟨none, 0, by simp [errV, hpe], World.ownsRow_nil _ _ _ _, h⟩

theorem take_set3 (xs : List Value) (k : Nat) (a b c : Value) (h : k * 3 + 3 ≤ xs.length) : (((xs.set (k * 3) a).set (k * 3 + 1) b).set (k * 3 + 2) c).take ((k + 1) * 3) = xs.take (k * 3) ++ [a, b, c] := by
  apply List.ext_getElem?
  intro i
  simp only [List.getElem?_take, List.getElem?_set, List.length_set, List.getElem?_append, List.length_take]
  rcases Nat.lt_or_ge i (k * 3) with h1 | h1
  · rw [if_pos (by omega), if_neg (by omega), if_neg (by omega), if_neg (by omega), if_pos (by omega), if_pos h1]
  · have e1 : min (k * 3) xs.length = k * 3 := by omega
    rw [e1, if_neg (show ¬ i < k * 3 by omega)]
    rcases Nat.lt_or_ge i (k * 3 + 3) with h2 | h2
    · have h3 : i = k * 3 ∨ i = k * 3 + 1 ∨ i = k * 3 + 2 := by omega
      rcases h3 with rfl | rfl | rfl
      · rw [if_pos (by omega), if_neg (by omega), if_neg (by omega), if_pos rfl, if_pos (by omega)]; simp
      · rw [if_pos (by omega), if_neg (by omega), if_pos rfl, if_pos (by omega)]; simp
      · rw [if_pos (by omega), if_pos rfl, if_pos (by omega)]; simp
    · rw [if_neg (by omega), List.getElem?_eq_none (by simp; omega)]

set_option maxRecDepth 100000 in
set_option maxHeartbeats 2000000 in
theorem pick_any (A B : Option Addr) (n c m d : Nat) (t : List GV) (cs : List Int) (w : World) (ht : SliceIs Enc.val w w.heap.size A n c t) (hc : SliceIs Enc.int w w.heap.size B m d cs) :
    Calls Try.prog 51 #[.slice A n c, .slice B m d] w (PickR (pickL t cs) (pickE t.length cs) w) := by
  have hn := ht.bound
  have hm := hc.bound
  have htl := Lib.hid ht.1
  have hcl := Lib.hid hc.1
  have HT := Lib.hid ht
  have HC := Lib.hid hc
  have hno : pickOk n cs = false → pickE t.length cs = 1 ∧ pickL t cs = [] := by
    intro h; rw [← htl.out] at h; have := pickE_no h; exact ⟨this, by simp [pickL, this]⟩
  have hlong : pickOk n cs = true → 6 < m → pickE t.length cs = 6 ∧ pickL t cs = [] := by
    intro h h6; rw [← htl.out] at h; have := pickE_long h (by rw [hcl.out]; exact h6); exact ⟨this, by simp [pickL, this]⟩
  have hyes : pickOk n cs = true → ¬ 6 < m → pickE t.length cs = 0 ∧ pickL t cs = pickV t cs := by
    intro h h6; rw [← htl.out] at h; have := pickE_ok h (by rw [hcl.out]; exact h6); exact ⟨this, by simp [pickL, this]⟩
  have Hno := Lib.hid hno
  have Hlong := Lib.hid hlong
  have Hyes := Lib.hid hyes
  generalize pickE t.length cs = pe at Hno Hlong Hyes ⊢
  generalize pickL t cs = pl at Hno Hlong Hyes ⊢
  clear hno hlong hyes ht hc
  go_enter Try.func51, Try.ntmps51
  go_wp2_with fail
  go_loop [7, 13] (fun _ i => ∃ k : Nat, k ≤ m ∧ i = .int .i64 k ∧ Hid (∀ y ∈ cs.take k, 0 ≤ y ∧ y < n)) (fun _ i => m - (intOf i).toNat)
  case atStart => exact ⟨0, by omega, rfl, fun y hy => by simp at hy⟩
  case round =>
    obtain ⟨k, hk, rfl, hpre⟩ := hrel
    have i0 : (0 : Int) ≤ (k : Int) := by omega
    by_cases hlt : k < m
    · have i1 : (k : Int) < (m : Int) := by omega
      obtain ⟨b, o, x, rfl, _, hx, x1, -⟩ := HC.out.int_at hlt
      by_cases hx0 : x < 0
      · obtain ⟨rfl, rfl⟩ := Hno.out (pickOk_false (List.mem_of_getElem? hx.out) (by omega))
        clear hpre hx Hlong Hyes
        go_wp2_with fail
        go_ret2
        exact PickR.no (by decide) (Below.refl _ _)
      · by_cases hxn : (n : Int) ≤ x
        · obtain ⟨rfl, rfl⟩ := Hno.out (pickOk_false (List.mem_of_getElem? hx.out) (by omega))
          clear hpre hx Hlong Hyes
          go_wp2_with fail
          go_ret2
          exact PickR.no (by decide) (Below.refl _ _)
        · have HS : Hid (∀ y ∈ cs.take (k + 1), 0 ≤ y ∧ y < n) := by
            intro y hy
            rw [List.take_add_one, hx.out] at hy
            rcases List.mem_append.1 hy with hy | hy
            · exact hpre.out y hy
            · simp at hy; omega
          clear hpre hx
          go_wp2_with fail
          go_round
          case rel => exact ⟨k + 1, by omega, by go_num, HS.out⟩
          case measure => simp [intOf]; omega
    · have i1 : ¬ (k : Int) < (m : Int) := by omega
      have hok : Hid (∀ y ∈ cs, 0 ≤ y ∧ y < n) := by
        have := hpre.out
        rw [List.take_of_length_le (by have := hcl.out; omega)] at this
        exact this
      clear hpre
      by_cases h6 : 6 < m
      · obtain ⟨rfl, rfl⟩ := Hlong.out (pickOk_true hok.out) h6
        have i6 : (6 : Int) < (m : Int) := by omega
        clear Hno Hyes
        go_wp2_with fail
        go_ret2
        exact PickR.no (by decide) (Below.refl _ _)
      · obtain ⟨rfl, rfl⟩ := Hyes.out (pickOk_true hok.out) h6
        have i6 : ¬ (6 : Int) < (m : Int) := by omega
        clear Hno Hlong Hyes
        obtain ⟨ti, hi', hz, hs, hb⟩ := info_parts val_info
        obtain ⟨wm, hmk, hown, hgr⟩ := run_make_full (P := Try.prog) (w := w) w.heap.size 24 56 ti _ 3 Try.underlying24 hi' hz hs .i64 .i64 m (by rw [hb]; omega) (by simp [maxLen]; omega) (Nat.le_refl _)
        have hbm : Below w.heap.size w wm := (Below.refl _ w).grown hgr (Nat.le_refl _) (by intro k hk; cases hk)
        have HOwn := Lib.hid hown
        clear hown hgr hi' hz hs hb
        generalize hg : w.heap.size = g at HOwn hmk
        have Hg := Lib.hid hg
        have hgle : w.heap.size ≤ g := by omega
        clear hg
        go_wp2_with fail
        go_loopw [9, 10, 36] (fun _ _ i wr => ∃ k : Nat, ∃ xs : List Value, k ≤ m ∧ i = .int .i64 k ∧ Hid (wr.ownsRow g 56 3 (.slice (some ⟨g, 0, none⟩) m m) m xs) ∧ Hid (xs.take (k * 3) = (pickV t (cs.take k)).flatMap GV.cells) ∧ Below w.heap.size w wr) (fun _ _ i _ => m - (intOf i).toNat)
        case atStart => exact ⟨0, _, by omega, rfl, HOwn.out, rfl, hbm⟩
        case round =>
          obtain ⟨k, xs, hk, rfl, how, hxs, hbr⟩ := hrel
          have i0 : (0 : Int) ≤ (k : Int) := by omega
          by_cases hlt : k < m
          · have i1 : (k : Int) < (m : Int) := by omega
            obtain ⟨b, o, x, rfl, _, hx, x1, -⟩ := (HC.out.below hbr).int_at hlt
            have hxn := hok.out x (List.mem_of_getElem? hx.out)
            obtain ⟨j, rfl⟩ : ∃ j : Nat, x = (j : Int) := ⟨x.toNat, by omega⟩
            have hj : j < n := by omega
            obtain ⟨b', o', y, rfl, _, hy, y1, y2, y3, hyo⟩ := (HT.out.below hbr).val_at hj
            have hlen : xs.length = m * 3 := how.out.1
            have hv : ∀ q, q < 3 → ∃ v, wr.cell? ⟨g, k * 3 + q, none⟩ = some v := by
              intro q hq
              rw [how.out.cellAt (k * 3 + q) (by omega), List.getElem?_eq_getElem (by omega)]
              exact ⟨_, rfl⟩
            obtain ⟨v0, c0⟩ := hv 0 (by omega)
            obtain ⟨v1, c1⟩ := hv 1 (by omega)
            obtain ⟨v2, c2⟩ := hv 2 (by omega)
            rw [Nat.add_zero] at c0
            have f0 := how.out.frozenAt (k * 3)
            have f1 := how.out.frozenAt (k * 3 + 1)
            have f2 := how.out.frozenAt (k * 3 + 2)
            have HS : Hid (((((xs.set (k * 3) (.int .i64 y.k)).set (k * 3 + 1) (.int .i64 y.n)).set (k * 3 + 2) (.string y.s)).take ((k + 1) * 3)) = (pickV t (cs.take (k + 1))).flatMap GV.cells) := by
              show _ = _
              rw [take_set3 _ _ _ _ _ (by omega), hxs.out, pickV_take hx.out (by rw [Int.toNat_natCast]; exact hy.out)]
              simp [GV.cells]
            have HO3 : Hid ((((wr.setCell ⟨g, k * 3, none⟩ (.int .i64 y.k)).setCell ⟨g, k * 3 + 1, none⟩ (.int .i64 y.n)).setCell ⟨g, k * 3 + 2, none⟩ (.string y.s)).ownsRow g 56 3 (.slice (some ⟨g, 0, none⟩) m m) m (((xs.set (k * 3) (.int .i64 y.k)).set (k * 3 + 1) (.int .i64 y.n)).set (k * 3 + 2) (.string y.s))) :=
              (((how.out.stored (k * 3) _).1.stored (k * 3 + 1) _).1.stored (k * 3 + 2) _).1
            clear hv hlen hxs hxn hx hy hyo
            go_wp2_with fail
            go_roundw
            case rel => exact ⟨k + 1, _, by omega, by go_num, HO3.out, HS.out, (((hbr.setCell hgle _).setCell hgle _).setCell hgle _)⟩
            case measure => simp [intOf]; omega
          · have i1 : ¬ (k : Int) < (m : Int) := by omega
            have hend : xs = (pickV t cs).flatMap GV.cells := by
              have h1 := hxs.out
              rw [List.take_of_length_le (by rw [how.out.1]; omega), List.take_of_length_le (l := cs) (by have := hcl.out; omega)] at h1
              exact h1
            have hlv : (pickV t cs).length = m := by rw [pickV, List.length_map]; exact hcl.out
            have hO : TupOwn wr w.heap.size (.slice (some ⟨g, 0, none⟩) m m) (pickV t cs) := by
              unfold TupOwn
              rw [hlv, ← hend, Hg.out]; exact how.out
            have HO := Lib.hid hO
            have Hlv := Lib.hid hlv
            clear hend hlv hO how hxs hmk
            go_wp2_with fail
            go_ret2
            exact ⟨some ⟨g, 0, none⟩, m, by rw [Hlv.out]; rfl, by rw [Hlv.out]; exact HO.out, hbr⟩

def PickRR (pl : List GV) (pe : Int) (w : World) (e : Ending) (w' : World) : Prop := ∃ A c, e = .returned (.tuple #[.slice A pl.length c, .int .i64 pe]) ∧ TupOwn w' w.heap.size (.slice A pl.length c) pl ∧ Below w.heap.size w w'
theorem PickRR.no {pe : Int} {w w' : World} (h : Below w.heap.size w w') : PickRR [] pe w (.returned (.tuple #[.slice none 0 0, .int .i64 pe])) w' :=
  ⟨none, 0, rfl, World.ownsRow_nil _ _ _ _, h⟩

theorem pick_push {w W : World} {v : Value} {n : Nat} {xs : List Value} (x : GV) (hn : n ≤ 1000000) (hb : Below w.heap.size w W) (hown : W.ownsRow w.heap.size 56 3 v n xs) :
    ∃ v' w', (∀ ty, (Builtin.append_ #[24, 24] ty #[v, .slice (some ⟨W.heap.size, 0, none⟩) 1 1]).run Try.prog (W.alloc (.cells #[.int .i64 x.k, .int .i64 x.n, .string x.s] 56)) = .ok v' w') ∧
      w'.ownsRow w.heap.size 56 3 v' (n + 1) (xs ++ x.cells) ∧ Below w.heap.size w w' := by
  obtain ⟨v', w', h1, h2, h3⟩ := run_push (P := Try.prog) W W.heap.size rfl (base := w.heap.size) (t := 24) (ty := 24) Try.underlying24 val_info rfl (by decide) hown x.cells rfl (val_one x)
    (by simp [maxLen]; omega) (by omega) hb.size
  exact ⟨v', w', fun _ => h1, h2, hb.trans h3⟩

set_option maxRecDepth 100000 in
set_option maxHeartbeats 2000000 in
theorem refPick_any (A B : Option Addr) (n c m d : Nat) (t : List GV) (cs : List Int) (w : World) (ht : SliceIs Enc.val w w.heap.size A n c t) (hc : SliceIs Enc.int w w.heap.size B m d cs) (hm6 : m ≤ 1000000) :
    Calls Try.prog 52 #[.slice A n c, .slice B m d] w (PickRR (pickL t cs) (pickE t.length cs) w) := by
  have hn := ht.bound
  have htl := Lib.hid ht.1
  have hcl := Lib.hid hc.1
  have HT := Lib.hid ht
  have HC := Lib.hid hc
  have hno : pickOk n cs = false → pickE t.length cs = 1 ∧ pickL t cs = [] := by
    intro h; rw [← htl.out] at h; have := pickE_no h; exact ⟨this, by simp [pickL, this]⟩
  have hlong : pickOk n cs = true → 6 < m → pickE t.length cs = 6 ∧ pickL t cs = [] := by
    intro h h6; rw [← htl.out] at h; have := pickE_long h (by rw [hcl.out]; exact h6); exact ⟨this, by simp [pickL, this]⟩
  have hyes : pickOk n cs = true → ¬ 6 < m → pickE t.length cs = 0 ∧ pickL t cs = pickV t cs := by
    intro h h6; rw [← htl.out] at h; have := pickE_ok h (by rw [hcl.out]; exact h6); exact ⟨this, by simp [pickL, this]⟩
  have Hno := Lib.hid hno
  have Hlong := Lib.hid hlong
  have Hyes := Lib.hid hyes
  generalize pickE t.length cs = pe at Hno Hlong Hyes ⊢
  generalize pickL t cs = pl at Hno Hlong Hyes ⊢
  clear hno hlong hyes ht hc
  go_enter Try.func52, Try.ntmps52
  go_wp2_with fail
  go_loopw [6, 7] (fun v i wr => ∃ k A' c', k ≤ m ∧ v = .slice A' k c' ∧ i = .int .i64 k ∧ Hid (∀ y ∈ cs.take k, 0 ≤ y ∧ y < n) ∧ Hid (wr.ownsRow w.heap.size 56 3 (.slice A' k c') k ((pickV t (cs.take k)).flatMap GV.cells)) ∧ Below w.heap.size w wr) (fun _ i _ => m - (intOf i).toNat)
  case atStart => exact ⟨0, none, 0, by omega, rfl, rfl, fun y hy => by simp at hy, World.ownsRow_nil _ _ _ _, Below.refl _ _⟩
  case round =>
    obtain ⟨k, A', c', hk, rfl, rfl, hpre, how, hbr⟩ := hrel
    have i0 : (0 : Int) ≤ (k : Int) := by omega
    by_cases hlt : k < m
    · have i1 : (k : Int) < (m : Int) := by omega
      obtain ⟨b, o, x, rfl, _, hx, x1, -⟩ := (HC.out.below hbr).int_at hlt
      by_cases hx0 : x < 0
      · obtain ⟨rfl, rfl⟩ := Hno.out (pickOk_false (List.mem_of_getElem? hx.out) (by omega))
        clear hpre hx Hlong Hyes how
        go_wp2_with fail
        go_ret2
        exact PickRR.no hbr
      · by_cases hxn : (n : Int) ≤ x
        · obtain ⟨rfl, rfl⟩ := Hno.out (pickOk_false (List.mem_of_getElem? hx.out) (by omega))
          clear hpre hx Hlong Hyes how
          go_wp2_with fail
          go_ret2
          exact PickRR.no hbr
        · have HS : Hid (∀ y ∈ cs.take (k + 1), 0 ≤ y ∧ y < n) := by
            intro y hy
            rw [List.take_add_one, hx.out] at hy
            rcases List.mem_append.1 hy with hy | hy
            · exact hpre.out y hy
            · simp at hy; omega
          obtain ⟨j, rfl⟩ : ∃ j : Nat, x = (j : Int) := ⟨x.toNat, by omega⟩
          have hj : j < n := by omega
          obtain ⟨b', o', y, rfl, _, hy, y1, y2, y3, hyo⟩ := (HT.out.below hbr).val_at hj
          obtain ⟨v', w', hrun, hown', hb'⟩ := pick_push y (by omega) hbr how.out
          obtain ⟨A2, c2, rfl⟩ := own_form hown'
          have hrow : Hid (w'.ownsRow w.heap.size 56 3 (.slice A2 (k + 1) c2) (k + 1) ((pickV t (cs.take (k + 1))).flatMap GV.cells)) := by
            show World.ownsRow _ _ _ _ _ _ _
            rw [pickV_take hx.out (by rw [Int.toNat_natCast]; exact hy.out)]
            simpa using hown'
          have HRun := Lib.hid hrun
          clear hpre hx hrun hown' how hy hyo
          go_wp2_with (at_builtin; refine wpList_append_run rfl _ _ _ rfl _ _ rfl rfl (HRun.out _) ?_)
          go_roundw
          case rel => exact ⟨k + 1, A2, c2, by omega, rfl, by go_num, HS.out, hrow.out, hb'⟩
          case measure => simp [intOf]; omega
    · have i1 : ¬ (k : Int) < (m : Int) := by omega
      obtain rfl : k = m := by omega
      have hok : Hid (∀ y ∈ cs, 0 ≤ y ∧ y < n) := by
        have := hpre.out
        rw [List.take_of_length_le (by have := hcl.out; omega)] at this
        exact this
      clear hpre
      by_cases h6 : 6 < k
      · obtain ⟨rfl, rfl⟩ := Hlong.out (pickOk_true hok.out) h6
        have i6 : (6 : Int) < (k : Int) := by omega
        clear Hno Hyes
        go_wp2_with fail
        go_ret2
        exact PickRR.no hbr
      · obtain ⟨rfl, rfl⟩ := Hyes.out (pickOk_true hok.out) h6
        have i6 : ¬ (6 : Int) < (k : Int) := by omega
        have hlv : (pickV t cs).length = k := by rw [pickV, List.length_map]; exact hcl.out
        have hO : TupOwn wr w.heap.size (.slice A' k c') (pickV t cs) := by
          unfold TupOwn
          have h1 := how.out
          rw [List.take_of_length_le (l := cs) (by have := hcl.out; omega)] at h1
          rw [hlv]; exact h1
        have HO := Lib.hid hO
        have Hlv := Lib.hid hlv
        clear hlv hO how Hno Hlong Hyes
        go_wp2_with fail
        go_ret2
        exact ⟨A', c', by rw [Hlv.out]; rfl, by rw [Hlv.out]; exact HO.out, hbr⟩
end Go.Proofs.Ytgomfmfaoeojkaa
