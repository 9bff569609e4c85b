/- slices.DeleteFunc over Free's closure. -/
import Derived.Test.YtggbfpjpkfhaeaaPut
import Derived.Test.YtggbfpjpkfhaeaaFree
import Derived.Test.YtggbfpjpkfhaeaaIn
import Derived.Lib.SliceRun
namespace Go.Proofs.Ytggbfpjpkfhaeaa
open Go.RowKit

def IdxSame (b : Bool) (w : World) (e : Ending) (w' : World) : Prop := ∃ k : Int, e = .returned (.int .i64 k) ∧ decide (0 ≤ k) = b ∧ w' = w

set_option maxRecDepth 100000 in
set_option maxHeartbeats 400000 in
theorem index_at (A : Option Addr) (n c : Nat) (l : List ByteArray) (s : ByteArray) (w : World) (hl : SliceIs Enc.str w w.heap.size A n c l) :
    Calls Try.prog 56 #[.slice A n c, .string s] w (IdxSame (decide (s ∈ l)) w) := by
  have hn := hl.bound
  have hlen := Lib.hid hl.1
  go_enter Try.func56, Try.ntmps56
  go_wp2
  go_loop [5, 8] (fun _ i => ∃ k : Nat, k ≤ n ∧ i = .int .i64 k ∧ Hid (s ∉ l.take k)) (fun _ i => n - (intOf i).toNat)
  case atStart => exact ⟨0, by omega, rfl, by simp [Hid]⟩
  case round =>
    obtain ⟨k, hk, rfl, hpre⟩ := hrel
    by_cases hlt : k < n
    · obtain ⟨b, o, x, rfl, _, hx, hc, hs⟩ := hl.str_at hlt
      have i0 : (0 : Int) ≤ (k : Int) := by omega
      have i1 : (k : Int) < (n : Int) := by omega
      have hb := World.block_lt_of_cell? w _ hc
      clear hl
      by_cases h1 : x = s
      · have h1' : (s.toList == x.toList) = true := by simp [h1]
        have HR : Hid (decide (s ∈ l) = true) := by show decide (s ∈ l) = true; rw [← h1]; simpa using List.mem_of_getElem? hx.out
        clear h1
        go_wp2
        go_ret
        exact ⟨_, rfl, by rw [HR.out]; simp, rfl⟩
      · have h1' : (s.toList == x.toList) = false := by simp [toList_inj, Ne.symm h1]
        have HN : Hid (s ∉ l.take (k + 1)) := by
          show ¬ _
          rw [mem_take_succ hx.out]; intro h; rcases h with h | h
          · exact hpre.out h
          · exact h1 h
        clear h1
        go_wp2
        go_round
        case rel => exact ⟨k + 1, by omega, by go_num, HN⟩
        case measure => simp [intOf]; omega
    · have HR : Hid (decide (s ∈ l) = false) := by
        show decide (s ∈ l) = false
        have h := hpre.out
        rw [List.take_of_length_le (by have := hlen.out; omega)] at h
        simpa using h
      have i1 : ¬ (k : Int) < (n : Int) := by omega
      go_wp2
      go_ret
      exact ⟨_, rfl, by rw [HR.out]; rfl, rfl⟩

set_option maxRecDepth 100000 in
theorem contains_at (A : Option Addr) (n c : Nat) (l : List ByteArray) (s : ByteArray) (w : World) (hl : SliceIs Enc.str w w.heap.size A n c l) :
    Calls Try.prog 42 #[.slice A n c, .string s] w (fun e w' => e = .returned (.bool (decide (s ∈ l))) ∧ w' = w) := by
  have hi := Lib.hid (index_at A n c l s w hl)
  clear hl
  go_enter Try.func42, Try.ntmps42
  go_wp2_with fail
  refine hi.out.mono ?_
  rintro e w1 ⟨k, rfl, hk, rfl⟩
  have Hk := Lib.hid hk
  clear hk
  go_wp2_with fail
  go_ret
  exact ⟨by rw [← Hk.out]; rfl, rfl⟩

/-- what the closure is told, and where: the variables in a box -/
structure Cap (B g : Nat) (A : Option Addr) (n c : Nat) (vars : List ByteArray) (w : World) : Prop where
  box : w.cell? ⟨g, 0, none⟩ = some (.slice A n c)
  lt : g < B
  row : SliceIs Enc.str w B A n c vars
theorem Cap.on {B g : Nat} {A : Option Addr} {n c : Nat} {vars : List ByteArray} {w w' : World} (h : Cap B g A n c vars w) (hb : Below B w w') : Cap B g A n c vars w' :=
  ⟨(hb.cell (p := ⟨g, 0, none⟩) h.lt).trans h.box, h.lt, h.row.below hb⟩

set_option maxRecDepth 100000 in
theorem free1_at (B g : Nat) (A : Option Addr) (n c : Nat) (vars : List ByteArray) (s : ByteArray) (w : World) (hB : B ≤ w.heap.size) (h : Cap B g A n c vars w) :
    Calls Try.prog 45 #[.string s, .pointer (some ⟨g, 0, none⟩)] w (fun e w' => e = .returned (.bool (decide (s ∈ vars))) ∧ w' = w) := by
  have hi := Lib.hid (contains_at A n c vars s w (h.row.mono hB (fun _ _ => rfl)))
  have hc := h.box
  clear h
  go_enter Try.func45, Try.ntmps45
  go_wp2_with (go_at_call 42; refine hi.out.mono ?_; rintro e w1 ⟨rfl, rfl⟩)
  go_ret
  exact ⟨rfl, rfl⟩

/-- the first that is told -/
def FirstAt (vars L : List ByteArray) (w : World) (e : Ending) (w' : World) : Prop := w' = w ∧ ((e = .returned (.int .i64 (-1)) ∧ ∀ x ∈ L, x ∉ vars) ∨ ∃ (k : Nat) (x : ByteArray), e = .returned (.int .i64 k) ∧ L[k]? = some x ∧ x ∈ vars ∧ ∀ y ∈ L.take k, y ∉ vars)

set_option maxRecDepth 100000 in
set_option maxHeartbeats 1000000 in
theorem indexFunc_at (B g : Nat) (A1 : Option Addr) (n1 c1 : Nat) (vars : List ByteArray) (A : Option Addr) (n c : Nat) (L : List ByteArray) (w : World) (hB : B ≤ w.heap.size) (h : Cap B g A1 n1 c1 vars w) (hl : SliceIs Enc.str w w.heap.size A n c L) :
    Calls Try.prog 57 #[.slice A n c, .func (.func 45) #[] #[.pointer (some ⟨g, 0, none⟩)]] w (FirstAt vars L w) := by
  have hn := hl.bound
  have hlen := Lib.hid hl.1
  have HC := Lib.hid (fun s => free1_at B g A1 n1 c1 vars s w hB h)
  clear h
  go_enter Try.func57, Try.ntmps57
  go_wp2_with fail
  go_loop [5, 8] (fun _ i => ∃ k : Nat, k ≤ n ∧ i = .int .i64 k ∧ Hid (∀ y ∈ L.take k, y ∉ vars)) (fun _ i => n - (intOf i).toNat)
  case atStart => exact ⟨0, by omega, rfl, fun y hy => by simp at hy⟩
  case round =>
    obtain ⟨k, hk, rfl, hpre⟩ := hrel
    by_cases hlt : k < n
    · obtain ⟨b, o, x, rfl, _, hx, hc, hs⟩ := hl.str_at hlt
      have i0 : (0 : Int) ≤ (k : Int) := by omega
      have i1 : (k : Int) < (n : Int) := by omega
      clear hl
      cases hm : decide (x ∈ vars) with
      | true =>
        have HM := Lib.hid hm
        clear hm
        go_wp2_with (go_at_call 45; refine (HC.out _).mono ?_; rw [HM.out]; rintro e w1 ⟨rfl, rfl⟩)
        go_ret
        exact ⟨rfl, .inr ⟨k, x, rfl, hx.out, by simpa using HM.out, hpre.out⟩⟩
      | false =>
        have HM := Lib.hid hm
        clear hm
        go_wp2_with (go_at_call 45; refine (HC.out _).mono ?_; rw [HM.out]; rintro e w1 ⟨rfl, rfl⟩)
        go_round
        case rel =>
          refine ⟨k + 1, by omega, by go_num, fun y hy => ?_⟩
          rw [mem_take_succ hx.out] at hy
          rcases hy with hy | rfl
          · exact hpre.out y hy
          · simpa using HM.out
        case measure => simp [intOf]; omega
    · have i1 : ¬ (k : Int) < (n : Int) := by omega
      go_wp2_with fail
      go_ret
      refine ⟨rfl, .inl ⟨rfl, fun x hx => hpre.out x ?_⟩⟩
      rw [List.take_of_length_le (by have := hlen.out; omega)]
      exact hx

theorem below_setCells (B g : Nat) (hg : B ≤ g) : ∀ (vs : List Value) (o : Nat) (w : World), Below B w (w.setCells g o vs)
  | [], _, w => Below.refl _ _
  | v :: vs, o, w => ((Below.refl B w).setCell (p := ⟨g, o, none⟩) hg v).trans (below_setCells B g hg vs (o + 1) _)

def notIn (vars : List ByteArray) (L : List ByteArray) : List ByteArray := L.filter fun s => !decide (s ∈ vars)
theorem notIn_take {vars L : List ByteArray} {k : Nat} {x : ByteArray} (hx : L[k]? = some x) : notIn vars (L.take (k + 1)) = if x ∈ vars then notIn vars (L.take k) else notIn vars (L.take k) ++ [x] := by
  rw [List.take_add_one, hx]
  by_cases h : x ∈ vars <;> simp [notIn, h]
theorem notIn_all {vars L : List ByteArray} (h : ∀ y ∈ L, y ∉ vars) : notIn vars L = L := by
  unfold notIn; rw [List.filter_eq_self]; intro a ha; simpa using h a ha

theorem flat_strC (L : List ByteArray) : L.flatMap strC = L.map Value.string := by
  induction L with
  | nil => rfl
  | cons a l ih => simp only [List.flatMap_cons, List.map_cons, ih]; rfl

/-- the row while it is rewritten: i kept so far of the first j; the rest as it was -/
structure Rew (vars L : List ByteArray) (g cap i j : Nat) (R : List Value) (w : World) : Prop where
  heap : w.heap[g]? = some (.cells R.toArray 9 (0, 0))
  size : R.length = cap
  kept : R.take i = (notIn vars (L.take j)).map Value.string
  num : (notIn vars (L.take j)).length = i
  high : ∀ t x, j ≤ t → L[t]? = some x → R[t]? = some (.string x)
  lt : i < j

theorem Rew.cell {vars L : List ByteArray} {g cap i j t : Nat} {R : List Value} {w : World} (h : Rew vars L g cap i j R w) {v : Value} (hv : R[t]? = some v) : w.cell? ⟨g, t, none⟩ = some v := by
  rw [cell_of_row _ _ t _ _ _ h.heap]; simpa using hv
theorem Rew.frozen {vars L : List ByteArray} {g cap i j t : Nat} {R : List Value} {w : World} (h : Rew vars L g cap i j R w) : w.frozen? ⟨g, t, none⟩ = false := by
  simp [World.frozen?, h.heap]
theorem Rew.skip {vars L : List ByteArray} {g cap i j : Nat} {R : List Value} {w : World} (h : Rew vars L g cap i j R w) {x : ByteArray} (hx : L[j]? = some x) (hm : x ∈ vars) : Rew vars L g cap i (j + 1) R w :=
  ⟨h.heap, h.size, by rw [notIn_take hx, if_pos hm]; exact h.kept, by rw [notIn_take hx, if_pos hm]; exact h.num, fun t y ht hy => h.high t y (by omega) hy, by have := h.lt; omega⟩
theorem Rew.keep {vars L : List ByteArray} {g cap i j : Nat} {R : List Value} {w : World} (h : Rew vars L g cap i j R w) {x : ByteArray} (hx : L[j]? = some x) (hm : x ∉ vars) (hi : i < cap) : Rew vars L g cap (i + 1) (j + 1) (R.set i (.string x)) (w.setCell ⟨g, i, none⟩ (.string x)) := by
  have hlt := h.lt
  have hs := h.size
  refine ⟨by simp [World.setCell, Array.getElem?_modify, h.heap], by simpa using hs, ?_, by rw [notIn_take hx, if_neg hm]; simp [h.num], fun t y ht hy => ?_, by omega⟩
  · rw [notIn_take hx, if_neg hm, List.map_append, ← h.kept, List.take_add_one]
    rw [List.take_set_of_le (by omega), List.getElem?_set_self (by omega)]
    rfl
  · rw [List.getElem?_set_ne (by omega)]
    exact h.high t y (by omega) hy

set_option maxRecDepth 100000 in
set_option maxHeartbeats 2000000 in
theorem deleteFunc_any (B g : Nat) (A1 : Option Addr) (n1 c1 : Nat) (vars : List ByteArray) (A : Option Addr) (n c : Nat) (L : List ByteArray) (w : World) (hB : B ≤ w.heap.size) (h : Cap B g A1 n1 c1 vars w)
    (hl : SliceIs Enc.str w w.heap.size A n c L) (hown : w.ownsRow B 9 1 (.slice A n c) n (L.flatMap strC)) (hn2 : n ≤ 1000) :
    Calls Try.prog 44 #[.slice A n c, .func (.func 45) #[] #[.pointer (some ⟨g, 0, none⟩)]] w (fun e w' => ∃ A' m c', e = .returned (.slice A' m c') ∧ SliceIs Enc.str w' w'.heap.size A' m c' (notIn vars L) ∧ Below B w w') := by
  have hlen := Lib.hid hl.1
  have HI := Lib.hid (indexFunc_at B g A1 n1 c1 vars A n c L w hB h hl)
  have HC := Lib.hid (fun s W (hb : Below B w W) => free1_at B g A1 n1 c1 vars s W (Nat.le_trans hB hb.size) (h.on hb))
  have HL := Lib.hid hl
  have Hown := Lib.hid hown
  have Hsz : Hid (∀ s ∈ L, s.size ≤ reachN) := fun s hs => by
    obtain ⟨i, hi, rfl⟩ := List.mem_iff_getElem.1 hs
    obtain ⟨b, o, x, _, _, hx, _, hz⟩ := hl.str_at (i := i) (by rw [← hl.1]; exact hi)
    have e : L[i] = x := by have := hx.out; rw [List.getElem?_eq_getElem hi] at this; simpa using this
    rw [e]; exact hz
  clear h hl hown
  go_enter Try.func44, Try.ntmps44
  go_wp2_with fail
  refine HI.out.mono ?_
  rintro e w1 ⟨rfl, (⟨rfl, hall⟩ | ⟨k, x, rfl, hx, hxv, hbef⟩)⟩
  · have Hall := Lib.hid hall
    clear hall
    go_wp2_with fail
    go_ret
    exact ⟨A, n, c, rfl, by rw [notIn_all Hall.out]; exact HL.out, Below.refl _ _⟩
  · have hkn : k < n := by have := (List.getElem?_eq_some_iff.1 hx).1; have := hlen.out; omega
    have hk1 : ((k : Int) == -1) = false := beq_eq_false_iff_ne.2 (by omega)
    obtain ⟨hz, hrow⟩ := Hown.out
    rcases hrow with ⟨hv, h0⟩ | ⟨gr, cap, cur, hv, hg, hh, hnc, hcm, hcs, htk⟩
    · omega
    · simp only [Value.slice.injEq] at hv
      obtain ⟨rfl, -, rfl⟩ := hv
      have hR : Rew vars L gr c k (k + 1) cur.toList w1 := by
        have hkeep : notIn vars (L.take k) = L.take k := notIn_all hbef
        have hL := hlen.out
        rw [flat_strC] at htk
        have hlk : (L.take k).length = k := by simp; omega
        refine ⟨by simpa using hh, by simpa using hcs, ?_, ?_, fun t y ht hy => ?_, by omega⟩
        · rw [notIn_take hx, if_pos hxv, hkeep, List.map_take, ← htk, List.take_take]
          congr 1; omega
        · rw [notIn_take hx, if_pos hxv, hkeep, hlk]
        · have ht : t < n := by have := (List.getElem?_eq_some_iff.1 hy).1; omega
          have e2 : (cur.toList.take (n * 1))[t]? = (L.map Value.string)[t]? := by rw [htk]
          rw [List.getElem?_take_of_lt (by omega), List.getElem?_map, hy] at e2
          exact e2
      have HR := Lib.hid hR
      clear hR hx hxv hbef htk hz
      go_wp2_with fail
      go_loopw [5, 6, 7] (fun vi vj _ wr => ∃ (i j : Nat) (R : List Value), vi = .int .i64 i ∧ vj = .int .i64 j ∧ j ≤ n ∧ Rew vars L gr c i j R wr ∧ Below B w1 wr) (fun _ vj _ _ => n - (intOf vj).toNat)
      case atStart => exact ⟨k, k + 1, _, rfl, by go_num, by omega, HR.out, Below.refl _ _⟩
      case round =>
        obtain ⟨i, j, R, rfl, rfl, hjn, hR, hbr⟩ := hrel
        have hij := hR.lt
        have HR2 := Lib.hid hR
        have HB2 := Lib.hid hbr
        by_cases hlt : j < n
        · obtain ⟨x, hx⟩ : ∃ x, L[j]? = some x := ⟨_, List.getElem?_eq_getElem (by have := hlen.out; omega)⟩
          have hcx := hR.cell (hR.high j x (Nat.le_refl _) hx)
          have hRi : i < R.length := by have := hR.size; omega
          have hci := hR.cell (List.getElem?_eq_getElem hRi)
          have hfi := hR.frozen (t := i)
          generalize R[i] = old at hci
          have i0 : (0 : Int) ≤ (j : Int) := by omega
          have i1 : (j : Int) < (n : Int) := by omega
          have i2 : (0 : Int) ≤ (i : Int) := by omega
          have i3 : (i : Int) < (n : Int) := by omega
          have HX := Lib.hid hx
          have hcall := HC.out x wr hbr
          clear hR hbr hx
          cases hm : decide (x ∈ vars) with
          | true =>
            have HM := Lib.hid hm
            rw [hm] at hcall
            clear hm
            go_wp2_with (go_at_call 45; refine hcall.mono ?_; rintro e w2 ⟨rfl, rfl⟩)
            go_roundw
            case rel => exact ⟨i, j + 1, R, rfl, by go_num, by omega, HR2.out.skip HX.out (by simpa using HM.out), HB2.out⟩
            case measure => simp [intOf]; omega
          | false =>
            have HM := Lib.hid hm
            rw [hm] at hcall
            clear hm
            go_wp2_with (go_at_call 45; refine hcall.mono ?_; rintro e w2 ⟨rfl, rfl⟩)
            go_roundw
            case rel => exact ⟨i + 1, j + 1, R.set i (.string x), by go_num, by go_num, by omega, HR2.out.keep HX.out (by simpa using HM.out) (by omega), HB2.out.setCell (p := ⟨gr, i, none⟩) hg _⟩
            case measure => simp [intOf]; omega
        · obtain rfl : j = n := by omega
          have hRs := hR.size
          have hcl : ∀ ty, (Builtin.clear_ #[22] ty #[.slice (some ⟨gr, i, none⟩) (j - i) (c - i)]).run Try.prog wr = .ok (.tuple #[]) (wr.setCells gr i (List.replicate (j - i) (.string ⟨#[]⟩))) :=
            fun ty => Lib.run_clear_slice wr 22 9 ty (.string ⟨#[]⟩) Try.underlying22 (fun w => by kernel_rfl) rfl rfl gr i _ _ (by omega)
              (fun t ht => by
                have h1 : i + t < R.length := by omega
                rw [hR.cell (List.getElem?_eq_getElem h1)]; rfl)
              (fun t ht => hR.frozen)
          have i0 : (0 : Int) ≤ (i : Int) := by omega
          have i1 : (i : Int) ≤ (j : Int) := by omega
          have i2 : (i : Int) ≤ (c : Int) := by omega
          have i3 : (j : Int) ≤ (c : Int) := by omega
          have i4 : ¬ (j : Int) < (j : Int) := by omega
          clear hR hbr
          go_wp2
          go_ret
          have hR := HR2.out
          have hLt : L.take j = L := List.take_of_length_le (by have := hlen.out; omega)
          have hkept := hR.kept
          have hnum := hR.num
          rw [hLt] at hkept hnum
          have hbl := below_setCells B gr hg (List.replicate (j - i) (.string ⟨#[]⟩)) i wr
          have hcell : ∀ t x, (notIn vars L)[t]? = some x → (wr.setCells gr i (List.replicate (j - i) (.string ⟨#[]⟩))).cell? ⟨gr, t, none⟩ = some (.string x) := by
            intro t x hx
            have ht : t < i := by have := (List.getElem?_eq_some_iff.1 hx).1; omega
            have h1 : (R.take i)[t]? = some (.string x) := by rw [hkept, List.getElem?_map, hx]; rfl
            rw [List.getElem?_take_of_lt ht] at h1
            rw [World.cell?_setCells_out gr _ i wr ⟨gr, t, none⟩ (fun _ _ => .inl ht)]
            exact hR.cell h1
          refine ⟨_, i, c, rfl, ⟨hnum, by omega, hcm, by simp [reachN]; omega, .inr ⟨gr, 0, rfl, ?_, fun t x hx => ?_⟩⟩, HB2.out.trans hbl⟩
          · have h1 := (Array.getElem?_eq_some_iff.1 hR.heap).1
            have h2 := hbl.size
            omega
          · have hxL : x ∈ L := (List.mem_filter.1 (List.mem_of_getElem? hx)).1
            refine ⟨[.string x], ⟨rfl, Hsz.out x hxL⟩, fun u v hv => ?_⟩
            have h3 := hcell t x hx
            rcases u with _ | u
            · simp at hv
              subst hv
              simpa [Enc.str] using h3
            · simp at hv

set_option maxRecDepth 100000 in
set_option maxHeartbeats 2000000 in
/-- bind.Free -/
theorem free_any (rel : ByteArray) (A : Option Addr) (n c : Nat) (l : List GTold) (A1 : Option Addr) (n1 c1 : Nat) (vars : List ByteArray) (w : World) (hn2 : n ≤ 200) (hl : SliceIs Enc.told w w.heap.size A n c l) (hv : SliceIs Enc.str w w.heap.size A1 n1 c1 vars) :
    Calls Try.prog 31 #[.agg #[.string rel, .slice A n c], .slice A1 n1 c1] w (fun e w' => ∃ A' m c', e = .returned (.slice A' m c') ∧ SliceIs Enc.str w' w'.heap.size A' m c' (freeL vars [] l) ∧ Below w.heap.size w w') := by
  have hlen := hl.1
  have HL := Lib.hid hl
  have HV := Lib.hid hv
  clear hl hv
  go_enter Try.func31, Try.ntmps31
  go_wp2_with fail
  have hbw : Below w.heap.size w ((w.alloc (.cells #[.string rel, .slice A n c] 49)).alloc (.cells #[.slice A1 n1 c1] 22)) := belowA (belowA (Below.refl _ _) _) _
  have hbox : ((w.alloc (.cells #[.string rel, .slice A n c] 49)).alloc (.cells #[.slice A1 n1 c1] 22)).cell? ⟨w.heap.size + 1, 0, none⟩ = some (.slice A1 n1 c1) := by
    have h := (cell_of_row _ _ 0 _ _ _ (Go.heap_alloc_new (w.alloc (.cells #[.string rel, .slice A n c] 49)) (.cells #[.slice A1 n1 c1] 22))).trans rfl
    rw [World.size_alloc] at h
    exact h
  have hsz : w.heap.size + 1 < ((w.alloc (.cells #[.string rel, .slice A n c] 49)).alloc (.cells #[.slice A1 n1 c1] 22)).heap.size := by simp
  generalize (w.alloc (.cells #[.string rel, .slice A n c] 49)).alloc (.cells #[.slice A1 n1 c1] 22) = wb at hbw hbox hsz ⊢
  have HC : Cap wb.heap.size (w.heap.size + 1) A1 n1 c1 vars wb := ⟨hbox, hsz, (HV.out.keep hbw)⟩
  refine (in_any 1 rel A n c l wb hn2 (HL.out.keep hbw)).mono ?_
  rintro e w1 ⟨A2, m2, c2, rfl, hs2, hown2, hb1⟩
  have hm2 : m2 ≤ 1000 := by
    have h1 := hs2.1
    have h2 := putL_len l l.length
    rw [List.take_of_length_le (Nat.le_refl _)] at h2
    omega
  clear hbox
  go_wp2_with (go_at_call 44; refine (deleteFunc_any wb.heap.size _ A1 n1 c1 vars A2 m2 c2 _ w1 hb1.size (HC.on hb1) hs2 hown2 hm2).mono ?_; rintro e w2 ⟨A3, m3, c3, rfl, hs3, hb2⟩)
  go_ret
  refine ⟨A3, m3, c3, rfl, ?_, (hbw.trans ((hb1.trans hb2).mono hbw.size))⟩
  have e : notIn vars (putL [] l) = freeL vars [] l := (free_put vars l []).symm
  rw [← e]
  exact hs3
end Go.Proofs.Ytggbfpjpkfhaeaa
