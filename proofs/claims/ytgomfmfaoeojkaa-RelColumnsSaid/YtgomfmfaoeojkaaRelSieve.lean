/- slices.DeleteFunc at rows of tuples, over whatever function. -/
import Derived.Test.YtgomfmfaoeojkaaRelOf
import Derived.Test.YtgomfmfaoeojkaaDelete
import Derived.Lib.SliceRun
import Derived.Shelf.Abstract
namespace Go.Proofs.Ytgomfmfaoeojkaa
open Go.RowKit Go.Shelf

/-- the function that tells whether a tuple goes -/
def Goes (gf : Nat) (bs lb : Array Value) (kp : List GV → Bool) (S : List Nat) (w0 : World) (Ps : List (Value × List GV)) : Prop :=
  ∀ W, Out S w0 W → ∀ p ∈ Ps, Calls Try.prog gf (bs.push p.1 ++ lb) W (RetBool (kp p.2) W)
def FirstP (kp : List GV → Bool) (Ps : List (Value × List GV)) (w : World) (e : Ending) (w' : World) : Prop :=
  Below w.heap.size w w' ∧ ((e = .returned (.int .i64 (-1)) ∧ ∀ p ∈ Ps, kp p.2 = false) ∨ ∃ (k : Nat) (p : Value × List GV), e = .returned (.int .i64 k) ∧ Ps[k]? = some p ∧ kp p.2 = true ∧ ∀ y ∈ Ps.take k, kp y.2 = false)
def RowIs (w : World) (A : Option Addr) (n : Nat) (Ps : List (Value × List GV)) : Prop := Ps.length = n ∧ ∀ i p, Ps[i]? = some p → ∃ b, A = some ⟨b, 0, none⟩ ∧ w.cell? ⟨b, i, none⟩ = some p.1

theorem mem_take_succ' {α : Type} {l : List α} {k : Nat} {x : α} (hx : l[k]? = some x) (y : α) : y ∈ l.take (k + 1) ↔ y ∈ l.take k ∨ y = x := by
  rw [List.take_add_one, hx]; simp

set_option maxRecDepth 100000 in
set_option maxHeartbeats 1000000 in
theorem indexFuncT_any {gf : Nat} {bs lb : Array Value} (eg : ∀ args w, (callFunc gf args).run Try.prog w = .ok (.enter gf args) w) (kp : List GV → Bool) {S : List Nat} (A : Option Addr) (n c : Nat) (Ps : List (Value × List GV)) (w : World) (hn : n ≤ 100000) (hr : RowIs w A n Ps) (HK : Goes gf bs lb kp S w Ps) :
    Calls Try.prog 80 #[.slice A n c, .func (.func gf) bs lb] w (FirstP kp Ps w) := by
  have HR := Lib.hid hr
  have HKK := Lib.hid HK
  clear hr HK
  go_enter Try.func80, Try.ntmps80
  go_wp2_with fail
  go_loopw [5, 8] (fun _ i wr => ∃ k : Nat, k ≤ n ∧ i = .int .i64 k ∧ Hid (∀ y ∈ Ps.take k, kp y.2 = false) ∧ Below w.heap.size w wr) (fun _ i _ => n - (intOf i).toNat)
  case atStart => exact ⟨0, by omega, rfl, (fun y hy => by simp at hy), Below.refl _ _⟩
  case round =>
    obtain ⟨k, hk, rfl, hpre, hbr⟩ := hrel
    have i0 : (0 : Int) ≤ (k : Int) := by omega
    by_cases hlt : k < n
    · have i1 : (k : Int) < (n : Int) := by omega
      have hlp : k < Ps.length := by rw [HR.out.1]; exact hlt
      have hx := List.getElem?_eq_getElem hlp
      obtain ⟨b, rfl, hc⟩ := HR.out.2 k _ hx
      have hc' := below_cell hbr hc
      have hcall := HKK.out wr ((Out.of_below hbr S)) _ (List.mem_of_getElem? hx)
      have HX := Lib.hid hx
      generalize Ps[k] = p at *
      have HCall := Lib.hid hcall
      clear hcall hc hx
      go_wp2_with fail
      refine HCall.out.mono ?_
      rintro e w2 ⟨rfl, hb2⟩
      cases hm : kp p.2 with
      | true =>
        have HM := Lib.hid hm
        clear hm
        go_wp2_with fail
        go_ret
        exact ⟨below_next hbr hb2, .inr ⟨k, p, rfl, HX.out, HM.out, hpre.out⟩⟩
      | false =>
        have HM := Lib.hid hm
        clear hm
        have hb3 := below_next hbr hb2
        go_wp2_with fail
        go_roundw
        case rel =>
          refine ⟨k + 1, by omega, by go_num, fun y hy => ?_, hb3⟩
          rw [mem_take_succ' HX.out] at hy
          rcases hy with hy | rfl
          · exact hpre.out y hy
          · exact HM.out
        case measure => simp [intOf]; omega
    · have i1 : ¬ (k : Int) < (n : Int) := by omega
      go_wp2_with fail
      go_ret
      refine ⟨hbr, .inl ⟨rfl, fun x hx => hpre.out x ?_⟩⟩
      rw [List.take_of_length_le (by rw [HR.out.1]; omega)]
      exact hx

def stays (kp : List GV → Bool) (Ps : List (Value × List GV)) : List (Value × List GV) := Ps.filter fun p => !kp p.2
theorem stays_take {kp : List GV → Bool} {Ps : List (Value × List GV)} {k : Nat} {p : Value × List GV} (hx : Ps[k]? = some p) : stays kp (Ps.take (k + 1)) = if kp p.2 = true then stays kp (Ps.take k) else stays kp (Ps.take k) ++ [p] := by
  unfold stays
  rw [List.take_add_one, hx]
  by_cases h : kp p.2 = true <;> simp [h]
theorem stays_all {kp : List GV → Bool} {Ps : List (Value × List GV)} (h : ∀ y ∈ Ps, kp y.2 = false) : stays kp Ps = Ps := by
  unfold stays; rw [List.filter_eq_self]; intro a ha; simpa using h a ha

/-- the row while it is rewritten: i kept so far of the first j; the rest as it was -/
structure RewT (kp : List GV → Bool) (Ps : List (Value × List GV)) (g cap i j : Nat) (R : List Value) (w : World) : Prop where
  heap : w.heap[g]? = some (.cells R.toArray 24 (0, 0))
  size : R.length = cap
  kept : R.take i = (stays kp (Ps.take j)).map Prod.fst
  num : (stays kp (Ps.take j)).length = i
  high : ∀ t p, j ≤ t → Ps[t]? = some p → R[t]? = some p.1
  lt : i < j
section
variable {kp : List GV → Bool} {Ps : List (Value × List GV)} {g cap i j t : Nat} {R : List Value} {w w' : World}
theorem RewT.cell (h : RewT kp Ps g cap i j R w) {v : Value} (hv : R[t]? = some v) : w.cell? ⟨g, t, none⟩ = some v := by
  rw [cell_of_row _ _ t _ _ _ h.heap]; simpa using hv
theorem RewT.frozen (h : RewT kp Ps g cap i j R w) : w.frozen? ⟨g, t, none⟩ = false := by
  simp [World.frozen?, h.heap]
theorem RewT.on (h : RewT kp Ps g cap i j R w) (hb : Below w.heap.size w w') : RewT kp Ps g cap i j R w' :=
  ⟨(hb.block _ (Array.getElem?_eq_some_iff.1 h.heap).1).trans h.heap, h.size, h.kept, h.num, h.high, h.lt⟩
theorem RewT.skip (h : RewT kp Ps g cap i j R w) {p : Value × List GV} (hx : Ps[j]? = some p) (hm : kp p.2 = true) : RewT kp Ps g cap i (j + 1) R w :=
  ⟨h.heap, h.size, by rw [stays_take hx, if_pos hm]; exact h.kept, by rw [stays_take hx, if_pos hm]; exact h.num, fun t y ht hy => h.high t y (by omega) hy, by have := h.lt; omega⟩
theorem RewT.keep (h : RewT kp Ps g cap i j R w) {p : Value × List GV} (hx : Ps[j]? = some p) (hm : ¬ kp p.2 = true) (hi : i < cap) : RewT kp Ps g cap (i + 1) (j + 1) (R.set i p.1) (w.setCell ⟨g, i, none⟩ p.1) := by
  have hlt := h.lt
  have hs := h.size
  refine ⟨by simp [World.setCell, Array.getElem?_modify, h.heap], by simpa using hs, ?_, by rw [stays_take hx, if_neg hm]; simp [h.num], fun t y ht hy => ?_, by omega⟩
  · rw [stays_take hx, if_neg hm, List.map_append, ← h.kept, List.take_add_one]
    rw [List.take_set_of_le (by omega), List.getElem?_set_self (by omega)]
    rfl
  · rw [List.getElem?_set_ne (by omega)]
    exact h.high t y (by omega) hy
end

def DelPostT (A : Option Addr) (n c : Nat) (kp : List GV → Bool) (Ps : List (Value × List GV)) (w : World) (e : Ending) (w' : World) : Prop :=
  ∃ A' c', e = .returned (.slice A' (stays kp Ps).length c') ∧ w'.ownsRow 0 24 1 (.slice A' (stays kp Ps).length c') (stays kp Ps).length ((stays kp Ps).map Prod.fst) ∧ Out (Value.slice A n c).ownBlock.toList w w' ∧
    (Value.slice A' (stays kp Ps).length c').ownBlock = (Value.slice A n c).ownBlock

set_option maxRecDepth 100000 in
set_option maxHeartbeats 2000000 in
theorem deleteFuncT_any {gf : Nat} {bs lb : Array Value} (eg : ∀ args w, (callFunc gf args).run Try.prog w = .ok (.enter gf args) w) (kp : List GV → Bool) (A : Option Addr) (n c : Nat) (Ps : List (Value × List GV)) (w : World) (hn : n ≤ 100000)
    (hown : w.ownsRow 0 24 1 (.slice A n c) n (Ps.map Prod.fst)) (hone : ∀ p ∈ Ps, ∃ (B : Option Addr) (m d : Nat), p.1 = .slice B m d) (HK : Goes gf bs lb kp (Value.slice A n c).ownBlock.toList w Ps) :
    Calls Try.prog 71 #[.slice A n c, .func (.func gf) bs lb] w (DelPostT A n c kp Ps w) := by
  have hlen : Ps.length = n := by have := hown.1; simpa using this
  have hrow : RowIs w A n Ps := by
    refine ⟨hlen, fun i p hp => ?_⟩
    have hx : (Ps.map Prod.fst)[i]? = some p.1 := by rw [List.getElem?_map, hp]; rfl
    rcases hown.2 with ⟨hv, h0⟩ | ⟨gr, cap, cur, hv, hg, hh, hnc, hcm, hcs, htk⟩
    · have := (List.getElem?_eq_some_iff.1 hp).1; omega
    · simp only [Value.slice.injEq] at hv
      obtain ⟨rfl, _, rfl⟩ := hv
      refine ⟨gr, rfl, ?_⟩
      rw [cell_of_row w gr _ cur 24 (0, 0) hh]
      rw [← htk, List.getElem?_take] at hx
      split at hx
      · simpa [Array.getElem?_toList] using hx
      · cases hx
  have HI := Lib.hid (indexFuncT_any eg kp A n c Ps w hn hrow HK)
  have HC := Lib.hid HK
  have Hown := Lib.hid hown
  have Hone := Lib.hid hone
  have Hlen := Lib.hid hlen
  clear hrow hown hone HK hlen
  go_enter Try.func71, Try.ntmps71
  go_wp2_with fail
  refine HI.out.mono ?_
  rintro e w1 ⟨hb1, (⟨rfl, hall⟩ | ⟨k, x, rfl, hx, hxv, hbef⟩)⟩
  · have Hall := Lib.hid hall
    clear hall
    go_wp2_with fail
    go_ret
    rw [DelPostT, stays_all Hall.out, Hlen.out]
    exact ⟨A, c, rfl, own_out' Hown.out (Out.of_below hb1 []) (fun b _ hb => by cases hb), Out.of_below hb1 _, rfl⟩
  · have hkn : k < n := by have := (List.getElem?_eq_some_iff.1 hx).1; have := Hlen.out; omega
    have hk1 : ((k : Int) == -1) = false := beq_eq_false_iff_ne.2 (by omega)
    obtain ⟨hz, hrow⟩ := Hown.out
    rcases hrow with ⟨hv, h0⟩ | ⟨gr, cap, cur, hv, hg, hh, hnc, hcm, hcs, htk⟩
    · omega
    · simp only [Value.slice.injEq] at hv
      obtain ⟨rfl, -, rfl⟩ := hv
      have hR : RewT kp Ps gr c k (k + 1) cur.toList w1 := by
        have hkeep : stays kp (Ps.take k) = Ps.take k := stays_all hbef
        have hL := Hlen.out
        have hlk : (Ps.take k).length = k := by simp; omega
        refine ⟨by simpa using (hb1.block _ (Array.getElem?_eq_some_iff.1 hh).1).trans hh, by simpa using hcs, ?_, ?_, fun t y ht hy => ?_, by omega⟩
        · rw [stays_take hx, if_pos hxv, hkeep, List.map_take, ← htk, List.take_take]
          congr 1; omega
        · rw [stays_take hx, if_pos hxv, hkeep, hlk]
        · have ht : t < n := by have := (List.getElem?_eq_some_iff.1 hy).1; omega
          have e2 : (cur.toList.take (n * 1))[t]? = (Ps.map Prod.fst)[t]? := by rw [htk]
          rw [List.getElem?_take_of_lt (by omega), List.getElem?_map, hy] at e2
          exact e2
      have HR := Lib.hid hR
      have hO1 : Out [gr] w w1 := Out.of_below hb1 _
      have HC' : Hid (Goes gf bs lb kp [gr] w Ps) := HC.out
      clear hR hx hxv hbef htk hz
      go_wp2_with fail
      go_loopw [5, 6, 7] (fun vi vj _ wr => ∃ (i j : Nat) (R : List Value), vi = .int .i64 i ∧ vj = .int .i64 j ∧ j ≤ n ∧ Hid (RewT kp Ps gr c i j R wr) ∧ Out [gr] w wr) (fun _ vj _ _ => n - (intOf vj).toNat)
      case atStart => exact ⟨k, k + 1, _, rfl, by go_num, by omega, HR.out, hO1⟩
      case round =>
        obtain ⟨i, j, R, rfl, rfl, hjn, HR2, hor⟩ := hrel
        have hij := HR2.out.lt
        have HO2 := Lib.hid hor
        by_cases hlt : j < n
        · have hjp : j < Ps.length := by rw [Hlen.out]; exact hlt
          have hx := List.getElem?_eq_getElem hjp
          have hcx := HR2.out.cell (HR2.out.high j _ (Nat.le_refl _) hx)
          have i0 : (0 : Int) ≤ (j : Int) := by omega
          have i1 : (j : Int) < (n : Int) := by omega
          have i2 : (0 : Int) ≤ (i : Int) := by omega
          have i3 : (i : Int) < (n : Int) := by omega
          have hcall := HC'.out wr hor _ (List.mem_of_getElem? hx)
          have hone1 := Hone.out _ (List.mem_of_getElem? hx)
          have HX := Lib.hid hx
          generalize Ps[j] = p at *
          have HCall := Lib.hid hcall
          have HOne := Lib.hid hone1
          clear hcall hx hor hone1
          go_wp2_with fail
          refine HCall.out.mono ?_
          rintro e w2 ⟨rfl, hb2⟩
          have HR3 := Lib.hid (HR2.out.on hb2)
          have hO3 : Out [gr] w w2 := HO2.out.trans (Out.of_below hb2 [gr]) (fun b hb _ => hb)
          have hRi : i < R.length := by have := HR2.out.size; omega
          have hci := HR3.out.cell (List.getElem?_eq_getElem hRi)
          have hfi := HR3.out.frozen (t := i)
          generalize R[i] = old at hci
          cases hm : kp p.2 with
          | true =>
            have HM := Lib.hid hm
            clear hm
            go_wp2_with fail
            go_roundw
            case rel => exact ⟨i, j + 1, R, rfl, by go_num, by omega, HR3.out.skip HX.out HM.out, hO3⟩
            case measure => simp [intOf]; omega
          | false =>
            have HM := Lib.hid hm
            clear hm
            obtain ⟨pv, pt⟩ := p
            obtain ⟨Bp, mp, dp, e⟩ := HOne.out
            simp only at e
            subst e
            simp only at HX HM hcx
            have HR4 := Lib.hid (HR3.out.keep HX.out (by simp [HM.out]) (by omega))
            have hO4 : Out [gr] w (w2.setCell ⟨gr, i, none⟩ (.slice Bp mp dp)) := hO3.trans (set_out w2 gr i _) (fun b hb _ => hb)
            go_wp2_with fail
            go_roundw
            case rel => exact ⟨i + 1, j + 1, R.set i (.slice Bp mp dp), by go_num, by go_num, by omega, HR4, hO4⟩
            case measure => simp [intOf]; omega
        · obtain rfl : j = n := by omega
          have hR := HR2.out
          have hRs := hR.size
          have hcl : ∀ ty, (Builtin.clear_ #[22] ty #[.slice (some ⟨gr, i, none⟩) (j - i) (c - i)]).run Try.prog wr = .ok (.tuple #[]) (wr.setCells gr i (List.replicate (j - i) (.slice none 0 0))) :=
            fun ty => Lib.run_clear_slice wr 22 24 ty (.slice none 0 0) Try.underlying22 (fun w => by kernel_rfl) rfl rfl gr i _ _ (by omega)
              (fun t ht => by
                have h1 : i + t < R.length := by omega
                rw [hR.cell (List.getElem?_eq_getElem h1)]; rfl)
              (fun t ht => hR.frozen)
          have i0 : (0 : Int) ≤ (i : Int) := by omega
          have i1 : (i : Int) ≤ (j : Int) := by omega
          have i2 : (i : Int) ≤ (c : Int) := by omega
          have i3 : (j : Int) ≤ (c : Int) := by omega
          have i4 : ¬ (j : Int) < (j : Int) := by omega
          clear hR hor
          go_wp2
          go_ret
          have hR := HR2.out
          have hLt : Ps.take j = Ps := List.take_of_length_le (by have := Hlen.out; omega)
          have hkept := hR.kept
          have hnum := hR.num
          rw [hLt] at hkept hnum
          obtain ⟨cur2, hc2, hs2⟩ := setCells_heap (e := 24) gr (List.replicate (j - i) (.slice none 0 0)) i wr R.toArray hR.heap
          refine ⟨some ⟨gr, 0, none⟩, c, by rw [hnum]; rfl, ?_, ?_, rfl⟩
          · rw [hnum]
            refine own_of_cells hc2 (Nat.zero_le _) (by omega) hcm (by rw [hs2]; simpa using hRs) (by simp [hnum]) ?_
            intro q v hq
            have hqi : q < i := by have := (List.getElem?_eq_some_iff.1 hq).1; simp [hnum] at this; omega
            rw [World.cell?_setCells_out gr _ i wr ⟨gr, q, none⟩ (fun _ _ => .inl hqi)]
            have h1 : (R.take i)[q]? = some v := by rw [hkept]; exact hq
            rw [List.getElem?_take_of_lt hqi] at h1
            exact hR.cell h1
          · exact HO2.out.trans (setCells_out gr _ i wr) (fun b hb _ => hb)
end Go.Proofs.Ytgomfmfaoeojkaa
