/- My own texts SfSv, Load, SdV, as far as this claim needs them. -/
import Derived.Test.YtfklheagafffmaaGreatDoorZo5
import Derived.Test.YtfklheagafffmaaGreatDoorZo26
import Derived.Test.YtfklheagafffmaaGreatDoorZo27
import Derived.Lib.SliceRun
set_option linter.unusedVariables false
set_option linter.unusedSimpArgs false
namespace Go.Proofs.YtfklheagafffmaaGreatDoor
open Go.RowKit
theorem below_setCellsS (B g : Nat) (hg : B ≤ g) : ∀ (vs : List Value) (o : Nat) (w : World), Below B w (w.setCells g o vs)
  | [], _, _ => Below.refl _ _
  | v :: vs, o, w => ((Below.refl B w).setCell (p := ⟨g, o, none⟩) hg v).trans (below_setCellsS B g hg vs (o + 1) _)
theorem flat_strS (L : List ByteArray) : L.flatMap strC = L.map Value.string := by
  induction L with
  | nil => rfl
  | cons a l ih => simp only [List.flatMap_cons, List.map_cons, ih]; rfl
/-- what stays -/
def staysB (p : ByteArray → Bool) (L : List ByteArray) : List ByteArray := L.filter fun s => !p s
theorem staysB_take {p : ByteArray → Bool} {L : List ByteArray} {k : Nat} {x : ByteArray} (hx : L[k]? = some x) : staysB p (L.take (k + 1)) = if p x = true then staysB p (L.take k) else staysB p (L.take k) ++ [x] := by
  unfold staysB
  rw [List.take_add_one, hx]
  by_cases h : p x = true <;> simp [h]
theorem staysB_all {p : ByteArray → Bool} {L : List ByteArray} (h : ∀ y ∈ L, p y = false) : staysB p L = L := by
  unfold staysB; rw [List.filter_eq_self]; intro a ha; simpa using h a ha
/-- the first that goes -/
def FirstB (p : ByteArray → Bool) (L : List ByteArray) (w : World) (e : Ending) (w' : World) : Prop :=
  Below w.heap.size w w' ∧ ((e = .returned (.int .i64 (-1)) ∧ ∀ x ∈ L, p x = false) ∨ ∃ (k : Nat) (x : ByteArray), e = .returned (.int .i64 (k : Int)) ∧ L[k]? = some x ∧ p x = true ∧ ∀ y ∈ L.take k, p y = false)
set_option maxRecDepth 100000 in
set_option maxHeartbeats 2000000 in
theorem indexB_any {gf : Nat} {bs lb : Array Value} (eg : ∀ args w, (callFunc gf args).run Tryz.prog w = .ok (.enter gf args) w) (p : ByteArray → Bool) (A : Option Addr) (n c : Nat) (L : List ByteArray) (w : World) (hl : SliceIs Enc.str w w.heap.size A n c L)
    (hC : ∀ x ∈ L, ∀ W, Below w.heap.size w W → Calls Tryz.prog gf (bs.push (.string x) ++ lb) W (RetBool (p x) W)) :
    Calls Tryz.prog 91 #[.slice A n c, .func (.func gf) bs lb] w (FirstB p L w) := by
  have hn := hl.bound
  have HLen := Lib.hid hl.1
  have HC := Lib.hid hC
  have HL := Lib.hid hl
  clear hC hl
  go_enter Tryz.func91, Tryz.ntmps91
  go_wp2_with fail
  go_loopw [5, 8] (fun _ i wr => ∃ k : Nat, k ≤ n ∧ i = .int .i64 (k : Int) ∧ Hid (∀ y ∈ L.take k, p y = false) ∧ Hid (Below w.heap.size w wr)) (fun _ i _ => n - (intOf i).toNat)
  case atStart => exact ⟨0, by omega, rfl, (fun y hy => by simp at hy), Below.refl _ _⟩
  case round =>
    obtain ⟨k, hk, rfl, Hp, HB⟩ := hrel
    have i0 : (0 : Int) ≤ (k : Int) := by omega
    by_cases hlt : k < n
    · have i1 : (k : Int) < (n : Int) := by omega
      obtain ⟨b, o, x, rfl, -, HX, x0, -⟩ := (HL.out.mono HB.out.size HB.out.block).str_at hlt
      have HCx := Lib.hid (HC.out x (List.mem_of_getElem? HX.out) wr HB.out)
      go_wp2_with fail
      refine HCx.out.mono ?_
      rintro e w2 ⟨rfl, hb2⟩
      have HB2 : Hid (Below w.heap.size w w2) := HB.out.trans (hb2.mono HB.out.size)
      clear hb2
      cases hm : p x with
      | true =>
        have HE2 : Hid (FirstB p L w (.returned (.int .i64 (k : Int))) w2) := ⟨HB2.out, .inr ⟨k, x, rfl, HX.out, hm, Hp.out⟩⟩
        clear hm
        go_wp2_with fail
        go_ret
        exact HE2.out
      | false =>
        have Hp2 : Hid (∀ y ∈ L.take (k + 1), p y = false) := fun y hy => by
          rw [List.take_add_one, HX.out] at hy
          rcases List.mem_append.1 hy with hy | hy
          · exact Hp.out y hy
          · simp at hy; subst hy; exact hm
        clear hm
        go_wp2_with fail
        go_roundw
        case rel => exact ⟨k + 1, by omega, by go_num, Hp2, HB2⟩
        case measure => simp [intOf]; omega
    · have i1 : ¬ (k : Int) < (n : Int) := by omega
      have HE : Hid (FirstB p L w (.returned (.int .i64 (-1))) wr) := ⟨HB.out, .inl ⟨rfl, fun x hx => Hp.out x (by rw [List.take_of_length_le (by have := HLen.out; omega)]; exact hx)⟩⟩
      go_wp2_with fail
      go_ret
      exact HE.out
/-- the row while it is rewritten: i kept so far of the first j; the rest as it was -/
structure RewB (p : ByteArray → Bool) (L : List ByteArray) (g cap i j : Nat) (R : List Value) (w : World) : Prop where
  heap : w.heap[g]? = some (.cells R.toArray 9 (0, 0))
  size : R.length = cap
  kept : R.take i = (staysB p (L.take j)).map Value.string
  num : (staysB p (L.take j)).length = i
  high : ∀ t x, j ≤ t → L[t]? = some x → R[t]? = some (.string x)
  lt : i < j
section
variable {p : ByteArray → Bool} {L : List ByteArray} {g cap i j t : Nat} {R : List Value} {w w' : World}
theorem RewB.cell (h : RewB p L g cap i j R w) {v : Value} (hv : R[t]? = some v) : w.cell? ⟨g, t, none⟩ = some v := by
  rw [cell_of_row _ _ t _ _ _ h.heap]; simpa using hv
theorem RewB.frozen (h : RewB p L g cap i j R w) : w.frozen? ⟨g, t, none⟩ = false := by
  simp [World.frozen?, h.heap]
theorem RewB.on (h : RewB p L g cap i j R w) (hb : Below w.heap.size w w') : RewB p L g cap i j R w' :=
  ⟨(hb.block _ (Array.getElem?_eq_some_iff.1 h.heap).1).trans h.heap, h.size, h.kept, h.num, h.high, h.lt⟩
theorem RewB.skip (h : RewB p L g cap i j R w) {x : ByteArray} (hx : L[j]? = some x) (hm : p x = true) : RewB p L g cap i (j + 1) R w :=
  ⟨h.heap, h.size, by rw [staysB_take hx, if_pos hm]; exact h.kept, by rw [staysB_take hx, if_pos hm]; exact h.num, fun t y ht hy => h.high t y (by omega) hy, by have := h.lt; omega⟩
theorem RewB.keep (h : RewB p L g cap i j R w) {x : ByteArray} (hx : L[j]? = some x) (hm : ¬ p x = true) (hi : i < cap) : RewB p L g cap (i + 1) (j + 1) (R.set i (.string x)) (w.setCell ⟨g, i, none⟩ (.string x)) := by
  have hlt := h.lt
  have hs := h.size
  refine ⟨by simp [World.setCell, Array.getElem?_modify, h.heap], by simpa using hs, ?_, by rw [staysB_take hx, if_neg hm]; simp [h.num], fun t y ht hy => ?_, by omega⟩
  · rw [staysB_take hx, if_neg hm, List.map_append, ← h.kept, List.take_add_one]
    rw [List.take_set_of_le (by omega), List.getElem?_set_self (by omega)]
    rfl
  · rw [List.getElem?_set_ne (by omega)]
    exact h.high t y (by omega) hy
end
theorem own_addr {w : World} {base e sz : Nat} {A : Option Addr} {n c m : Nat} {xs : List Value} (h : w.ownsRow base e sz (.slice A n c) m xs) : ∀ ad, A = some ad → base ≤ ad.block := fun ad had => by
  rcases h.2 with ⟨hv, -⟩ | ⟨gr, cap, cur, hv, hg, -⟩
  · rw [had] at hv; cases hv
  · injection hv with h1 _ _
    rw [had] at h1; injection h1 with h1
    subst h1; exact hg
def StayPost (B : Nat) (p : ByteArray → Bool) (L : List ByteArray) (w : World) (e : Ending) (w' : World) : Prop :=
  ∃ A' m c', e = .returned (.slice A' m c') ∧ SliceIs Enc.str w' w'.heap.size A' m c' (staysB p L) ∧ Below B w w' ∧ ∀ ad, A' = some ad → B ≤ ad.block
set_option maxRecDepth 100000 in
set_option maxHeartbeats 4000000 in
theorem deleteB_any {gf : Nat} {bs lb : Array Value} (eg : ∀ args w, (callFunc gf args).run Tryz.prog w = .ok (.enter gf args) w) (B : Nat) (p : ByteArray → Bool) (A : Option Addr) (n c : Nat) (L : List ByteArray) (w : World) (hB : B ≤ w.heap.size)
    (hl : SliceIs Enc.str w w.heap.size A n c L) (hown : w.ownsRow B 9 1 (.slice A n c) n (L.flatMap strC)) (hn2 : n ≤ 100000)
    (hC : ∀ x ∈ L, ∀ W, Below B w W → Calls Tryz.prog gf (bs.push (.string x) ++ lb) W (RetBool (p x) W)) :
    Calls Tryz.prog 62 #[.slice A n c, .func (.func gf) bs lb] w (StayPost B p L w) := by
  have hlen := Lib.hid hl.1
  have HI := Lib.hid (indexB_any (bs := bs) (lb := lb) eg p A n c L w hl (fun x hx W hW => hC x hx W (hW.mono hB)))
  have HC := Lib.hid hC
  have HL := Lib.hid hl
  have Hown := Lib.hid hown
  have Hsz : Hid (∀ s ∈ L, s.size ≤ reachN) := fun s hs => by
    obtain ⟨i, hi, rfl⟩ := List.mem_iff_getElem.1 hs
    obtain ⟨b, o, x, _, _, hx, _, hz⟩ := hl.str_at (i := i) (by rw [← hl.1]; exact hi)
    have e : L[i] = x := by have := hx.out; rw [List.getElem?_eq_getElem hi] at this; simpa using this
    rw [e]; exact hz
  clear hC hl hown
  go_enter Tryz.func62, Tryz.ntmps62
  go_wp2_with fail
  refine HI.out.mono ?_
  rintro e w1 ⟨hb1, (⟨rfl, hall⟩ | ⟨k, x, rfl, hx, hxv, hbef⟩)⟩
  · have HE : Hid (StayPost B p L w (.returned (.slice A n c)) w1) := ⟨A, n, c, rfl, by rw [staysB_all hall]; exact HL.out.keep hb1, hb1.mono hB, own_addr Hown.out⟩
    clear hall hb1
    go_wp2_with fail
    go_ret
    exact HE.out
  · have hkn : k < n := by have := (List.getElem?_eq_some_iff.1 hx).1; have := hlen.out; omega
    have hk1 : ((k : Int) == -1) = false := beq_eq_false_iff_ne.2 (by omega)
    obtain ⟨hz, hrow⟩ := Hown.out
    rcases hrow with ⟨hv, h0⟩ | ⟨gr, cap, cur, hv, hg, hh, hnc, hcm, hcs, htk⟩
    · omega
    · simp only [Value.slice.injEq] at hv
      obtain ⟨rfl, -, rfl⟩ := hv
      have hR : RewB p L gr c k (k + 1) cur.toList w1 := by
        have hkeep : staysB p (L.take k) = L.take k := staysB_all hbef
        have hL := hlen.out
        rw [flat_strS] at htk
        have hlk : (L.take k).length = k := by simp; omega
        refine ⟨by simpa using (hb1.block _ (Array.getElem?_eq_some_iff.1 hh).1).trans hh, by simpa using hcs, ?_, ?_, fun t y ht hy => ?_, by omega⟩
        · rw [staysB_take hx, if_pos hxv, hkeep, List.map_take, ← htk, List.take_take]
          congr 1; omega
        · rw [staysB_take hx, if_pos hxv, hkeep, hlk]
        · have ht : t < n := by have := (List.getElem?_eq_some_iff.1 hy).1; omega
          have e2 : (cur.toList.take (n * 1))[t]? = (L.map Value.string)[t]? := by rw [htk]
          rw [List.getElem?_take_of_lt (by omega), List.getElem?_map, hy] at e2
          exact e2
      have HR := Lib.hid hR
      have HB1 : Hid (Below B w w1) := hb1.mono hB
      clear hR hx hxv hbef htk hz hb1 hh
      go_wp2_with fail
      go_loopw [5, 6, 7] (fun vi vj _ wr => ∃ (i j : Nat) (R : List Value), vi = .int .i64 (i : Int) ∧ vj = .int .i64 (j : Int) ∧ j ≤ n ∧ Hid (RewB p L gr c i j R wr) ∧ Hid (Below B w wr)) (fun _ vj _ _ => n - (intOf vj).toNat)
      case atStart => exact ⟨k, k + 1, _, rfl, by go_num, by omega, HR.out, HB1.out⟩
      case round =>
        obtain ⟨i, j, R, rfl, rfl, hjn, HR2, HB2⟩ := hrel
        have hij := HR2.out.lt
        by_cases hlt : j < n
        · obtain ⟨x, hx⟩ : ∃ x, L[j]? = some x := ⟨_, List.getElem?_eq_getElem (by have := hlen.out; omega)⟩
          have hcx := HR2.out.cell (HR2.out.high j x (Nat.le_refl _) hx)
          have i0 : (0 : Int) ≤ (j : Int) := by omega
          have i1 : (j : Int) < (n : Int) := by omega
          have i2 : (0 : Int) ≤ (i : Int) := by omega
          have i3 : (i : Int) < (n : Int) := by omega
          have HX := Lib.hid hx
          have HCall := Lib.hid (HC.out x (List.mem_of_getElem? hx) wr HB2.out)
          clear hx
          go_wp2_with fail
          refine HCall.out.mono ?_
          rintro e w2 ⟨rfl, hb2⟩
          have HR3 := Lib.hid (HR2.out.on hb2)
          have HB3 : Hid (Below B w w2) := HB2.out.trans (hb2.mono (by have := HB2.out.size; omega))
          have hRi : i < R.length := by have := HR2.out.size; omega
          have hci := HR3.out.cell (List.getElem?_eq_getElem hRi)
          have hfi := HR3.out.frozen (t := i)
          generalize R[i] = old at hci
          clear hb2
          cases hm : p x with
          | true =>
            have HM := Lib.hid hm
            clear hm
            go_wp2_with fail
            go_roundw
            case rel => exact ⟨i, j + 1, R, rfl, by go_num, by omega, HR3.out.skip HX.out HM.out, HB3⟩
            case measure => simp [intOf]; omega
          | false =>
            have HM := Lib.hid hm
            clear hm
            have HR4 := Lib.hid (HR3.out.keep HX.out (by simp [HM.out]) (by omega))
            have HB4 : Hid (Below B w (w2.setCell ⟨gr, i, none⟩ (.string x))) := HB3.out.setCell (p := ⟨gr, i, none⟩) hg _
            go_wp2_with fail
            go_roundw
            case rel => exact ⟨i + 1, j + 1, R.set i (.string x), by go_num, by go_num, by omega, HR4, HB4⟩
            case measure => simp [intOf]; omega
        · obtain rfl : j = n := by omega
          have hR := HR2.out
          have hRs := hR.size
          have hcl : ∀ ty, (Builtin.clear_ #[40] ty #[.slice (some ⟨gr, i, none⟩) (j - i) (c - i)]).run Tryz.prog wr = .ok (.tuple #[]) (wr.setCells gr i (List.replicate (j - i) (.string ⟨#[]⟩))) :=
            fun ty => Lib.run_clear_slice wr 40 9 ty (.string ⟨#[]⟩) Tryz.underlying40 (fun w => by kernel_rfl) rfl rfl gr i _ _ (by omega)
              (fun t ht => by
                have h1 : i + t < R.length := by omega
                rw [hR.cell (List.getElem?_eq_getElem h1)]; rfl)
              (fun t ht => hR.frozen)
          have i0 : (0 : Int) ≤ (i : Int) := by omega
          have i1 : (i : Int) ≤ (j : Int) := by omega
          have i2 : (i : Int) ≤ (c : Int) := by omega
          have i3 : (j : Int) ≤ (c : Int) := by omega
          have i4 : ¬ (j : Int) < (j : Int) := by omega
          clear hR
          go_wp2
          go_ret
          have hR := HR2.out
          have hLt : L.take j = L := List.take_of_length_le (by have := hlen.out; omega)
          have hkept := hR.kept
          have hnum := hR.num
          rw [hLt] at hkept hnum
          have hbl := below_setCellsS B gr hg (List.replicate (j - i) (.string ⟨#[]⟩)) i wr
          have hcell : ∀ t x, (staysB p L)[t]? = some x → (wr.setCells gr i (List.replicate (j - i) (.string ⟨#[]⟩))).cell? ⟨gr, t, none⟩ = some (.string x) := by
            intro t x hx
            have ht : t < i := by have := (List.getElem?_eq_some_iff.1 hx).1; omega
            have h1 : (R.take i)[t]? = some (.string x) := by rw [hkept, List.getElem?_map, hx]; rfl
            rw [List.getElem?_take_of_lt ht] at h1
            rw [World.cell?_setCells_out gr _ i wr ⟨gr, t, none⟩ (fun _ _ => .inl ht)]
            exact hR.cell h1
          refine ⟨_, i, c, rfl, ⟨hnum, by omega, hcm, by simp [reachN]; omega, .inr ⟨gr, 0, rfl, ?_, fun t x hx => ?_⟩⟩, HB2.out.trans hbl, fun ad had => by injection had with had; subst had; exact hg⟩
          · have h1 := (Array.getElem?_eq_some_iff.1 hR.heap).1
            have h2 := hbl.size
            omega
          · have hxL : x ∈ L := (List.mem_filter.1 (List.mem_of_getElem? hx)).1
            refine ⟨[.string x], ⟨rfl, Hsz.out x hxL⟩, fun u v hv => ?_⟩
            have h3 := hcell t x hx
            rcases u with _ | u
            · simp at hv
              subst hv
              simpa [Enc.str] using h3
            · simp at hv
set_option maxRecDepth 100000 in
set_option maxHeartbeats 2000000 in
theorem sieve1_any (gs gi g : Nat) (S : List ByteArray) (M : Nat) (inb : Bool) (s : ByteArray) (w : World) (hS : SetV w g S M) (hg : w.cell? ⟨gs, 0, none⟩ = some (.map (some g))) (hi : w.cell? ⟨gi, 0, none⟩ = some (.bool inb)) :
    Calls Tryz.prog 63 #[.string s, .pointer (some ⟨gs, 0, none⟩), .pointer (some ⟨gi, 0, none⟩)] w (RetBool (hasB S s != inb) w) := by
  obtain ⟨cn, u1, b0, b1, hz⟩ := hS.look under_set under_key (zero_cnt _) s
  have Hz : Hid (decide (0 < cn) = hasB S s) := by
    show _ = _
    unfold hasB
    by_cases h : s ∈ S
    · have : ¬ cn = 0 := fun h2 => (hz.1 h2) h
      have h3 : 0 < cn := by omega
      simp [h, h3]
    · have : cn = 0 := hz.2 h
      simp [h, this]
  clear hS hz
  go_enter Tryz.func63, Tryz.ntmps63
  go_wp2_with fail
  go_ret
  exact ⟨by rw [← Hz.out]; rfl, Below.refl _ _⟩
/-- a rule's variables that are in a set, or that aren't -/
def ruleVars (x : GRule) : List ByteArray := putL [] (ruleT x)
def sieveL (x : GRule) (S : List ByteArray) (inb : Bool) : List ByteArray := (ruleVars x).filter fun v => hasB S v == inb
theorem sieve_stays (x : GRule) (S : List ByteArray) (inb : Bool) : staysB (fun s => hasB S s != inb) (ruleVars x) = sieveL x S inb := by
  unfold staysB sieveL
  refine List.filter_congr fun v _ => ?_
  dsimp only
  cases hasB S v <;> cases inb <;> rfl
theorem sieveL_congr {x : GRule} {S T : List ByteArray} (h : ∀ v, v ∈ S ↔ v ∈ T) (inb : Bool) : sieveL x S inb = sieveL x T inb := by
  unfold sieveL
  refine List.filter_congr fun v _ => ?_
  rw [hasB_congr h]
theorem putL_le0 (l : List GTold) : (putL [] l).length ≤ l.length := by have := putL_len l []; simpa using this
set_option maxRecDepth 100000 in
set_option maxHeartbeats 4000000 in
theorem sieve_any (d g : Nat) (S : List ByteArray) (M : Nat) (inb : Bool) (x : GRule) (a b : Hd) (w : World) (hS : SetV w g S M) (hx : RuleAt d w w.heap.size x a b) (hsz : (ruleT x).length ≤ 1500) :
    Calls Tryz.prog 36 #[.agg (ruleC x a b).toArray, .map (some g), .bool inb] w (fun e w' => ∃ A m c, e = .returned (.slice A m c) ∧ SliceIs Enc.str w' w'.heap.size A m c (sieveL x S inb) ∧ Below w.heap.size w w' ∧ ∀ ad, A = some ad → w.heap.size ≤ ad.block) := by
  obtain ⟨V, hV⟩ : ∃ V, V = ((w.alloc (.cells (ruleC x a b).toArray 27)).alloc (.cells #[.map (some g)] 98)).alloc (.cells #[.bool inb] 4) := ⟨_, rfl⟩
  have hrs : V.heap[w.heap.size + 1]? = some (.cells #[.map (some g)] 98 (0, 0)) := by rw [hV]; exact heapOld (heapNew (by simp))
  have hrr : V.heap[w.heap.size]? = some (.cells (ruleC x a b).toArray 27 (0, 0)) := by rw [hV]; exact heapOld (heapOld (heapNew rfl))
  obtain ⟨c0, c1, c2, c3, c4, c5⟩ := facts6 hrr
  have hri : V.heap[w.heap.size + 2]? = some (.cells #[.bool inb] 4 (0, 0)) := by rw [hV]; exact heapNew (by simp)
  have hbw : Below w.heap.size w V := by rw [hV]; exact belowA (belowA (belowA (Below.refl _ _) _) _) _
  have HBW := Lib.hid hbw
  have HVe := Lib.hid hV.symm
  have hzV : V.heap.size = w.heap.size + 3 := by rw [hV]; simp
  have HS : Hid (SetV V g S M) := by show SetV _ _ _ _; rw [hV]; exact ((hS.alloc _).alloc _).alloc _
  have HVars := Lib.hid (vars_any d x a b V (hx.keep hbw) hsz)
  have HOk : Hid (∀ s ∈ ruleVars x, s.size ≤ reachN) := fun s hs => by
    obtain ⟨t, ht, rfl, -⟩ : ∃ t ∈ ruleT x, s = t.x ∧ t.x.toList.isEmpty = false := by
      have := putL_has.1 hs; simpa using this
    exact (rule_ok hx t ht).1
  have HLen : Hid ((ruleVars x).length ≤ 1500) := Nat.le_trans (putL_le0 _) hsz
  have H1 := Lib.hid (fun (W : World) (hW : Below V.heap.size V W) (s : ByteArray) => sieve1_any (w.heap.size + 1) (w.heap.size + 2) g S M inb s W (HS.out.below hW)
    ((cell_of_row _ _ 0 _ _ _ ((hW.block _ (by omega)).trans hrs)).trans rfl) ((cell_of_row _ _ 0 _ _ _ ((hW.block _ (by omega)).trans hri)).trans rfl))
  clear hS hx hsz hrs hri hrr hbw hV hzV
  go_enter Tryz.func36, Tryz.ntmps36
  go_wp2_with (rw [HVe.out])
  refine HVars.out.mono ?_
  rintro e w1 ⟨A1, c1, rfl, ho1, hb1⟩
  have HD := Lib.hid (deleteB_any (gf := 63) (bs := #[]) (lb := #[.pointer (some ⟨w.heap.size + 1, 0, none⟩), .pointer (some ⟨w.heap.size + 2, 0, none⟩)]) (fun args w => by rfl) V.heap.size (fun s => hasB S s != inb) A1 (ruleVars x).length c1 (ruleVars x) w1 hb1.size
    (TextsPost.is ho1 (by have := HLen.out; show (ruleVars x).length ≤ _; omega) HOk.out) ho1 (by have := HLen.out; omega) (fun s _ W hW => H1.out W (hb1.trans hW) s))
  have HB1 := Lib.hid hb1
  clear ho1 hb1 HVars
  go_wp2_with fail
  refine HD.out.mono ?_
  rintro e w2 ⟨A2, m2, c2, rfl, hs2, hb2, hf2⟩
  rw [sieve_stays] at hs2
  have HE : Hid (∃ A m c, Ending.returned (.slice A2 m2 c2) = .returned (.slice A m c) ∧ SliceIs Enc.str w2 w2.heap.size A m c (sieveL x S inb) ∧ Below w.heap.size w w2 ∧ ∀ ad, A = some ad → w.heap.size ≤ ad.block) := ⟨A2, m2, c2, rfl, hs2, HBW.out.trans ((HB1.out.trans hb2).mono HBW.out.size), fun ad had => Nat.le_trans HBW.out.size (hf2 ad had)⟩
  clear hs2 hb2 hf2
  go_wp2_with fail
  go_ret
  exact HE.out
end Go.Proofs.YtfklheagafffmaaGreatDoor

namespace Go.Proofs.YtfklheagafffmaaGreatDoor
open Go.RowKit
theorem run_loadVar_cells {P : Program} (w : World) (g off : Nat) (ty : TypeId) (cs : List Value) (d : TypeDesc) (hc : ∀ j v, cs[j]? = some v → w.cell? ⟨g, off + j, none⟩ = some v)
    (hu : P.underlying ty = some d) (hd : (match d with | .struct _ | .array _ _ => true | _ => false) = true) (hi : (P.info? ty).map (·.size) = some cs.length) :
    (loadVar ty ⟨g, off, none⟩).run P w = .ok (.agg cs.toArray) w := by
  have hl : (loadCells ⟨g, off, none⟩ cs.length).run P w = .ok cs.toArray w :=
    run_loadCells_list (P := P) w ⟨g, off, none⟩ cs (fun j v hv => by
      have hadd : (⟨g, off, none⟩ : Addr).add j = ⟨g, off + j, none⟩ := by unfold Addr.add; split <;> simp_all
      rw [hadd]
      exact hc j v hv)
  cases hq : P.info? ty with
  | none => simp [hq] at hi
  | some i =>
    have hs : i.size = cs.length := by simpa [hq] using hi
    have hagg : (isAgg ty).run P w = .ok true w := by
      unfold isAgg
      rw [Sem.run_bind, run_underlying hu w]
      cases d <;> simp_all
    simp [loadVar, Sem.run_bind, hagg, sizeOf, typeInfo, hq, hs, hl]
theorem wp_load_cells {P : Program} {o : Oper} {a : Act} {w : World} {K : Act → World → Prop} {Q : Exit → Act → World → Prop} (ty : TypeId) (x : Operand) (ho : o.op = .load ty x)
    (g off : Nat) (hx : a.eval x = .pointer (some ⟨g, off, none⟩)) (cs : List Value) (d : TypeDesc) (hc : ∀ j v, cs[j]? = some v → w.cell? ⟨g, off + j, none⟩ = some v)
    (hu : P.underlying ty = some d) (hd : (match d with | .struct _ | .array _ _ => true | _ => false) = true) (hi : (P.info? ty).map (·.size) = some cs.length)
    (h : K (a.put o.dst (.agg cs.toArray)) w) : o.wp P a w K Q := by
  unfold Oper.wp execOp
  simp only [ho, hx, Instr.loadAt, Instr.sureAddr, Sem.run_bind, Sem.run_pure, Result.andThen_ok, run_loadVar_cells w g off ty cs d hc hu hd hi]
  exact h
/-- a load of the whole struct, guarded or not -/
theorem wpList_load_at {P : Program} {ops : Array Oper} {rest : List Oper} {a : Act} {w : World} {Q : Exit → Act → World → Prop} {dst : Option Tmp} {ty : TypeId} {x : Operand} {tt : TypeId} {ps : String} {af : Array Edge} {gd : Option (Nat × Bool)}
    (g off : Nat) (cs : List Value) (d : TypeDesc) (hc : ∀ j v, cs[j]? = some v → w.cell? ⟨g, off + j, none⟩ = some v)
    (hu : P.underlying ty = some d) (hd : (match d with | .struct _ | .array _ _ => true | _ => false) = true) (hi : (P.info? ty).map (·.size) = some cs.length)
    (hx : a.eval x = .pointer (some ⟨g, off, none⟩)) (hw : Region.wanted (Oper.mk dst (.load ty x) tt ps af gd) (yielded ops a.tmps) = true)
    (h : wpList P ops Q rest (a.put dst (.agg cs.toArray)) w) : wpList P ops Q (Oper.mk dst (.load ty x) tt ps af gd :: rest) a w :=
  wpList_step fun K hK => by
    rw [hw, if_pos rfl]
    exact wp_load_cells ty x rfl g off hx cs d hc hu hd hi (hK _ _ h)
theorem row_cells {w : World} {g : Nat} {cs : List Value} {t : TypeId} (h : w.heap[g]? = some (.cells cs.toArray t (0, 0))) : ∀ j v, cs[j]? = some v → w.cell? ⟨g, 0 + j, none⟩ = some v := fun j v hv => by
  rw [Nat.zero_add, cell_of_row _ _ j _ _ _ h]; simpa using hv
/-- an element's cells -/
theorem SliceIs.cells_at {α : Type} {E : Enc α} {w : World} {B : Nat} {A : Option Addr} {n c : Nat} {l : List α} (h : SliceIs E w B A n c l) {i : Nat} (hi : i < n) :
    ∃ b o x cs, A = some ⟨b, o, none⟩ ∧ b < B ∧ Hid (l[i]? = some x) ∧ E.ok w B cs x ∧ ∀ j v, cs[j]? = some v → w.cell? ⟨b, o + i * E.sz + j, none⟩ = some v := h.at_ hi
end Go.Proofs.YtfklheagafffmaaGreatDoor

namespace Go.Proofs.YtfklheagafffmaaGreatDoor
open Go.RowKit
set_option maxRecDepth 100000 in
set_option maxHeartbeats 4000000 in
theorem refIn_any (d : Nat) (x : GLit) (a p q : Hd) (w : World) (hx : LitAt d w w.heap.size x a p q) (hsz : (insideL x).length ≤ 1500) :
    Calls Tryz.prog 11 #[.agg (litC x a p q).toArray] w (TextsPost (varsL x) w) := by
  obtain ⟨P, HP⟩ : ∃ P : Ending → World → Prop, Hid (P = TextsPost (varsL x) w) := ⟨_, rfl⟩
  rw [← HP.out]
  obtain ⟨V, hV⟩ : ∃ V, V = w.alloc (.cells (litC x a p q).toArray 54) := ⟨_, rfl⟩
  have HVe := Lib.hid hV.symm
  have hg : V.heap[w.heap.size]? = some (.cells (litC x a p q).toArray 54 (0, 0)) := by rw [hV]; exact heapNew rfl
  have hbV : Below w.heap.size w V := by rw [hV]; exact belowA (Below.refl _ _) _
  have HRw := Lib.hid (row_cells hg)
  have K54 : Hid ((Tryz.prog.info? 54).map (·.size) = some (litC x a p q).length) := by show _ = some 17; kernel_rfl
  have HI := Lib.hid (refInside_any d x a p q V (hx.keep hbV) hsz)
  have Hok := Lib.hid (inside_ok hx)
  have HbV := Lib.hid hbV
  have HSz := Lib.hid hsz
  clear hx hV hg hbV hsz
  go_enter Tryz.func11, Tryz.ntmps11
  go_wp2_with (first
    | rw [HVe.out]
    | refine wpList_load_at w.heap.size 0 (litC x a p q) _ HRw.out Tryz.underlying54 rfl K54.out rfl rfl ?_)
  refine HI.out.mono ?_
  rintro e w1 ⟨A1, c1, rfl, ho1, hb1⟩
  have HN := Lib.hid (refNames_any A1 (insideL x).length c1 (insideL x) w1 (SliceIs.of_flat (E := Enc.told) GTold.cells (fun _ => rfl) ho1 rfl (by have := HSz.out; simp [reachN]; omega) (fun t ht => ⟨rfl, Hok.out t ht⟩)) (by have := HSz.out; omega))
  have HB1 : Hid (Below w.heap.size w w1) := HbV.out.trans (hb1.mono HbV.out.size)
  clear ho1 hb1 HI
  go_wp2_with fail
  refine HN.out.mono ?_
  rintro e w2 ⟨A2, c2, rfl, ho2, hb2⟩
  have HPP : Hid (P (.returned (.slice A2 (varsL x).length c2)) w2) := by
    show P _ _
    rw [HP.out]
    exact ⟨A2, c2, rfl, own_down ho2 HB1.out.size, HB1.out.trans (hb2.mono HB1.out.size)⟩
  have HPP : Hid (P (.returned (.slice A2 (putL [] (insideL x)).length c2)) w2) := HPP.out
  clear ho2 hb2 HN
  go_wp2_with fail
  exact HPP.out
set_option maxRecDepth 100000 in
set_option maxHeartbeats 4000000 in
theorem refOf_any (d : Nat) (e : GExp) (A : Option Addr) (n c : Nat) (w : World) (hk : SliceIs (Enc.exp d) w w.heap.size A n c e.kids) (hx : e.t.x.size ≤ reachN) (hv : e.t.v.ok) (hsz : (leavesE e).length ≤ 1500) :
    Calls Tryz.prog 57 #[expV e A n c] w (TextsPost (varsE e) w) := by
  obtain ⟨P, HP⟩ : ∃ P : Ending → World → Prop, Hid (P = TextsPost (varsE e) w) := ⟨_, rfl⟩
  rw [← HP.out]
  obtain ⟨V, hV⟩ : ∃ V, V = w.alloc (.cells (expC e A n c).toArray 52) := ⟨_, rfl⟩
  have HVe := Lib.hid hV.symm
  have hg : V.heap[w.heap.size]? = some (.cells (expC e A n c).toArray 52 (0, 0)) := by rw [hV]; exact heapNew rfl
  have hbV : Below w.heap.size w V := by rw [hV]; exact belowA (Below.refl _ _) _
  have Hok := Lib.hid (leaves_ok d e A n c w _ hk hx hv)
  obtain ⟨b0, b1, b2, b3, b4, b5⟩ := facts6 hg
  have HT := Lib.hid (refTerms_any V.heap.size d e A n c none 0 0 [] V (hk.keep hbV) (Nat.le_refl _) rfl (World.ownsRow_nil _ _ _ _) (by omega))
  rw [List.nil_append] at HT
  have HbV := Lib.hid hbV
  have HSz := Lib.hid hsz
  clear hk hx hv hV hg hbV hsz
  go_enter Tryz.func57, Tryz.ntmps57
  go_wp2_with (rw [HVe.out])
  refine HT.out.mono ?_
  rintro r w1 ⟨A1, c1, rfl, ho1, hb1, -, -⟩
  have HN := Lib.hid (refNames_any A1 (leavesE e).length c1 (leavesE e) w1 (SliceIs.of_flat (E := Enc.told) GTold.cells (fun _ => rfl) ho1 rfl (by have := HSz.out; simp [reachN]; omega) (fun t ht => ⟨rfl, Hok.out t ht⟩)) (by have := HSz.out; omega))
  have HB1 : Hid (Below w.heap.size w w1) := HbV.out.trans (hb1.mono HbV.out.size)
  clear ho1 hb1 HT
  go_wp2_with fail
  refine HN.out.mono ?_
  rintro r w2 ⟨A2, c2, rfl, ho2, hb2⟩
  have HPP : Hid (P (.returned (.slice A2 (putL [] (leavesE e)).length c2)) w2) := by
    show P _ _
    rw [HP.out]
    exact ⟨A2, c2, rfl, own_down ho2 HB1.out.size, HB1.out.trans (hb2.mono HB1.out.size)⟩
  clear ho2 hb2 HN
  go_wp2_with fail
  exact HPP.out
set_option maxRecDepth 100000 in
set_option maxHeartbeats 4000000 in
theorem refAll09_any (A : Option Addr) (n c : Nat) (S : List ByteArray) (B : Option Addr) (m d : Nat) (L : List ByteArray) (w : World) (hS : SliceIs Enc.str w w.heap.size A n c S) (hL : SliceIs Enc.str w w.heap.size B m d L) :
    Calls Tryz.prog 30 #[.slice A n c, .slice B m d] w (RetBool (allB S L) w) := by
  have hn := hL.bound
  have Hlen := Lib.hid hL.1
  have HS := Lib.hid hS
  have HL := Lib.hid hL
  clear hS hL
  go_enter Tryz.func30, Tryz.ntmps30
  go_wp2_with fail
  go_loopw [5] (fun i wr => ∃ k : Nat, k ≤ m ∧ i = .int .i64 (k : Int) ∧ Hid (∀ s ∈ L.take k, s ∈ S) ∧ Hid (Below w.heap.size w wr)) (fun i _ => m - (intOf i).toNat)
  case atStart => exact ⟨0, by omega, rfl, (fun s hs => by simp at hs), Below.refl _ _⟩
  case round =>
    obtain ⟨k, hk, rfl, Hp, HB⟩ := hrel
    have i0 : (0 : Int) ≤ (k : Int) := by omega
    by_cases hlt : k < m
    · have i1 : (k : Int) < (m : Int) := by omega
      obtain ⟨b, o, x, rfl, -, hx, x0, -⟩ := (HL.out.keep HB.out).str_at hlt
      have HC := Lib.hid (has_any A n c S x wr (HS.out.keep HB.out))
      by_cases hm : x ∈ S
      · rw [decide_eq_true hm] at HC
        have Hp2 : Hid (∀ s ∈ L.take (k + 1), s ∈ S) := fun s hs => by
          rw [List.take_add_one, hx.out] at hs
          rcases List.mem_append.1 hs with hs | hs
          · exact Hp.out s hs
          · simp at hs; subst hs; exact hm
        clear hm
        go_wp2_with fail
        refine HC.out.mono ?_
        rintro e w1 ⟨rfl, hb1⟩
        have HB1 : Hid (Below w.heap.size w w1) := HB.out.trans (hb1.mono HB.out.size)
        clear hb1 HC
        go_wp2_with fail
        go_roundw
        case rel => exact ⟨k + 1, by omega, by go_num, Hp2, HB1⟩
        case measure => simp [intOf]; omega
      · rw [decide_eq_false hm] at HC
        have Hf : Hid (allB S L = false) := by
          show _ = _
          rw [Bool.eq_false_iff]
          intro h
          exact hm (allB_iff.1 h x (List.mem_of_getElem? hx.out))
        clear hm
        go_wp2_with fail
        refine HC.out.mono ?_
        rintro e w1 ⟨rfl, hb1⟩
        have HB1 : Hid (Below w.heap.size w w1) := HB.out.trans (hb1.mono HB.out.size)
        clear hb1 HC
        go_wp2_with fail
        go_ret
        exact ⟨by (rw [Hf.out]) <;> rfl, HB1.out⟩
    · have i1 : ¬ (k : Int) < (m : Int) := by omega
      have Hf : Hid (allB S L = true) := by
        show _ = _
        rw [allB_iff]
        intro s hs
        exact Hp.out s (by rw [List.take_of_length_le (by have := Hlen.out; omega)]; exact hs)
      go_wp2_with fail
      go_ret
      exact ⟨by (rw [Hf.out]) <;> rfl, HB.out⟩
set_option maxRecDepth 100000 in
set_option maxHeartbeats 2000000 in
theorem refAlone_any (e : GExp) (A : Option Addr) (n c : Nat) (w : World) (hn : e.kids.length = n) : Calls Tryz.prog 56 #[expV e A n c] w (fun r w' => r = .returned (.string (aloneE e)) ∧ Below w.heap.size w w') := by
  subst hn
  have hb0 : ∀ o, Below w.heap.size w (w.alloc o) := fun o => belowA (Below.refl _ _) _
  have HB := Lib.hid hb0
  clear hb0
  by_cases h0 : e.op = 0
  · by_cases h1 : e.kids.length = 0
    · have Ha : Hid (aloneE e = e.t.x) := if_pos ⟨h0, h1⟩
      go_enter Tryz.func56, Tryz.ntmps56
      go_wp2_with fail
      go_ret
      exact ⟨by rw [Ha.out]; rfl, HB.out _⟩
    · have Ha : Hid (aloneE e = ⟨#[]⟩) := if_neg (fun h => h1 h.2)
      have i1 : ¬ (e.kids.length : Int) = 0 := by omega
      go_enter Tryz.func56, Tryz.ntmps56
      go_wp2_with fail
      go_ret
      exact ⟨by rw [Ha.out]; rfl, HB.out _⟩
  · have Ha : Hid (aloneE e = ⟨#[]⟩) := if_neg (fun h => h0 h.1)
    go_enter Tryz.func56, Tryz.ntmps56
    go_wp2_with fail
    go_ret
    exact ⟨by rw [Ha.out]; rfl, HB.out _⟩
end Go.Proofs.YtfklheagafffmaaGreatDoor
