/- My own texts SfSet, SfPut, SfAll, TVars, as far as this claim needs them. -/
import Derived.Test.YtfklheagafffmaaGreatDoorZo1
import Derived.Test.YtfklheagafffmaaGreatDoorZo10
import Derived.Test.YtfklheagafffmaaGreatDoorZo26
set_option linter.unusedVariables false
set_option linter.unusedSimpArgs false
namespace Go.Proofs.YtfklheagafffmaaGreatDoor
open Go.RowKit
def ivs (l : List (ByteArray × Int)) : List (ByteArray × Value) := l.map fun p => (p.1, .int .i64 p.2)
theorem ivs_get (l : List (ByteArray × Int)) (s : ByteArray) : kvGet (ivs l) s = (kvGet l s).map (Value.int .i64) := by
  induction l with
  | nil => rfl
  | cons p l ih =>
    show kvGet ((p.1, Value.int .i64 p.2) :: ivs l) s = _
    rw [kvGet_cons, kvGet_cons, ih]
    split <;> rfl
theorem ivs_set (l : List (ByteArray × Int)) (s : ByteArray) (v : Int) : kvSet (ivs l) s (.int .i64 v) = ivs (kvSet l s v) := by
  induction l with
  | nil => rfl
  | cons p l ih =>
    show kvSet ((p.1, Value.int .i64 p.2) :: ivs l) s (.int .i64 v) = _
    unfold kvSet
    split
    · rfl
    · rw [ih]; rfl
/-- what a map of counts tells -/
def cntOf (l : List (ByteArray × Int)) (s : ByteArray) : Int := (kvGet l s).getD 0
theorem cntOf_set (l : List (ByteArray × Int)) (s t : ByteArray) (v : Int) : cntOf (kvSet l s v) t = if s = t then v else cntOf l t := by
  unfold cntOf
  rw [kvGet_set]
  split <;> rfl
theorem ivs_getD (l : List (ByteArray × Int)) (s : ByteArray) : (kvGet (ivs l) s).getD (.int .i64 0) = .int .i64 (cntOf l s) := by
  rw [ivs_get, cntOf]
  cases kvGet l s <;> rfl
/-- a map holds the counts of a set; none is above M -/
def SetV (w : World) (g : Nat) (S : List ByteArray) (M : Nat) : Prop :=
  ∃ kvs, MapIs w g (ivs kvs) ∧ (∀ s, 0 ≤ cntOf kvs s ∧ cntOf kvs s ≤ M) ∧ ∀ s, cntOf kvs s ≠ 0 ↔ s ∈ S
theorem SetV.made {w : World} : SetV (w.alloc (.map #[] 0)) w.heap.size [] 0 :=
  ⟨[], MapIs.made, fun s => by simp [cntOf, kvGet], fun s => by simp [cntOf, kvGet]⟩
theorem SetV.same {w w' : World} {g : Nat} {S : List ByteArray} {M : Nat} (h : SetV w g S M) (hs : w'.heap[g]? = w.heap[g]?) : SetV w' g S M := by
  obtain ⟨kvs, h1, h2⟩ := h
  exact ⟨kvs, h1.same hs, h2⟩
theorem SetV.lt {w : World} {g : Nat} {S : List ByteArray} {M : Nat} (h : SetV w g S M) : g < w.heap.size := by
  obtain ⟨kvs, h1, _⟩ := h
  exact h1.lt
theorem SetV.below {w w' : World} {g : Nat} {S : List ByteArray} {M : Nat} (h : SetV w g S M) (hb : Below w.heap.size w w') : SetV w' g S M := h.same (hb.block g h.lt)
theorem SetV.alloc {w : World} {g : Nat} {S : List ByteArray} {M : Nat} (h : SetV w g S M) (o : Obj) : SetV (w.alloc o) g S M := h.same (Below.heap_alloc w o g h.lt)
theorem SetV.mono {w : World} {g : Nat} {S : List ByteArray} {M M' : Nat} (h : SetV w g S M) (hM : M ≤ M') : SetV w g S M' := by
  obtain ⟨kvs, h1, h2, h3⟩ := h
  exact ⟨kvs, h1, fun s => ⟨(h2 s).1, by have := (h2 s).2; omega⟩, h3⟩
theorem SetV.congr {w : World} {g : Nat} {S S' : List ByteArray} {M : Nat} (h : SetV w g S M) (hS : ∀ s, s ∈ S ↔ s ∈ S') : SetV w g S' M := by
  obtain ⟨kvs, h1, h2, h3⟩ := h
  exact ⟨kvs, h1, h2, fun s => (h3 s).trans (hS s)⟩
/-- what is looked up: a count; it is 0 if the variable is not in the set -/
theorem SetV.look {P : Program} {w : World} {g : Nat} {S : List ByteArray} {M : Nat} (h : SetV w g S M) {t k e : TypeId} (ht : P.underlying t = some (.map k e)) (hk : P.underlying k = some .string) (hz : (zeroValue e).run P w = .ok (.int .i64 0) w) (s : ByteArray) :
    ∃ c : Int, (Instr.lookup t (.map (some g)) (.string s) false).run P w = .ok (.int .i64 c) w ∧ 0 ≤ c ∧ c ≤ M ∧ (c = 0 ↔ s ∉ S) := by
  obtain ⟨kvs, h1, h2, h3⟩ := h
  refine ⟨cntOf kvs s, by rw [h1.lookup ht hk hz s, ivs_getD], (h2 s).1, (h2 s).2, ?_⟩
  rw [← h3 s]
  exact (Decidable.not_not).symm
/-- a variable counted once more -/
theorem SetV.put {P : Program} {w : World} {g : Nat} {S : List ByteArray} {M : Nat} (h : SetV w g S M) {t k e : TypeId} (ht : P.underlying t = some (.map k e)) (hk : P.underlying k = some .string) (hz : (zeroValue e).run P w = .ok (.int .i64 0) w) (s : ByteArray) :
    ∃ c : Int, (Instr.lookup t (.map (some g)) (.string s) false).run P w = .ok (.int .i64 c) w ∧ 0 ≤ c ∧ c ≤ M ∧
      ∃ w', (Instr.mapUpdate t (.map (some g)) (.string s) (.int .i64 (c + 1))).run P w = .ok () w' ∧ SetV w' g (s :: S) (M + 1) ∧ w.grownBy w' (some g) ∧ w'.heap.size = w.heap.size := by
  obtain ⟨kvs, h1, h2, h3⟩ := h
  refine ⟨cntOf kvs s, by rw [h1.lookup ht hk hz s, ivs_getD], (h2 s).1, (h2 s).2, ?_⟩
  obtain ⟨w', u1, u2, u3, u4⟩ := h1.update ht hk s (.int .i64 (cntOf kvs s + 1))
  refine ⟨w', u1, ⟨kvSet kvs s (cntOf kvs s + 1), by rw [← ivs_set]; exact u2, fun x => ?_, fun x => ?_⟩, u3, u4⟩
  · rw [cntOf_set]
    have ha := h2 s
    have hb := h2 x
    split
    · omega
    · omega
  · rw [cntOf_set, List.mem_cons, ← h3 x]
    have ha := h2 s
    split
    · rename_i he
      subst he
      simp; omega
    · rename_i he
      constructor
      · exact .inr
      · rintro (h | h)
        · exact absurd h.symm he
        · exact h
end Go.Proofs.YtfklheagafffmaaGreatDoor

namespace Go.Proofs.YtfklheagafffmaaGreatDoor
open Go.RowKit
theorem under_set : Tryz.prog.underlying 98 = some (.map 9 3) := Tryz.underlying98
theorem under_key : Tryz.prog.underlying 9 = some .string := Tryz.underlying9
theorem zero_cnt (w : World) : (zeroValue 3).run Tryz.prog w = .ok (.int .i64 0) w := by kernel_rfl
def SfSetPost (g : Nat) (S : List ByteArray) (M : Nat) (w : World) (e : Ending) (w' : World) : Prop := e = .returned (.tuple #[]) ∧ SetV w' g S M ∧ Out [g] w w'
set_option maxRecDepth 100000 in
set_option maxHeartbeats 2000000 in
theorem setPut_any (g : Nat) (A : Option Addr) (n c : Nat) (L S : List ByteArray) (M : Nat) (w : World) (hS : SetV w g S M) (hl : SliceFar Enc.str w [g] A n c L) (hM : M + n ≤ 100000000) :
    Calls Tryz.prog 35 #[.map (some g), .slice A n c] w (SfSetPost g (S ++ L) (M + n) w) := by
  have HL := Lib.hid hl
  have Hlen := Lib.hid hl.is.1
  have HS := Lib.hid hS
  clear hl hS
  go_enter Tryz.func35, Tryz.ntmps35
  go_wp2_with fail
  go_loopw [8] (fun i wr => ∃ k : Nat, k ≤ n ∧ i = .int .i64 (k : Int) ∧ Hid (SetV wr g (S ++ L.take k) (M + k)) ∧ Hid (Out [g] w wr)) (fun i _ => n - (intOf i).toNat)
  case atStart => exact ⟨0, by omega, rfl, by show SetV _ _ _ _; rw [List.take_zero, List.append_nil]; exact HS.out, Out.refl _ _⟩
  case round =>
    obtain ⟨k, hk, rfl, HV, HO⟩ := hrel
    have i0 : (0 : Int) ≤ (k : Int) := by omega
    by_cases hlt : k < n
    · have i1 : (k : Int) < (n : Int) := by omega
      obtain ⟨b, o, x, rfl, -, hx, hc, -⟩ := (HL.out.out HO.out (fun b hb _ => hb) (fun b hb _ => hb) : SliceFar Enc.str wr [g] A n c L).is.str_at hlt
      obtain ⟨cn, u1, b0, b1, w2, u2, v2, g2, z2⟩ := HV.out.put under_set under_key (zero_cnt _) x
      have b2 : cn + 1 ≤ 100000001 := by omega
      have HV2 : Hid (SetV w2 g (S ++ L.take (k + 1)) (M + (k + 1))) := by
        have e : L.take (k + 1) = L.take k ++ [x] := by rw [List.take_add_one, hx.out]; rfl
        show SetV _ _ _ _
        rw [e]
        refine (SetV.congr v2 (fun s => ?_)).mono (by omega)
        simp only [List.mem_cons, List.mem_append, List.not_mem_nil, or_false]
        constructor
        · rintro (h | h | h)
          · exact .inr (.inr h)
          · exact .inl h
          · exact .inr (.inl h)
        · rintro (h | h | h)
          · exact .inr (.inl h)
          · exact .inr (.inr h)
          · exact .inl h
      have HO2 : Hid (Out [g] w w2) := HO.out.trans (grown_out g2) (fun b hb _ => by simpa using hb)
      clear hx v2 g2 z2 HV HO
      go_wp2_with fail
      go_roundw
      case rel => exact ⟨k + 1, by omega, by go_num, HV2, HO2⟩
      case measure => simp [intOf]; omega
    · have i1 : ¬ (k : Int) < (n : Int) := by omega
      obtain rfl : k = n := by omega
      have HE : Hid (SfSetPost g (S ++ L) (M + k) w (.returned (.tuple #[])) wr) := by
        have h1 := HV.out
        rw [List.take_of_length_le (by rw [Hlen.out]; exact Nat.le_refl _)] at h1
        exact ⟨rfl, h1, HO.out⟩
      go_wp2_with fail
      go_end0
      exact HE.out
set_option maxRecDepth 100000 in
set_option maxHeartbeats 1000000 in
theorem all1_any (gp g : Nat) (S : List ByteArray) (M : Nat) (s : ByteArray) (w : World) (hS : SetV w g S M) (hg : w.cell? ⟨gp, 0, none⟩ = some (.map (some g))) :
    Calls Tryz.prog 81 #[.string s, .pointer (some ⟨gp, 0, none⟩)] w (RetBool (!hasB S s) w) := by
  obtain ⟨cn, u1, b0, b1, hz⟩ := hS.look under_set under_key (zero_cnt _) s
  have Hz : Hid (decide (cn = 0) = !hasB S s) := by
    show _ = _
    unfold hasB
    by_cases h : s ∈ S
    · have : ¬ cn = 0 := fun h2 => (hz.1 h2) h
      simp [h, this]
    · have : cn = 0 := hz.2 h
      simp [h, this]
  clear hS hz
  go_enter Tryz.func81, Tryz.ntmps81
  go_wp2_with fail
  go_ret
  exact ⟨by rw [← Hz.out]; rfl, Below.refl _ _⟩
end Go.Proofs.YtfklheagafffmaaGreatDoor

namespace Go.Proofs.YtfklheagafffmaaGreatDoor
open Go.RowKit
def FirstS (p : ByteArray → Bool) (L : List ByteArray) (w : World) (e : Ending) (w' : World) : Prop := Below w.heap.size w w' ∧ ((e = .returned (.int .i64 (-1)) ∧ ∀ x ∈ L, p x = false) ∨ ∃ (k : Nat) (x : ByteArray), e = .returned (.int .i64 k) ∧ L[k]? = some x ∧ p x = true)
set_option maxRecDepth 100000 in
set_option maxHeartbeats 2000000 in
theorem indexS1_any (gp : Nat) (p : ByteArray → Bool) (A : Option Addr) (n c : Nat) (L : List ByteArray) (w : World) (hl : SliceIs Enc.str w w.heap.size A n c L)
    (hC : ∀ x ∈ L, ∀ W, Below w.heap.size w W → Calls Tryz.prog 81 #[.string x, .pointer (some ⟨gp, 0, none⟩)] W (RetBool (p x) W)) :
    Calls Tryz.prog 91 #[.slice A n c, .func (.func 81) #[] #[.pointer (some ⟨gp, 0, none⟩)]] w (FirstS p L w) := by
  have hn := hl.bound
  have hlen := Lib.hid hl.1
  have HC := Lib.hid hC
  have HL := Lib.hid hl
  clear hC hl
  go_enter Tryz.func91, Tryz.ntmps91
  go_wp2_with fail
  go_loopw [5, 8] (fun _ i wr => ∃ k : Nat, k ≤ n ∧ i = .int .i64 (k : Int) ∧ Hid (∀ y ∈ L.take k, p y = false) ∧ Hid (Below w.heap.size w wr)) (fun _ i _ => n - (intOf i).toNat)
  case atStart => exact ⟨0, by omega, rfl, (fun y hy => by simp at hy), Below.refl _ _⟩
  case round =>
    obtain ⟨k, hk, rfl, Hp, HB⟩ := hrel
    have i0 : (0 : Int) ≤ (k : Int) := by omega
    by_cases hlt : k < n
    · have i1 : (k : Int) < (n : Int) := by omega
      obtain ⟨b, o, x, rfl, -, hx, x0, -⟩ := (HL.out.mono HB.out.size HB.out.block).str_at hlt
      have HCx := Lib.hid (HC.out x (List.mem_of_getElem? hx.out) wr HB.out)
      cases hm : p x with
      | true =>
        rw [hm] at HCx
        have HE : Hid (∀ w2, Below wr.heap.size wr w2 → FirstS p L w (.returned (.int .i64 (k : Int))) w2) := fun w2 h2 => ⟨HB.out.trans (h2.mono HB.out.size), .inr ⟨k, x, rfl, hx.out, hm⟩⟩
        clear hm hx
        go_wp2_with fail
        refine HCx.out.mono ?_
        rintro e w2 ⟨rfl, hb2⟩
        have HE2 := Lib.hid (HE.out w2 hb2)
        clear hb2
        go_wp2_with fail
        go_ret
        exact HE2.out
      | false =>
        rw [hm] at HCx
        have Hp2 : Hid (∀ y ∈ L.take (k + 1), p y = false) := fun y hy => by
          rw [List.take_add_one, hx.out] at hy
          rcases List.mem_append.1 hy with hy | hy
          · exact Hp.out y hy
          · simp at hy; subst hy; exact hm
        clear hm hx
        go_wp2_with fail
        refine HCx.out.mono ?_
        rintro e w2 ⟨rfl, hb2⟩
        have HB2 : Hid (Below w.heap.size w w2) := HB.out.trans (hb2.mono HB.out.size)
        clear hb2
        go_wp2_with fail
        go_roundw
        case rel => exact ⟨k + 1, by omega, by go_num, Hp2, HB2⟩
        case measure => simp [intOf]; omega
    · have i1 : ¬ (k : Int) < (n : Int) := by omega
      have HE : Hid (FirstS p L w (.returned (.int .i64 (-1))) wr) := ⟨HB.out, .inl ⟨rfl, fun x hx => Hp.out x (by rw [List.take_of_length_le (by have := hlen.out; omega)]; exact hx)⟩⟩
      go_wp2_with fail
      go_ret
      exact HE.out
set_option maxRecDepth 100000 in
set_option maxHeartbeats 2000000 in
theorem containsS1_any (gp : Nat) (p : ByteArray → Bool) (r : Bool) (A : Option Addr) (n c : Nat) (L : List ByteArray) (w : World) (hl : SliceIs Enc.str w w.heap.size A n c L) (hr : L.any p = r)
    (hC : ∀ x ∈ L, ∀ W, Below w.heap.size w W → Calls Tryz.prog 81 #[.string x, .pointer (some ⟨gp, 0, none⟩)] W (RetBool (p x) W)) :
    Calls Tryz.prog 80 #[.slice A n c, .func (.func 81) #[] #[.pointer (some ⟨gp, 0, none⟩)]] w (RetBool r w) := by
  have HIx := Lib.hid (indexS1_any gp p A n c L w hl hC)
  have HRr : Hid (∀ e w', FirstS p L w e w' → ∃ k : Int, e = .returned (.int .i64 k) ∧ decide (0 ≤ k) = r ∧ Below w.heap.size w w') := by
    rintro e w' ⟨hb, (⟨rfl, hall⟩ | ⟨k, x, rfl, hx, hp⟩)⟩
    · refine ⟨_, rfl, ?_, hb⟩
      rw [← hr]
      symm
      rw [show decide ((0 : Int) ≤ -1) = false from rfl, List.any_eq_false]
      exact fun x hx h2 => Bool.false_ne_true ((hall x hx).symm.trans h2)
    · refine ⟨_, rfl, ?_, hb⟩
      rw [← hr]
      symm
      rw [decide_eq_true (show (0 : Int) ≤ (k : Int) by omega), List.any_eq_true]
      exact ⟨x, List.mem_of_getElem? hx, hp⟩
  clear hl hr hC
  go_enter Tryz.func80, Tryz.ntmps80
  go_wp2_with fail
  refine HIx.out.mono ?_
  intro e w4 hh
  obtain ⟨k, rfl, hk, hb4⟩ := HRr.out e w4 hh
  have Hk := Lib.hid hk
  clear hh hk
  go_wp2_with fail
  go_ret
  exact ⟨by rw [← Hk.out]; rfl, hb4⟩
set_option maxRecDepth 100000 in
set_option maxHeartbeats 2000000 in
theorem setAll_any (g : Nat) (A : Option Addr) (n c : Nat) (L S : List ByteArray) (M : Nat) (w : World) (hS : SetV w g S M) (hl : SliceIs Enc.str w w.heap.size A n c L) :
    Calls Tryz.prog 49 #[.map (some g), .slice A n c] w (RetBool (allB S L) w) := by
  have hb0 : Below w.heap.size w (w.alloc (.cells #[.map (some g)] 98)) := belowA (Below.refl _ _) _
  have hg0 : (w.alloc (.cells #[.map (some g)] 98)).heap[w.heap.size]? = some (.cells #[.map (some g)] 98 (0, 0)) := heapNew rfl
  have HC := Lib.hid (containsS1_any w.heap.size (fun s => !hasB S s) (!allB S L) A n c L (w.alloc (.cells #[.map (some g)] 98)) (hl.mono hb0.size hb0.block)
    (by
      unfold allB
      rw [List.all_eq_not_any_not, Bool.not_not])
    (fun x hx W hW => all1_any w.heap.size g S M x W ((hS.alloc _).below hW) ((cell_of_row _ _ 0 _ _ _ ((hW.block _ (by simp)).trans hg0)).trans rfl)))
  have HB0 := Lib.hid hb0
  clear hS hl hb0 hg0
  go_enter Tryz.func49, Tryz.ntmps49
  go_wp2_with fail
  refine HC.out.mono ?_
  rintro e w1 ⟨rfl, hb1⟩
  have HE : Hid (Below w.heap.size w w1) := HB0.out.trans (hb1.mono HB0.out.size)
  clear hb1 HC HB0
  go_wp2_with fail
  go_ret
  exact ⟨by simp, HE.out⟩
set_option maxRecDepth 100000 in
set_option maxHeartbeats 2000000 in
theorem alone_any (e : GExp) (A : Option Addr) (c : Nat) (w : World) : Calls Tryz.prog 98 #[expV e A e.kids.length c] w (fun r w' => r = .returned (.string (aloneE e)) ∧ Below w.heap.size w w') := by
  have hb0 : ∀ o, Below w.heap.size w (w.alloc o) := fun o => belowA (Below.refl _ _) _
  have HB := Lib.hid hb0
  clear hb0
  by_cases h0 : e.op = 0
  · by_cases h1 : e.kids.length = 0
    · have Ha : Hid (aloneE e = e.t.x) := if_pos ⟨h0, h1⟩
      go_enter Tryz.func98, Tryz.ntmps98
      go_wp2_with fail
      go_ret
      exact ⟨by rw [Ha.out]; rfl, HB.out _⟩
    · have Ha : Hid (aloneE e = ⟨#[]⟩) := if_neg (fun h => h1 h.2)
      have i1 : (0 : Int) < (e.kids.length : Int) := by omega
      go_enter Tryz.func98, Tryz.ntmps98
      go_wp2_with fail
      go_ret
      exact ⟨by rw [Ha.out]; rfl, HB.out _⟩
  · have Ha : Hid (aloneE e = ⟨#[]⟩) := if_neg (fun h => h0 h.1)
    go_enter Tryz.func98, Tryz.ntmps98
    go_wp2_with fail
    go_ret
    exact ⟨by rw [Ha.out]; rfl, HB.out _⟩
end Go.Proofs.YtfklheagafffmaaGreatDoor

namespace Go.Proofs.YtfklheagafffmaaGreatDoor
open Go.RowKit
theorem rule_ok {d : Nat} {w : World} {B : Nat} {x : GRule} {a b : Hd} (h : RuleAt d w B x a b) : ∀ t ∈ ruleT x, t.x.size ≤ reachN ∧ t.v.ok := by
  intro t ht
  unfold ruleT at ht
  rcases List.mem_append.1 ht with ht | ht
  · exact told_ok h.args t ht
  · obtain ⟨y, hy, hty⟩ := List.mem_flatMap.1 ht
    obtain ⟨i, hi⟩ := List.mem_iff_getElem?.1 hy
    have hil : i < b.n := by rw [← h.body.1]; exact (List.getElem?_eq_some_iff.1 hi).1
    obtain ⟨bb, o, y', a', p', q', -, -, hy', hl, -⟩ := h.body.lit_at hil
    have e1 : y' = y := by have := hy'.out; rw [hi] at this; injection this with this; exact this.symm
    subst e1
    exact inside_ok hl t hty
theorem flatMap_take {α β : Type} {l : List α} {f : α → List β} {k : Nat} {y : α} (hx : l[k]? = some y) : (l.take (k + 1)).flatMap f = (l.take k).flatMap f ++ f y := by
  rw [List.take_add_one, hx]; simp
theorem flatMap_len {α β : Type} (l : List α) (f : α → List β) (k : Nat) : ((l.take k).flatMap f).length ≤ (l.flatMap f).length := by
  have : l.flatMap f = (l.take k).flatMap f ++ (l.drop k).flatMap f := by rw [← List.flatMap_append, List.take_append_drop]
  rw [this]; simp only [List.length_append]; omega
set_option maxRecDepth 100000 in
set_option maxHeartbeats 4000000 in
theorem vars_any (d : Nat) (x : GRule) (a b : Hd) (w : World) (hx : RuleAt d w w.heap.size x a b) (hsz : (ruleT x).length ≤ 1500) :
    Calls Tryz.prog 19 #[.agg (ruleC x a b).toArray] w (TextsPost (putL [] (ruleT x)) w) := by
  have HX := Lib.hid hx
  have Hsz := Lib.hid hsz
  have Hok := Lib.hid (rule_ok hx)
  have hn := hx.body.bound
  have hsa : x.head.args.length ≤ 1500 := by unfold ruleT at hsz; simp only [List.length_append] at hsz; omega
  have hsb : (x.body.flatMap insideL).length ≤ 1500 := by unfold ruleT at hsz; simp only [List.length_append] at hsz; omega
  have hal := hx.args.1
  have Hlen := Lib.hid hx.body.1
  obtain ⟨P, HP⟩ : ∃ P : Ending → World → Prop, Hid (P = TextsPost (putL [] (ruleT x)) w) := ⟨_, rfl⟩
  rw [← HP.out]
  have hrb : (w.alloc (.cells (ruleC x a b).toArray 27)).heap[w.heap.size]? = some (.cells (ruleC x a b).toArray 27 (0, 0)) := heapNew rfl
  obtain ⟨b0, b1, b2, b3, b4, b5⟩ := facts6 hrb
  have hbw : Below w.heap.size w (w.alloc (.cells (ruleC x a b).toArray 27)) := belowA (Below.refl _ _) _
  have hz1 : (w.alloc (.cells (ruleC x a b).toArray 27)).heap.size = w.heap.size + 1 := by simp
  have HC := Lib.hid (put_any (w.heap.size + 1) none 0 0 [] a.A a.n a.c x.head.args (w.alloc (.cells (ruleC x a b).toArray 27)) (by omega) rfl (World.ownsRow_nil _ _ _ _) (fun _ h => by cases h) (fun W hk hb => HX.out.args.keep (hbw.trans (hb.mono (by omega)))) (by omega))
  clear hx hsz hal
  go_enter Tryz.func19, Tryz.ntmps19
  go_wp2_with fail
  refine HC.out.mono ?_
  rintro e w1 ⟨A1, c1, rfl, ho1, -, hb1⟩
  have hbw1 : Below w.heap.size w w1 := hbw.trans (hb1.mono (by omega))
  have hbs := hb1.size
  rw [hz1] at hbs
  have hrb1 := (hb1.block w.heap.size (by omega)).trans hrb
  obtain ⟨c0, c1', c2, c3, c4, c5⟩ := facts6 hrb1
  have hl0 := putL_len x.head.args []
  obtain ⟨L0, HL0⟩ : ∃ L0, Hid (putL [] x.head.args = L0) := ⟨_, rfl⟩
  rw [HL0.out] at ho1 hl0
  rw [HL0.out]
  have Ho1 := Lib.hid ho1
  have HM0 : Hid (L0.length = L0.length) := rfl
  obtain ⟨m0, Hm0⟩ : ∃ m0, Hid (L0.length = m0) := ⟨_, rfl⟩
  rw [Hm0.out] at Ho1 hl0
  rw [Hm0.out]
  have HT0 : Hid (putL [] (x.head.args ++ (x.body.take 0).flatMap insideL) = L0) := by show _ = _; simpa using HL0.out
  simp only [List.length_nil, Nat.zero_add] at hl0
  clear ho1 HM0 hbw hb1 hrb hrb1 HC hz1 HL0 b0 b1 b2 b3 b4 b5
  go_wp2_with fail
  go_loopw [3, 5, 13] (fun v _ i wr => ∃ (k m c' : Nat) (A' : Option Addr) (L : List ByteArray), k ≤ b.n ∧ i = .int .i64 k ∧ v = .slice A' m c' ∧ Hid (putL [] (x.head.args ++ (x.body.take k).flatMap insideL) = L) ∧ m ≤ 1500 ∧ Hid (L.length = m) ∧ Hid (wr.ownsRow (w.heap.size + 1) 9 1 (.slice A' m c') m (L.flatMap strC)) ∧ Below w.heap.size w wr ∧ w.heap.size + 1 ≤ wr.heap.size) (fun _ _ i _ => b.n - (intOf i).toNat)
  case atStart => exact ⟨0, m0, c1, A1, L0, by omega, rfl, rfl, HT0, by omega, Hm0, Ho1, hbw1, by omega⟩
  case round =>
    obtain ⟨k, m, c', A', L, hk, rfl, rfl, hL, hm, HLm, HO, hbr, hzr⟩ := hrel
    have i0 : (0 : Int) ≤ (k : Int) := by omega
    by_cases hlt : k < b.n
    · have i1 : (k : Int) < (b.n : Int) := by omega
      obtain ⟨bb, o, y, a', p', q', hA, hbb, hy, hly, Hr⟩ := (HX.out.keep hbr).body.lit_range hlt
      have hbx : Below wr.heap.size wr (wr.alloc (.cells (litC y a' p' q').toArray 70)) := belowA (Below.refl _ _) _
      have hzx : (wr.alloc (.cells (litC y a' p' q').toArray 70)).heap.size = wr.heap.size + 1 := by simp
      have hyl : (insideL y).length ≤ 1500 := by
        have h1 := flatMap_len x.body insideL (k + 1)
        rw [flatMap_take hy.out] at h1
        simp only [List.length_append] at h1
        omega
      have hmk : (putL [] (x.head.args ++ (x.body.take (k + 1)).flatMap insideL)).length ≤ 1500 := by
        have h1 := flatMap_len x.body insideL (k + 1)
        have h2 := putL_len (x.head.args ++ (x.body.take (k + 1)).flatMap insideL) []
        have h3 := Hsz.out
        unfold ruleT at h3
        simp only [List.length_append, List.length_nil] at h2 h3
        omega
      have HT : Hid (putL [] (x.head.args ++ (x.body.take (k + 1)).flatMap insideL) = putL L (insideL y)) := by
        show _ = _
        rw [flatMap_take hy.out, ← List.append_assoc, putL_app, hL.out]
      rw [HT.out] at hmk
      have HLs : Hid (∀ s ∈ L, s.size ≤ reachN) := fun s h => by
        rw [← hL.out] at h
        rcases putL_mem h with h | ⟨t, ht, e⟩
        · cases h
        · refine e ▸ (Hok.out t ?_).1
          unfold ruleT
          rcases List.mem_append.1 ht with ht | ht
          · exact List.mem_append_left _ ht
          · obtain ⟨z, hz, hzt⟩ := List.mem_flatMap.1 ht
            exact List.mem_append_right _ (List.mem_flatMap.2 ⟨z, List.mem_of_mem_take hz, hzt⟩)
      have Hly := Lib.hid (inside_ok hly)
      have HI := Lib.hid (insideT_any d y a' p' q' _ (hly.keep hbx) hyl)
      have hbx' : Below (w.heap.size + 1) wr (wr.alloc (.cells (litC y a' p' q').toArray 70)) := hbx.mono (by omega)
      have Hbx := Lib.hid hbx
      clear hL hly hy hbx
      have hbv : b.v = .slice (some ⟨bb, o, none⟩) b.n b.c := by unfold Hd.v; rw [hA]
      rw [hbv]
      have hrn : (wr.alloc (.cells (litC y a' p' q').toArray 70)).heap[wr.heap.size]? = some (.cells (litC y a' p' q').toArray 70 (0, 0)) := heapNew rfl
      have HRn := Lib.hid (range_row hrn)
      clear hrn
      go_wp2_with (first
        | refine wpList_load_mid rfl 70 (.tmp 15) rfl bb (o + k * 17) rfl (litC y a' p' q') _ Hr.out Tryz.underlying70 rfl (lit_size y a' p' q') ?_
        | refine wpList_new rfl rfl 70 5 (.tmp 16) rfl rfl rfl rfl _ (litC y a' p' q').toArray lit_info rfl (lit_one y a' p' q') rfl rfl ?_
        | refine wpList_load_mid rfl 70 (.tmp 5) rfl wr.heap.size 0 rfl (litC y a' p' q') _ HRn.out Tryz.underlying70 rfl (lit_size y a' p' q') ?_)
      refine HI.out.mono ?_
      rintro e w2 ⟨A2, c2', rfl, ho2, hb2⟩
      have hz2 := hb2.size
      have hbn : Below wr.heap.size wr w2 := below_next Hbx.out hb2
      have HP2 := Lib.hid (put_any (w.heap.size + 1) A' c' m L A2 (insideL y).length c2' (insideL y) w2 (by omega) HLm.out (own_below HO.out hbn) HLs.out (fun W hk hb => told_own (own_keepT ho2 hk (by decide)) rfl (by omega) Hly.out) (by omega))
      have HbN := Lib.hid hbn
      have hbw2 : Below w.heap.size w w2 := below_next hbr hbn
      clear ho2 hb2 HI hbn hbx'
      go_wp2_with fail
      refine HP2.out.mono ?_
      rintro e w3 ⟨A3, c3', rfl, ho3, -, hb3⟩
      have hz3 := hb3.size
      have hbw3 : Below w.heap.size w w3 := hbw2.trans (hb3.mono (by omega))
      obtain ⟨m3, Hm3⟩ : ∃ m3, Hid ((putL L (insideL y)).length = m3) := ⟨_, rfl⟩
      rw [Hm3.out] at ho3 hmk
      rw [Hm3.out]
      have HO3 := Lib.hid ho3
      clear ho3 hb3 HP2 hbw2
      go_wp2_with fail
      go_roundw
      case rel => exact ⟨k + 1, m3, c3', A3, _, by omega, by go_num, rfl, HT, by omega, Hm3, HO3, hbw3, by omega⟩
      case measure => simp [intOf]; omega
    · have i1 : ¬ (k : Int) < (b.n : Int) := by omega
      have e : putL [] (ruleT x) = L := by
        rw [← hL.out, List.take_of_length_le (by have := Hlen.out; omega)]; rfl
      have hPP : Hid (P (.returned (.slice A' m c')) wr) := by
        show P _ _
        rw [HP.out, e]
        exact ⟨A', c', by rw [HLm.out], by rw [HLm.out]; exact own_down HO.out (by omega), hbr⟩
      clear HP e
      go_wp2_with fail
      exact hPP.out
end Go.Proofs.YtfklheagafffmaaGreatDoor
