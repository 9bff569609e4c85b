/- scc.Places, scc.Together; the graphs that are not right. -/
import Derived.Test.YtdbpbchhkdconaaScCo
import Derived.Test.YtdbpbchhkdconaaScDp
namespace Go.Proofs.Ytdbpbchhkdconaa
open Go.RowKit

abbrev RetNil (w : World) (e : Ending) (w' : World) : Prop := e = .returned (.slice none 0 0) ∧ Below w.heap.size w w'
section
variable {w : World} {n : Int} {A : Option Addr} {m c : Nat}
theorem boxG (n : Int) (A : Option Addr) (m c : Nat) (w : World) : Below w.heap.size w (w.alloc (.cells #[.int .i64 n, .slice A m c] 24)) ∧ (w.alloc (.cells #[.int .i64 n, .slice A m c] 24)).cell? ⟨w.heap.size, 0, none⟩ = some (.int .i64 n) ∧ (w.alloc (.cells #[.int .i64 n, .slice A m c] 24)).cell? ⟨w.heap.size, 1, none⟩ = some (.slice A m c) :=
  ⟨belowA (Below.refl _ _) _, (cell_of_row _ _ 0 _ _ _ (heapNew (w := w) rfl)).trans rfl, (cell_of_row _ _ 1 _ _ _ (heapNew (w := w) rfl)).trans rfl⟩
end

set_option maxRecDepth 100000 in
set_option maxHeartbeats 2000000 in
theorem comps_bad (n : Int) (A : Option Addr) (m c : Nat) (l : List GEdge) (w : World) (h : SliceIs Enc.edge w w.heap.size A m c l) (hr : rightG n l = false) :
    Calls Try.prog 9 #[graphV n A m c] w (RetNil w) := by
  obtain ⟨hb0, c0, c1⟩ := boxG n A m c w
  have hR := right_any n A m c l _ (h.mono hb0.size hb0.block)
  rw [hr] at hR
  have HR := Lib.hid hR
  have HB0 := Lib.hid hb0
  clear h hR hr hb0
  go_enter Try.func9, Try.ntmps9
  go_wp2_with fail
  go_step3
  go_wp2_with fail
  refine HR.out.mono ?_
  rintro e w1 ⟨rfl, hb1⟩
  have HE : Hid (Below w.heap.size w w1) := HB0.out.trans (hb1.mono HB0.out.size)
  clear hb1 c0 c1
  go_wp2_with fail
  first
    | (go_ret; exact ⟨rfl, HE.out⟩)
    | (rw [Exit.noGoto_normal]; go_ret; exact ⟨rfl, HE.out⟩)
    | exact ⟨rfl, HE.out⟩

set_option maxRecDepth 100000 in
set_option maxHeartbeats 2000000 in
theorem places_bad (n : Int) (A : Option Addr) (m c : Nat) (l : List GEdge) (w : World) (h : SliceIs Enc.edge w w.heap.size A m c l) (hr : rightG n l = false) :
    Calls Try.prog 10 #[graphV n A m c] w (RetNil w) := by
  obtain ⟨hb0, c0, c1⟩ := boxG n A m c w
  have hR := right_any n A m c l _ (h.mono hb0.size hb0.block)
  rw [hr] at hR
  have HR := Lib.hid hR
  have HB0 := Lib.hid hb0
  clear h hR hr hb0
  go_enter Try.func10, Try.ntmps10
  go_wp2_with fail
  refine HR.out.mono ?_
  rintro e w1 ⟨rfl, hb1⟩
  have HE : Hid (Below w.heap.size w w1) := HB0.out.trans (hb1.mono HB0.out.size)
  clear hb1 c0 c1
  go_wp2_with fail
  go_ret
  exact ⟨rfl, HE.out⟩

set_option maxRecDepth 100000 in
set_option maxHeartbeats 4000000 in
theorem places_any (N : Nat) (hN : N ≤ 32) (A : Option Addr) (m c : Nat) (l : List GEdge) (w : World) (h : SliceIs Enc.edge w w.heap.size A m c l) (hm : m ≤ 10000) (hr : rightG (N : Int) l = true) :
    Calls Try.prog 10 #[graphV (N : Int) A m c] w (PlPost (compsF N (eN l) (togN N (hasN l)) N (fun _ => false)) N w) := by
  obtain ⟨hb0, c0, c1⟩ := boxG (N : Int) A m c w
  have hR := right_any (N : Int) A m c l _ (h.mono hb0.size hb0.block)
  rw [hr] at hR
  have HR := Lib.hid hR
  have HB0 := Lib.hid hb0
  have HC := Lib.hid (fun (W : World) (hW : Below w.heap.size w W) => comps_any N hN A m c l W (h.mono hW.size hW.block) hm hr)
  have hL := comps_in (N := N) (edges := eN l) (tog := togN N (hasN l)) (f := N) (d := fun _ => false)
  obtain ⟨L, HLe⟩ : ∃ L, Hid (L = compsF N (eN l) (togN N (hasN l)) N (fun _ => false)) := ⟨_, rfl⟩
  unfold CoPost at HC
  rw [← HLe.out] at hL HC ⊢
  have HL := Lib.hid hL
  have hcells : Hid (∀ W, Below (w.alloc (.cells #[.int .i64 (N : Int), .slice A m c] 24)).heap.size (w.alloc (.cells #[.int .i64 (N : Int), .slice A m c] 24)) W → W.cell? ⟨w.heap.size, 0, none⟩ = some (.int .i64 (N : Int)) ∧ W.cell? ⟨w.heap.size, 1, none⟩ = some (.slice A m c)) := fun W hW => ⟨below_cell hW c0, below_cell hW c1⟩
  clear h hR hr hb0 hL HLe
  go_enter Try.func10, Try.ntmps10
  go_wp2_with fail
  refine HR.out.mono ?_
  rintro e w1 ⟨rfl, hb1⟩
  have HB1 : Hid (Below w.heap.size w w1) := HB0.out.trans (hb1.mono HB0.out.size)
  have Hcl : Hid (∀ W, Below w1.heap.size w1 W → W.cell? ⟨w.heap.size, 0, none⟩ = some (.int .i64 (N : Int)) ∧ W.cell? ⟨w.heap.size, 1, none⟩ = some (.slice A m c)) := fun W hW => hcells.out W (hb1.trans (hW.mono hb1.size))
  clear hb1 c0 c1 hcells
  go_wp2_with fail
  have hq0 := Below.refl w1.heap.size w1
  go_region_held3 (fun W => W.cell? ⟨w.heap.size, 0, none⟩ = some (.int .i64 (N : Int)) ∧ W.cell? ⟨w.heap.size, 1, none⟩ = some (.slice A m c))
    (first
      | (refine Hcl.out _ ?_; (repeat (first | with_reducible exact Below.refl _ _ | with_reducible assumption | with_reducible refine Below.drew ?_)); done)
      | go_keep)
    ((first
      | (go_at_call 9
         refine (HC.out _ (HB1.out.drew)).mono ?_
         rintro e2 w2 ⟨A2, k2, c2, rfl, hs2, hb2⟩
         have hq2 : Below w1.heap.size w1 w2 := ((Below.refl w1.heap.size w1).drew).trans hb2
         clear hb2)
      | (go_at_call 30
         refine (of_any A2 k2 c2 L N (by omega) _ hs2 HL.out).mono ?_
         rintro e3 w3 ⟨rfl, hpr, hb3⟩
         have hq3 : Below w1.heap.size w1 w3 := hq2.trans (hb3.mono hq2.size))))
  have HE : Hid (PlPost L N w (.returned (.slice (some ⟨w2.heap.size, 0, none⟩) N N)) w3) := ⟨_, rfl, by have := HB1.out.size; have := hq2.size; omega, hpr, (HB1.out.trans (hq2.mono HB1.out.size)).trans (hb3.mono (by have := HB1.out.size; have := hq2.size; omega))⟩
  clear hpr hb3 hq2 hs2
  go_wp2_with fail
  go_ret
  exact HE.out

/-- places, and which nodes are of one -/
def plN (N : Nat) (l : List GEdge) : Nat → Nat := ofG 0 (compsF N (eN l) (togN N (hasN l)) N (fun _ => false)) (fun _ => 0)
theorem ofG_same {a b : Nat} : ∀ (L : List (List Nat)) (i : Nat) (f : Nat → Nat), (∀ p ∈ L, a ∈ p ↔ b ∈ p) → f a = f b → ofG i L f a = ofG i L f b
  | [], _, _, _, h => h
  | p :: L, i, f, hp, h => by
    refine ofG_same L (i + 1) (asg f i p) (fun q hq => hp q (List.mem_cons_of_mem _ hq)) ?_
    unfold asg
    have := hp p (List.mem_cons_self ..)
    by_cases ha : a ∈ p
    · rw [if_pos ha, if_pos (this.1 ha)]
    · rw [if_neg ha, if_neg (fun hb => ha (this.2 hb)), h]
theorem comps_have {N : Nat} {l : List GEdge} (hw : ∀ e ∈ l, withinE e (N : Int) = true) {a : Nat} (ha : a < N) : ∃ c ∈ compsF N (eN l) (togN N (hasN l)) N (fun _ => false), a ∈ c := by
  rcases comps_all (N := N) (edges := eN l) (has := hasN l) (fun x y h => (hasN_in hw h).2) (fun x hx => by
    obtain ⟨e, he, rfl⟩ := List.mem_map.1 hx
    have h1 := eN_in hw (e.a.toNat, e.b.toNat) (List.mem_map.2 ⟨e, he, rfl⟩)
    refine ⟨h1.1, h1.2, ?_⟩
    have h2 := hw e he
    simp only [withinE, Bool.and_eq_true, decide_eq_true_eq] at h2
    show hasL l (e.a.toNat : Int) (e.b.toNat : Int) = true
    unfold hasL
    rw [List.any_eq_true]
    exact ⟨e, he, by simp; omega⟩) (eqv_of hw) N (fun _ => false) (fun _ _ _ _ _ => rfl) (left_most _ _ _) a ha with h | h
  · cases h
  · exact h
theorem plN_at {N : Nat} {l : List GEdge} (hw : ∀ e ∈ l, withinE e (N : Int) = true) {a : Nat} (ha : a < N) : ∃ c, (compsF N (eN l) (togN N (hasN l)) N (fun _ => false))[plN N l a]? = some c ∧ a ∈ c := by
  rcases ofG_spec a (compsF N (eN l) (togN N (hasN l)) N (fun _ => false)) 0 (fun _ => 0) with ⟨j, c, h1, h2, h3⟩ | ⟨h1, -⟩
  · refine ⟨c, ?_, h2⟩
    unfold plN
    rw [h3, Nat.zero_add]; exact h1
  · obtain ⟨c, hc, hac⟩ := comps_have hw ha
    exact absurd hac (h1 c hc)
theorem plN_tog {N : Nat} {l : List GEdge} (hw : ∀ e ∈ l, withinE e (N : Int) = true) {a b : Nat} (ha : a < N) (hb : b < N) : plN N l a = plN N l b ↔ togN N (hasN l) a b = true := by
  have e := eqv_of hw
  constructor
  · intro h
    obtain ⟨c, h1, h2⟩ := plN_at hw ha
    obtain ⟨c', h3, h4⟩ := plN_at hw hb
    rw [← h, h1] at h3
    injection h3 with h3
    subst h3
    obtain ⟨x, hx, -, rfl⟩ := comps_cls N (fun _ => false) c (List.mem_of_getElem? h1)
    have k1 := (cls_mem.1 h2).2
    have k2 := (cls_mem.1 h4).2
    exact e.trans a x b ha hx hb (e.symm x a hx ha k1) k2
  · intro h
    refine ofG_same _ _ _ (fun p hp => ?_) rfl
    obtain ⟨x, hx, -, rfl⟩ := comps_cls N (fun _ => false) p hp
    rw [cls_mem, cls_mem]
    exact ⟨fun h1 => ⟨hb, e.trans x a b hx ha hb h1.2 h⟩, fun h1 => ⟨ha, e.trans x b a hx hb ha h1.2 (e.symm a b ha hb h)⟩⟩
end Go.Proofs.Ytdbpbchhkdconaa
