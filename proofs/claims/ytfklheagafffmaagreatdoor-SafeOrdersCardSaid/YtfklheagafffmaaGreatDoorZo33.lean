/- My own texts SfNx, SfDl, Range3, as far as this claim needs them. -/
import Derived.Test.YtfklheagafffmaaGreatDoorZo7
import Derived.Test.YtfklheagafffmaaGreatDoorZo27
import Derived.Test.YtfklheagafffmaaGreatDoorZo29
import Derived.Test.YtfklheagafffmaaGreatDoorZo32
import Derived.Lib.Walk
import Derived.Lib.JoinLaws
import Derived.Lib.AppendZeros
import Derived.Lib.AppendZerosOnto
import Derived.Lib.Overlaps
import Derived.Laws.Externs
import Derived.Laws.IdiomCopy
import Derived.Laws.NewBlocks
import Derived.Deep.RegionLaw
import Derived.Lib.SliceRun
import Derived.RangeFuncBox
import Derived.RangeFuncNested
import Derived.RangeFuncLeaves
set_option linter.unusedVariables false
set_option linter.unusedSimpArgs false
namespace Go.Proofs.YtfklheagafffmaaGreatDoor
open Go.RowKit
def intL (L : List Nat) : List Int := L.map (fun k : Nat => (k : Int))
theorem earlyK_at {body : List GLit} {S : List ByteArray} {k : Nat} {y : GLit} (h : body[k]? = some y) : earlyK body S k = earlyB S y := by unfold earlyK; rw [h]
theorem posK_at {body : List GLit} {k : Nat} {y : GLit} (h : body[k]? = some y) : posK body k = posB y := by unfold posK; rw [h]
theorem mem_take_step {α : Type} {l : List α} {k : Nat} {x : α} (hx : l[k]? = some x) (y : α) : y ∈ l.take (k + 1) ↔ y ∈ l.take k ∨ y = x := by
  rw [List.take_add_one, hx]; simp
set_option maxRecDepth 100000 in
set_option maxHeartbeats 4000000 in
theorem next1_any (d gs gr g : Nat) (S : List ByteArray) (M : Nat) (body : List GLit) (b : Hd) (k : Nat) (w : World) (hS : SetV w g S M) (hs : w.cell? ⟨gs, 0, none⟩ = some (.map (some g))) (hr : w.cell? ⟨gr, 4, none⟩ = some b.v) (hx : SliceIs (Enc.lit d) w w.heap.size b.A b.n b.c body) (hk : k < body.length) (hsz : ∀ y ∈ body, (insideL y).length ≤ 1500) :
    Calls Tryz.prog 59 #[.int .i64 (k : Int), .pointer (some ⟨gs, 0, none⟩), .pointer (some ⟨gr, 0, none⟩)] w (RetBool (earlyK body S k) w) := by
  have hn := hx.1
  obtain ⟨bb, o, y, cs, hA, hlt, hy, ⟨a, p, q, rfl, hL⟩, hcs⟩ := hx.cells_at (i := k) (by omega)
  have HE := Lib.hid (fun (W : World) (hW : Below w.heap.size w W) => setEarly_any d g S M y a p q W (hS.below hW) (hL.keep hW) (hsz y (List.mem_of_getElem? hy.out)))
  have Hf : Hid (earlyK body S k = earlyB S y) := earlyK_at hy.out
  have hbd := hx.bound
  have HLd : Hid (∀ W, Below w.heap.size w W → ∀ j v, (litC y a p q)[j]? = some v → W.cell? ⟨bb, o + k * 17 + j, none⟩ = some v) := fun W hW j v hv => by
    rw [hW.cell (p := ⟨bb, o + k * 17 + j, none⟩) hlt]
    exact hcs j v hv
  have K70 : Hid ((Tryz.prog.info? 70).map (·.size) = some (litC y a p q).length) := by show _ = some 17; kernel_rfl
  have Hs := Lib.hid (fun (W : World) (hW : Below w.heap.size w W) => (hW.cell (p := ⟨gs, 0, none⟩) (World.block_lt_of_cell? w _ hs)).trans hs)
  have Hr := Lib.hid (fun (W : World) (hW : Below w.heap.size w W) => (hW.cell (p := ⟨gr, 4, none⟩) (World.block_lt_of_cell? w _ hr)).trans hr)
  obtain ⟨bA, bn, bc⟩ := b
  dsimp only [Hd.v] at *
  subst hA
  have i0 : (0 : Int) ≤ (k : Int) := by omega
  have i1 : (k : Int) < (bn : Int) := by omega
  have mixed : Tryz.prog.follows .mixedOrders = true := by kernel_rfl
  clear hS hx hsz hL hy hs hr hcs
  go_enter Tryz.func59, Tryz.ntmps59
  go_wp2_with fail
  refine drawnS mixed _ (Below w.heap.size w) rfl (by kernel_rfl) rfl (Below.drew (Below.refl _ _)) ?_
  apply seqS_op
  · intro W hW
    have c0 := Hs.out W hW
    go_wp2_with fail
    exact ⟨rfl, rfl, fun d hd => by cases hd; simp only [List.getElem?_toArray, List.getElem?_cons_succ, List.getElem?_cons_zero]; rfl, hW⟩
  simp only [Act.put, List.setIfInBounds_toArray, List.set_cons_succ, List.set_cons_zero]
  apply seqS_op
  · intro W hW
    go_wp2_with fail
    exact ⟨rfl, rfl, fun d hd => by cases hd; simp only [List.getElem?_toArray, List.getElem?_cons_succ, List.getElem?_cons_zero]; rfl, hW⟩
  simp only [Act.put, List.setIfInBounds_toArray, List.set_cons_succ, List.set_cons_zero]
  apply seqS_op
  · intro W hW
    have c0 := Hr.out W hW
    go_wp2_with fail
    exact ⟨rfl, rfl, fun d hd => by cases hd; simp only [List.getElem?_toArray, List.getElem?_cons_succ, List.getElem?_cons_zero]; rfl, hW⟩
  simp only [Act.put, List.setIfInBounds_toArray, List.set_cons_succ, List.set_cons_zero]
  apply seqS_op
  · intro W hW
    go_wp2_with fail
    exact ⟨rfl, rfl, fun d hd => by cases hd; simp only [List.getElem?_toArray, List.getElem?_cons_succ, List.getElem?_cons_zero]; rfl, hW⟩
  simp only [Act.put, List.setIfInBounds_toArray, List.set_cons_succ, List.set_cons_zero]
  apply seqS_op
  · intro W hW
    go_wp2_with fail
    exact ⟨rfl, rfl, fun d hd => by cases hd; simp only [List.getElem?_toArray, List.getElem?_cons_succ, List.getElem?_cons_zero]; rfl, hW⟩
  simp only [Act.put, List.setIfInBounds_toArray, List.set_cons_succ, List.set_cons_zero]
  apply seqS_op
  · intro W hW
    go_wp2_with (refine wpList_load_at bb (o + k * 17) (litC y a p q) _ (HLd.out W hW) Tryz.underlying70 rfl K70.out rfl rfl ?_)
    exact ⟨rfl, rfl, fun d hd => by cases hd; simp only [List.getElem?_toArray, List.getElem?_cons_succ, List.getElem?_cons_zero]; rfl, hW⟩
  simp only [Act.put, List.setIfInBounds_toArray, List.set_cons_succ, List.set_cons_zero]
  apply seqS_op
  · intro W hW
    go_wp2_with fail
    refine (HE.out W hW).mono ?_
    rintro e w1 ⟨rfl, hb1⟩
    go_wp2_with fail
    exact ⟨rfl, rfl, fun d hd => by cases hd; simp only [List.getElem?_toArray, List.getElem?_cons_succ, List.getElem?_cons_zero]; rfl, hW.trans (hb1.mono hW.size)⟩
  simp only [Act.put, List.setIfInBounds_toArray, List.set_cons_succ, List.set_cons_zero]
  apply seqS_op
  · intro W hW
    go_wp2_with fail
    exact ⟨rfl, rfl, fun d hd => by cases hd; simp only [List.getElem?_toArray, List.getElem?_cons_succ, List.getElem?_cons_zero]; rfl, hW⟩
  simp only [Act.put, List.setIfInBounds_toArray, List.set_cons_succ, List.set_cons_zero]
  apply seqS_end
  intro W1 hW1
  have HW := Lib.hid hW1
  clear hW1
  go_wp2_with fail
  go_ret
  exact ⟨by (rw [Hf.out]) <;> rfl, HW.out⟩
set_option maxRecDepth 100000 in
set_option maxHeartbeats 4000000 in
theorem next2_any (d gr : Nat) (body : List GLit) (b : Hd) (k : Nat) (w : World) (hr : w.cell? ⟨gr, 4, none⟩ = some b.v) (hx : SliceIs (Enc.lit d) w w.heap.size b.A b.n b.c body) (hk : k < body.length) :
    Calls Tryz.prog 61 #[.int .i64 (k : Int), .pointer (some ⟨gr, 0, none⟩)] w (RetBool (posK body k) w) := by
  have hn := hx.1
  obtain ⟨bb, o, y, a, p, q, hA, hlt, hy, hL, c0, -, -, -, -, -, -, -, -, -, -, -, -, -, -, -, -⟩ := hx.lit_at (i := k) (by omega)
  have Hf : Hid (posK body k = decide (y.k = 1)) := posK_at hy.out
  have hbd := hx.bound
  obtain ⟨bA, bn, bc⟩ := b
  dsimp only [Hd.v] at *
  subst hA
  have i0 : (0 : Int) ≤ (k : Int) := by omega
  have i1 : (k : Int) < (bn : Int) := by omega
  clear hx hL hy
  go_enter Tryz.func61, Tryz.ntmps61
  go_wp2_with fail
  go_ret
  exact ⟨by rw [Hf.out]; rfl, Below.refl _ _⟩
/-- the first place that serves -/
def FirstI (p : Nat → Bool) (L : List Nat) (w : World) (e : Ending) (w' : World) : Prop :=
  Below w.heap.size w w' ∧ ((e = .returned (.int .i64 (-1)) ∧ ∀ x ∈ L, p x = false) ∨ ∃ j x : Nat, e = .returned (.int .i64 (j : Int)) ∧ L[j]? = some x ∧ p x = true ∧ ∀ y ∈ L.take j, p y = false)
set_option maxRecDepth 100000 in
set_option maxHeartbeats 2000000 in
theorem indexI_any {gf : Nat} {bs lb : Array Value} (eg : ∀ args w, (callFunc gf args).run Tryz.prog w = .ok (.enter gf args) w) (p : Nat → Bool) (A : Option Addr) (n c : Nat) (L : List Nat) (w : World) (hl : SliceIs Enc.int w w.heap.size A n c (intL L))
    (hC : ∀ x ∈ L, ∀ W, Below w.heap.size w W → Calls Tryz.prog gf (bs.push (.int .i64 (x : Int)) ++ lb) W (RetBool (p x) W)) :
    Calls Tryz.prog 58 #[.slice A n c, .func (.func gf) bs lb] w (FirstI p L w) := by
  have hn := hl.bound
  have hlen : L.length = n := by have := hl.1; unfold intL at this; simpa using this
  have HLen := Lib.hid hlen
  have HC := Lib.hid hC
  have HL := Lib.hid hl
  clear hC hl hlen
  go_enter Tryz.func58, Tryz.ntmps58
  go_wp2_with fail
  go_loopw [5, 8] (fun _ i wr => ∃ k : Nat, k ≤ n ∧ i = .int .i64 (k : Int) ∧ Hid (∀ y ∈ L.take k, p y = false) ∧ Hid (Below w.heap.size w wr)) (fun _ i _ => n - (intOf i).toNat)
  case atStart => exact ⟨0, by omega, rfl, (fun y hy => by simp at hy), Below.refl _ _⟩
  case round =>
    obtain ⟨k, hk, rfl, Hp, HB⟩ := hrel
    have i0 : (0 : Int) ≤ (k : Int) := by omega
    by_cases hlt : k < n
    · have i1 : (k : Int) < (n : Int) := by omega
      obtain ⟨b, o, x', rfl, -, hx', x0, -⟩ := (HL.out.mono HB.out.size HB.out.block).int_at hlt
      obtain ⟨x, HX, rfl⟩ : ∃ x : Nat, Hid (L[k]? = some x) ∧ x' = (x : Int) := by
        have h := hx'.out
        unfold intL at h
        rw [List.getElem?_map, Option.map_eq_some_iff] at h
        obtain ⟨x, h1, h2⟩ := h
        exact ⟨x, h1, h2.symm⟩
      have HCx := Lib.hid (HC.out x (List.mem_of_getElem? HX.out) wr HB.out)
      clear hx'
      go_wp2_with fail
      refine HCx.out.mono ?_
      rintro e w2 ⟨rfl, hb2⟩
      have HB2 : Hid (Below w.heap.size w w2) := HB.out.trans (hb2.mono HB.out.size)
      clear hb2
      cases hm : p x with
      | true =>
        have HE2 : Hid (FirstI p L w (.returned (.int .i64 (k : Int))) w2) := ⟨HB2.out, .inr ⟨k, x, rfl, HX.out, hm, Hp.out⟩⟩
        clear hm
        go_wp2_with fail
        go_ret
        exact HE2.out
      | false =>
        have Hp2 : Hid (∀ y ∈ L.take (k + 1), p y = false) := fun y hy => by
          rw [mem_take_step HX.out] at hy
          rcases hy with hy | rfl
          · exact Hp.out y hy
          · exact hm
        clear hm
        go_wp2_with fail
        go_roundw
        case rel => exact ⟨k + 1, by omega, by go_num, Hp2, HB2⟩
        case measure => simp [intOf]; omega
    · have i1 : ¬ (k : Int) < (n : Int) := by omega
      have HE : Hid (FirstI p L w (.returned (.int .i64 (-1))) wr) := ⟨HB.out, .inl ⟨rfl, fun x hx => Hp.out x (by rw [List.take_of_length_le (by have := HLen.out; omega)]; exact hx)⟩⟩
      go_wp2_with fail
      go_ret
      exact HE.out
/-- which place is next -/
def SfNextPost (body : List GLit) (S : List ByteArray) (L : List Nat) (w : World) (e : Ending) (w' : World) : Prop :=
  Below w.heap.size w w' ∧ ((e = .returned (.int .i64 (-1)) ∧ nextK body S L = none) ∨ ∃ j k : Nat, e = .returned (.int .i64 (j : Int)) ∧ nextK body S L = some k ∧ L[j]? = some k ∧ L.erase k = L.eraseIdx j)
theorem erase_at {L : List Nat} {p : Nat → Bool} {j k : Nat} (hk : L[j]? = some k) (hp : p k = true) (hn : ∀ y ∈ L.take j, p y = false) : L.erase k = L.eraseIdx j := by
  obtain ⟨hj, he⟩ := List.getElem?_eq_some_iff.1 hk
  have hnot : k ∉ L.take j := fun h => by rw [hn k h] at hp; cases hp
  have e1 : L = L.take j ++ k :: L.drop (j + 1) := by
    rw [← he, List.getElem_cons_drop, List.take_append_drop]
  rw [List.eraseIdx_eq_take_drop_succ]
  conv => lhs; rw [e1]
  rw [List.erase_append_right _ hnot, List.erase_cons_head]
theorem find_at {L : List Nat} {p : Nat → Bool} {j k : Nat} (hk : L[j]? = some k) (hp : p k = true) (hn : ∀ y ∈ L.take j, p y = false) : L.find? p = some k := by
  obtain ⟨hj, he⟩ := List.getElem?_eq_some_iff.1 hk
  have e1 : L = L.take j ++ k :: L.drop (j + 1) := by
    rw [← he, List.getElem_cons_drop, List.take_append_drop]
  rw [List.find?_eq_some_iff_append]
  exact ⟨hp, L.take j, L.drop (j + 1), e1, fun y hy => by rw [hn y hy]; rfl⟩
set_option maxRecDepth 100000 in
set_option maxHeartbeats 4000000 in
theorem sfNext_any (d g : Nat) (S : List ByteArray) (M : Nat) (x : GRule) (a b : Hd) (A : Option Addr) (n c : Nat) (L : List Nat) (w : World) (hS : SetV w g S M) (hx : RuleAt d w w.heap.size x a b) (hl : SliceIs Enc.int w w.heap.size A n c (intL L)) (hL : ∀ k ∈ L, k < x.body.length) (hsz : ∀ y ∈ x.body, (insideL y).length ≤ 1500) :
    Calls Tryz.prog 33 #[.map (some g), .agg (ruleC x a b).toArray, .slice A n c] w (SfNextPost x.body S L w) := by
  obtain ⟨V, hV⟩ : ∃ V, V = (w.alloc (.cells #[.map (some g)] 98)).alloc (.cells (ruleC x a b).toArray 27) := ⟨_, rfl⟩
  have hrs : V.heap[w.heap.size]? = some (.cells #[.map (some g)] 98 (0, 0)) := by rw [hV]; exact heapOld (heapNew rfl)
  have hrr : V.heap[w.heap.size + 1]? = some (.cells (ruleC x a b).toArray 27 (0, 0)) := by rw [hV]; exact heapNew (by simp)
  have hbw : Below w.heap.size w V := by rw [hV]; exact belowA (belowA (Below.refl _ _) _) _
  have HBW := Lib.hid hbw
  have HVe := Lib.hid hV.symm
  have hzV : V.heap.size = w.heap.size + 2 := by rw [hV]; simp
  have HZ := Lib.hid hzV
  have HS : Hid (SetV V g S M) := by show SetV _ _ _ _; rw [hV]; exact (hS.alloc _).alloc _
  have HBd := Lib.hid (hx.body.keep hbw)
  have HL := Lib.hid (hl.keep hbw)
  have H1 := Lib.hid (fun (W : World) (hW : Below V.heap.size V W) (k : Nat) (hk : k ∈ L) => next1_any d w.heap.size (w.heap.size + 1) g S M x.body b k W (HS.out.below hW)
    ((cell_of_row _ _ 0 _ _ _ ((hW.block _ (by omega)).trans hrs)).trans rfl) ((facts6 ((hW.block _ (by omega)).trans hrr)).2.2.2.2.1) (HBd.out.keep hW) (hL k hk) hsz)
  have H2 := Lib.hid (fun (W : World) (hW : Below V.heap.size V W) (k : Nat) (hk : k ∈ L) => next2_any d (w.heap.size + 1) x.body b k W
    ((facts6 ((hW.block _ (by omega)).trans hrr)).2.2.2.2.1) (HBd.out.keep hW) (hL k hk))
  have HI1 := Lib.hid (indexI_any (gf := 59) (bs := #[]) (lb := #[.pointer (some ⟨w.heap.size, 0, none⟩), .pointer (some ⟨w.heap.size + 1, 0, none⟩)]) (fun args w => by rfl) (earlyK x.body S) A n c L V HL.out (fun k hk W hW => H1.out W hW k hk))
  have HI2 := Lib.hid (fun (W : World) (hW : Below V.heap.size V W) => indexI_any (gf := 61) (bs := #[]) (lb := #[.pointer (some ⟨w.heap.size + 1, 0, none⟩)]) (fun args w => by rfl) (posK x.body) A n c L W (HL.out.keep hW) (fun k hk W' hW' => H2.out W' (hW.trans (hW'.mono hW.size)) k hk))
  clear hS hx hl hL hsz hrs hrr hbw hV
  go_enter Tryz.func33, Tryz.ntmps33
  go_wp2_with (rw [HVe.out])
  refine HI1.out.mono ?_
  rintro e w1 ⟨hb1, (⟨rfl, hall⟩ | ⟨j, k, rfl, hj, hp, hbef⟩)⟩
  · have HQ1 := Lib.hid hb1
    have HN : Hid (L.find? (earlyK x.body S) = none) := List.find?_eq_none.2 fun k hk h => by rw [hall k hk] at h; cases h
    have HI := Lib.hid (HI2.out w1 hb1)
    clear hb1 hall
    go_wp2_with fail
    refine HI.out.mono ?_
    intro e w2 hh
    have HE : Hid (SfNextPost x.body S L w e w2) := by
      obtain ⟨hb2, h⟩ := hh
      refine ⟨HBW.out.trans ((HQ1.out.trans (hb2.mono HQ1.out.size)).mono HBW.out.size), ?_⟩
      unfold nextK
      rw [HN.out]
      rcases h with ⟨rfl, hall⟩ | ⟨j, k, rfl, hj, hp, hbef⟩
      · exact .inl ⟨rfl, List.find?_eq_none.2 fun k hk h => by rw [hall k hk] at h; cases h⟩
      · exact .inr ⟨j, k, rfl, find_at hj hp hbef, hj, erase_at hj hp hbef⟩
    obtain ⟨i, hei⟩ : ∃ i : Int, e = .returned (.int .i64 i) := by
      rcases hh.2 with ⟨rfl, -⟩ | ⟨j, k, rfl, -⟩
      · exact ⟨_, rfl⟩
      · exact ⟨_, rfl⟩
    subst hei
    clear hh
    go_wp2_with fail
    go_ret
    exact HE.out
  · have HE : Hid (SfNextPost x.body S L w (.returned (.int .i64 (j : Int))) w1) := by
      refine ⟨HBW.out.trans (hb1.mono HBW.out.size), .inr ⟨j, k, rfl, ?_, hj, erase_at hj hp hbef⟩⟩
      unfold nextK
      rw [find_at hj hp hbef]; rfl
    clear hb1 hj hp hbef
    have i0 : (0 : Int) ≤ (j : Int) := by omega
    go_wp2_with fail
    go_ret
    exact HE.out
end Go.Proofs.YtfklheagafffmaaGreatDoor

set_option linter.unusedVariables false
namespace Go.Proofs.YtfklheagafffmaaGreatDoor
open Go.RowKit Go.Lib
theorem setCells_heap {e : TypeId} (g : Nat) : ∀ (vs : List Value) (o : Nat) (w : World) (cur : Array Value), w.heap[g]? = some (.cells cur e (0, 0)) → ∃ cur', (w.setCells g o vs).heap[g]? = some (.cells cur' e (0, 0)) ∧ cur'.size = cur.size
  | [], _, _, cur, h => ⟨cur, h, rfl⟩
  | v :: r, o, w, cur, h => by
    obtain ⟨cur', h1, h2⟩ := setCells_heap g r (o + 1) (w.setCell ⟨g, o, none⟩ v) _ (heap_setCell_same w g o cur e v h)
    exact ⟨cur', h1, by rw [h2]; simp⟩
theorem setCells_out (g : Nat) : ∀ (vs : List Value) (o : Nat) (w : World), Out [g] w (w.setCells g o vs)
  | [], _, w => Out.refl _ w
  | v :: r, o, w => by
    have h1 : Out [g] w (w.setCell ⟨g, o, none⟩ v) := ⟨rfl, rfl, rfl, by simp, fun b _ hb => heap_setCell_other w ⟨g, o, none⟩ b v (by simpa using hb)⟩
    exact h1.trans (setCells_out g r (o + 1) _) (fun b hb _ => hb)
theorem own_of_cells {w : World} {e : TypeId} {g n cap base : Nat} {cur : Array Value} {xs : List Value} (h : w.heap[g]? = some (.cells cur e (0, 0))) (hb : base ≤ g) (hn : n ≤ cap) (hc : cap ≤ maxLen) (hs : cur.size = cap) (hl : xs.length = n)
    (hx : ∀ j v, xs[j]? = some v → w.cell? ⟨g, j, none⟩ = some v) : w.ownsRow base e 1 (.slice (some ⟨g, 0, none⟩) n cap) n xs := by
  refine ⟨by rw [hl, Nat.mul_one], .inr ⟨g, cap, cur, rfl, hb, h, hn, hc, by rw [hs, Nat.mul_one], ?_⟩⟩
  apply List.ext_getElem?
  intro j
  rw [Nat.mul_one, List.getElem?_take]
  by_cases hj : j < n
  · rw [if_pos hj]
    have h1 := hx j _ (List.getElem?_eq_getElem (by omega))
    rw [cell_of_row _ _ j _ _ _ h, ← Array.getElem?_toList] at h1
    rw [h1, List.getElem?_eq_getElem (by omega)]
  · rw [if_neg hj, List.getElem?_eq_none (by omega)]
theorem int_infoD : (Tryz.prog.info? 3).map (fun i => (i.zero, i.size, i.bytes)) = some (some (.int .i64 0), 1, 8) := by kernel_rfl
def DelPost (n i : Nat) (v : Value) (xs : List Value) (w : World) (e : Ending) (w' : World) : Prop :=
  ∃ A c, e = .returned (.slice A (n - 1) c) ∧ w'.ownsRow 0 3 1 (.slice A (n - 1) c) (n - 1) (xs.take i ++ xs.drop (i + 1)) ∧ Out v.ownBlock.toList w w' ∧ (Value.slice A (n - 1) c).ownBlock = v.ownBlock
set_option maxHeartbeats 4000000 in
set_option maxRecDepth 1000000 in
theorem delete_at (A : Option Addr) (n c i k : Nat) (hk : k = i + 1) (xs : List Value) (w : World) (hn : n ≤ 1000000) (hi : i < n) (hown : w.ownsRow 0 3 1 (.slice A n c) n xs) (h1 : ∀ x ∈ xs, x.oneCell' = true) :
    Calls Tryz.prog 34 #[.slice A n c, .int .i64 i, .int .i64 k] w (DelPost n i (.slice A n c) xs w) := by
  have hxl : xs.length = n := by have := hown.1; omega
  rcases hown.2 with ⟨hnil, hn0⟩ | ⟨g, cap, cur, hsl, hg0, hh, hnc, hcm, hcs, htk⟩
  · omega
  simp only [Value.slice.injEq] at hsl
  obtain ⟨rfl, _, rfl⟩ := hsl
  rw [Nat.mul_one] at hcs htk
  have hcap : c ≤ 9223372036854775807 := by have := hcm; unfold maxLen at this; omega
  have hcells : ∀ j v, xs[j]? = some v → w.cell? ⟨g, j, none⟩ = some v := by
    intro j v hj
    have hjn : j < n := by have := (List.getElem?_eq_some_iff.1 hj).1; omega
    rw [cell_of_row _ _ j _ _ _ hh, ← Array.getElem?_toList]
    have := congrArg (fun l => l[j]?) htk
    simp only [List.getElem?_take, if_pos hjn] at this
    rw [this]; exact hj
  have hsome : ∀ j, j < c → (w.cell? ⟨g, j, none⟩).isSome = true := by
    intro j hj
    rw [cell_of_row _ _ j _ _ _ hh, Array.getElem?_eq_getElem (by omega)]; rfl
  have hfz : ∀ j, w.frozen? ⟨g, j, none⟩ = false := fun j => frozen_of_row _ _ _ _ _ hh
  obtain ⟨i0, hi0, hz0, hz1, hz2⟩ := info_parts int_infoD
  obtain ⟨news, hnews⟩ : ∃ news, news = xs.drop (i + 1) := ⟨_, rfl⟩
  have hlen : news.length = n - (i + 1) := by rw [hnews, List.length_drop, hxl]
  obtain ⟨A, hA, hsrc⟩ : ∃ A : Addr, (if c = i + 1 then some (⟨g, 0, none⟩ : Addr) else some ⟨g, i + 1, none⟩) = some A ∧ Hid (∀ t u, news[t]? = some u → w.drew.cell? (A.add t) = some u) := by
    by_cases h : c = i + 1
    · refine ⟨⟨g, 0, none⟩, by simp [h], fun t u hu => ?_⟩
      have h0 : news.length = 0 := by rw [hlen]; omega
      rw [List.length_eq_zero_iff.1 h0] at hu
      simp at hu
    · refine ⟨⟨g, i + 1, none⟩, by simp [h], fun t u hu => ?_⟩
      rw [Addr.add_lit]
      rw [hnews, List.getElem?_drop] at hu
      exact hcells (i + 1 + t) u hu
  have s1 : Hid (news.length = (n - (i + 1)) * 1) := by rw [Nat.mul_one]; exact hlen
  have s2 : Hid (∀ u ∈ news, u.oneCell' = true) := by
    intro u hu; rw [hnews] at hu; exact h1 u (List.mem_of_mem_drop hu)
  have s3 : Hid (∀ t, t < news.length → (w.drew.cell? ⟨g, 0 + i * 1 + t, none⟩).isSome = true ∧ w.drew.frozen? ⟨g, 0 + i * 1 + t, none⟩ = false) := by
    intro t ht
    rw [hlen] at ht
    exact ⟨hsome _ (by omega), hfz _⟩
  obtain ⟨W1, hW1⟩ : ∃ W1, W1 = w.drew.setCells g (0 + i * 1) news := ⟨_, rfl⟩
  obtain ⟨cur1, hc1, hs1⟩ := setCells_heap (e := 3) g news (0 + i * 1) w.drew cur hh
  have hc1 : W1.heap[g]? = some (.cells cur1 3 (0, 0)) := by rw [hW1]; exact hc1
  have hcl : ∀ ty, (Builtin.clear_ #[37] ty #[.slice (some ⟨g, i + (n - (i + 1)), none⟩) (n - (i + (n - (i + 1)))) (c - (i + (n - (i + 1))))]).run Tryz.prog W1 = .ok (.tuple #[]) (W1.setCells g (i + (n - (i + 1))) (List.replicate (n - (i + (n - (i + 1)))) (.int .i64 0))) :=
    fun ty => Lib.run_clear_slice W1 _ _ ty _ Tryz.underlying37 Tryz.zeroValue3 rfl rfl g (i + (n - (i + 1))) _ _ (by omega) (fun t ht => by rw [cell_of_row _ _ _ _ _ _ hc1, Array.getElem?_eq_getElem (by omega)]; rfl) (fun t ht => frozen_of_row _ _ _ _ _ hc1)
  have hout : Out [g] w (W1.setCells g (i + (n - (i + 1))) (List.replicate (n - (i + (n - (i + 1)))) (.int .i64 0))) := by
    rw [hW1]
    exact ((Out.of_below (Below.drew (Below.refl _ _)) [g]).trans (setCells_out g _ _ _) (fun b hb _ => hb)).trans (setCells_out g _ _ _) (fun b hb _ => hb)
  obtain ⟨cur2, hc2, hs2⟩ := setCells_heap (e := 3) g (List.replicate (n - (i + (n - (i + 1)))) (.int .i64 0)) (i + (n - (i + 1))) W1 cur1 hc1
  have hfin : (W1.setCells g (i + (n - (i + 1))) (List.replicate (n - (i + (n - (i + 1)))) (.int .i64 0))).ownsRow 0 3 1 (.slice (some ⟨g, 0, none⟩) (n - 1) c) (n - 1) (xs.take i ++ xs.drop (i + 1)) := by
    refine own_of_cells hc2 (Nat.zero_le _) (by omega) hcm (by rw [hs2, hs1]; exact hcs) (by simp; omega) ?_
    intro j v hj
    have hjl : j < n - 1 := by have := (List.getElem?_eq_some_iff.1 hj).1; simp at this; omega
    rw [World.cell?_setCells_out g _ _ _ _ (fun _ _ => by show j < i + (n - (i + 1)) ∨ _; omega), hW1]
    by_cases hji : j < i
    · rw [World.cell?_setCells_out g _ _ _ _ (fun _ _ => by show j < 0 + i * 1 ∨ _; omega)]
      rw [List.getElem?_append_left (by rw [List.length_take]; omega), List.getElem?_take, if_pos hji] at hj
      exact hcells j v hj
    · rw [List.getElem?_append_right (by rw [List.length_take]; omega), List.length_take, Nat.min_eq_left (by omega)] at hj
      have hk : j - i < news.length := by rw [hlen]; omega
      have := World.cell?_setCells_in g news (0 + i * 1) w.drew (fun q hq => hsome _ (by omega)) (j - i) hk
      rw [show 0 + i * 1 + (j - i) = j by omega] at this
      rw [this]
      have e : news[j - i]? = some v := by rw [hnews]; exact hj
      rw [List.getElem?_eq_getElem hk] at e
      exact e
  have hW : Hid (W1 = w.drew.setCells g (0 + i * 1) news) := hW1
  have hic : i ≤ c := by omega
  have hjc : i + 1 ≤ c := by omega
  have HF := Lib.hid (And.intro hfin hout)
  have e3 : i + (n - k) = n - 1 := by omega
  have E3 := Lib.hid e3
  rw [← hk] at s1 hA hcl HF
  have hik : i < k := by omega
  have hkn : k ≤ n := by omega
  have hkc : k ≤ c := by omega
  have hki : ¬ (c = i) := by omega
  have hne : ((i : Int) == (k : Int)) = false := by simp; omega
  have Hk := Lib.hid hk
  clear hk hjc hW1 hc1 hc2 hs1 hs2 hh htk hnews hlen hcells hsome hfz hfin hout hxl hown h1 e3
  go_enter Tryz.func34, Tryz.ntmps34
  go_wp2_with fail
  go_region_law (refine step_append_room rfl (.tmp 22) (.tmp 25) 37 rfl 3 i0 1 Tryz.underlying37 hi0 hz1 g 0 i c (by simp [Act.eval, Act.put]) A (n - k) (c - k) news (by simp [Act.eval, Act.put]) s1.out hsrc.out s2.out (by omega) s3.out ?_; rw [← hW.out])
  go_wp2
  go_ret
  refine ⟨some ⟨g, 0, none⟩, c, ?_, (by have h := HF.out.1; rw [show List.drop k xs = List.drop (i + 1) xs by rw [Hk.out]] at h; exact h), by simpa [Value.ownBlock] using HF.out.2, rfl⟩
  show Ending.returned (.slice (some ⟨g, 0, none⟩) (i + (n - k)) c) = _
  rw [E3.out]
theorem delete_any (A : Option Addr) (n c i : Nat) (xs : List Value) (w : World) (hn : n ≤ 1000000) (hi : i < n) (hown : w.ownsRow 0 3 1 (.slice A n c) n xs) (h1 : ∀ x ∈ xs, x.oneCell' = true) :
    Calls Tryz.prog 34 #[.slice A n c, .int .i64 i, .int .i64 ((i : Int) + 1)] w (DelPost n i (.slice A n c) xs w) :=
  delete_at A n c i (i + 1) rfl xs w hn hi hown h1
end Go.Proofs.YtfklheagafffmaaGreatDoor

namespace Go.Proofs.YtfklheagafffmaaGreatDoor
open Go.RowKit
/-- what the function does between rounds: what lay below lo, and from N on, stays -/
structure Mine (lo N : Nat) (w w' : World) : Prop where
  os : w'.os = w.os
  tape : w'.tape = w.tape
  output : w'.output = w.output
  size : w.heap.size ≤ w'.heap.size
  block : ∀ b, b < w.heap.size → (b < lo ∨ N ≤ b) → w'.heap[b]? = w.heap[b]?
theorem Mine.refl (lo N : Nat) (w : World) : Mine lo N w w := ⟨rfl, rfl, rfl, Nat.le_refl _, fun _ _ _ => rfl⟩
theorem Mine.trans {lo N : Nat} {w w1 w2 : World} (h : Mine lo N w w1) (k : Mine lo N w1 w2) : Mine lo N w w2 :=
  ⟨k.os.trans h.os, k.tape.trans h.tape, k.output.trans h.output, Nat.le_trans h.size k.size, fun b hb hx => (k.block b (Nat.lt_of_lt_of_le hb h.size) hx).trans (h.block b hb hx)⟩
theorem Mine.of_below {lo N : Nat} {w w' : World} (h : Below w.heap.size w w') : Mine lo N w w' := ⟨h.os, h.tape, h.output, h.size, fun b hb _ => h.block b hb⟩
theorem Mine.of_out {lo N : Nat} {T : List Nat} {w w' : World} (h : Out T w w') (hT : ∀ b ∈ T, lo ≤ b ∧ b < N) : Mine lo N w w' :=
  ⟨h.os, h.tape, h.output, h.size, fun b hb hx => h.block b hb (fun hbT => by have := hT b hbT; omega)⟩
theorem Mine.mono {lo N N' : Nat} {w w' : World} (h : Mine lo N w w') (hN : N ≤ N') : Mine lo N' w w' := ⟨h.os, h.tape, h.output, h.size, fun b hb hx => h.block b hb (by omega)⟩
/-- what lay below B stays, and the cells from N on -/
structure SoftN (B N : Nat) (w w' : World) : Prop where
  os : w'.os = w.os
  tape : w'.tape = w.tape
  output : w'.output = w.output
  size : w.heap.size ≤ w'.heap.size
  same : ∀ b o, w.heap[b]? = some o → (b < B ∨ (N ≤ b ∧ o.isCells = true)) → w'.heap[b]? = some o
theorem SoftN.of_soft {B N : Nat} {w w' : World} (h : Soft B w w') : SoftN B N w w' := ⟨h.os, h.tape, h.output, h.size, fun b o hb hx => h.same b o hb (by rcases hx with h | h; exact .inl h; exact .inr h.2)⟩
theorem SoftN.of_mine {B lo N : Nat} {w w' : World} (h : Mine lo N w w') (hB : B ≤ lo) : SoftN B N w w' :=
  ⟨h.os, h.tape, h.output, h.size, fun b o hb hx => (h.block b (Array.getElem?_eq_some_iff.1 hb).1 (by omega)).trans hb⟩
theorem SoftN.row {B N : Nat} {w w' : World} (h : SoftN B N w w') {b : Nat} {cs : Array Value} {t : TypeId} {fr : Nat × Nat} (hb : w.heap[b]? = some (.cells cs t fr)) (hx : b < B ∨ N ≤ b) : w'.heap[b]? = some (.cells cs t fr) := h.same b _ hb (by rcases hx with h | h; exact .inl h; exact .inr ⟨h, rfl⟩)
theorem SoftN.own {B N : Nat} {w w' : World} (h : SoftN B N w w') {base e sz : Nat} {v : Value} {n : Nat} {xs : List Value} (ho : w.ownsRow base e sz v n xs) (hb : N ≤ base) : w'.ownsRow base e sz v n xs := by
  refine ⟨ho.1, ?_⟩
  rcases ho.2 with hn | ⟨g, cap, cur, rfl, hg, hh, r⟩
  · exact .inl hn
  · exact .inr ⟨g, cap, cur, rfl, hg, h.row hh (.inr (by omega)), r⟩
/-- the contract of an iterator with memory of its own (below N, from the world of its call on) -/
def SeqR3 {α : Type} (P : Program) (g : Nat) (lb : Array Value) (encs : α → Array Value) (R : List α → α → Nat → World → World → Prop) (S₀ : List Nat) (S Sp : List α → Prop) (w : World) : Prop :=
  ∀ (l : Nat) (J Jx : Nat → List α → World → Prop) (W : World), Below w.heap.size w W → w.heap.size ≤ l → l < W.heap.size →
    (∀ N pre W1 W2, J N pre W1 → N ≤ W1.heap.size → Mine W.heap.size N W1 W2 → J N pre W2) →
    (∀ N W1, Below W.heap.size W W1 → W.heap.size ≤ N → N ≤ W1.heap.size → J N [] W1) →
    (∀ m N pre x Wm W1, J N pre Wm → N ≤ Wm.heap.size → Below Wm.heap.size Wm W1 → R pre x N Wm W1 → YieldAt Fence.wide m P l (encs x) W1 fun e W' =>
      (e = .returned (.bool true) ∧ J N (pre ++ [x]) W' ∧ W1.heap.size ≤ W'.heap.size ∧ (∀ b, b < N → b ∉ S₀ → b ≠ l → W'.heap[b]? = W1.heap[b]?)) ∨ (e = .returned (.bool false) ∧ Jx N (pre ++ [x]) W')) →
    Calls P g (#[.func (.yield l) #[] #[]] ++ lb) W fun e W' => (∃ v, e = .returned v) ∧ ((∃ N xs, S xs ∧ J N xs W') ∨ (∃ N pre, Sp pre ∧ Jx N pre W'))
section
variable {n : Nat} {P : Program}
/-- the statement 'for x := range g { .. }' -/
theorem range_law3 {α : Type} {g : Operand} {ps : Array Tmp} {assign body : Code} {Q : Exit → Act → World → Prop} {a : Act} {w : World}
    {gf : Nat} {lb : Array Value} (hg : a.eval g = .func (.func gf) #[] lb) (eg : ∀ args w, (callFunc gf args).run P w = .ok (.enter gf args) w)
    {encs : α → Array Value} {R : List α → α → Nat → World → World → Prop} {S₀ : List Nat} {S Sp : List α → Prop} {w0 : World} (hseq : SeqR3 P gf lb encs R S₀ S Sp w0) (hb0 : Below w0.heap.size w0 w) (hS₀ : ∀ b ∈ S₀, b < w.heap.size) (hps : ∀ x, (encs x).size = ps.size)
    (I : Nat → List α → World → Prop) (Ix : Code → Nat → List α → World → Prop)
    (hI : ∀ N pre W W', I N pre W → SoftN w.heap.size N W W' → I N pre W') (hIx : ∀ c N pre W W', Ix c N pre W → Soft w.heap.size W W' → Ix c N pre W')
    (h0 : ∀ N W, Soft w.heap.size w W → w.heap.size + 2 ≤ N → N ≤ W.heap.size → I N [] W)
    (hround : ∀ (k N : Nat) (pre : List α) (x : α) (Wm W1 : World) (K : Act → World → Prop), I N pre Wm → Below Wm.heap.size Wm W1 → I N pre W1 → w.heap.size + 2 ≤ N → N ≤ Wm.heap.size → R pre x N Wm W1 →
      (∀ a' W1', Below W1.heap.size W1 W1' → (∀ W2, Soft w.heap.size W1' W2 → W2.heap.size = W1'.heap.size → body.wpIn (Fence.wide.inRound (w.heap.size + 1)) k P (turnPost S₀ N I Ix (pre ++ [x]) W2) a' W2) → K a' W1') →
      assign.wpIn (Fence.wide.inRound (w.heap.size + 1)) k P (Exit.then K (fun _ _ _ => False)) { tmps := (ps.zip (encs x)).foldl (fun t (p, v) => t.setIfInBounds p v) a.tmps, defers := [] } W1)
    (hdone : ∀ (N : Nat) (xs : List α) (W : World), S xs → I N xs W → W.heap[w.heap.size]? = some (.deferred (some [])) → Q .normal { a with defers := { target := .collected w.heap.size, args := #[] } :: a.defers } W)
    (hstop : ∀ (c : Code) (N : Nat) (pre : List α) (W : World), Sp pre → Ix c N pre W → W.heap[w.heap.size]? = some (.deferred (some [])) → c.wpIn Fence.wide n P Q { a with defers := { target := .collected w.heap.size, args := #[] } :: a.defers } W) :
    (Code.rangeFunc g ps assign body).wpIn Fence.wide n P Q a w := by
  refine wpIn_rangeFunc fun fn _ => ?_
  obtain ⟨rec, hrec⟩ : ∃ rec : LoopState → Option Code → Loop, rec = fun st pe => { state := st, pending := pe, fn, tmps := a.tmps, params := ps, assign, body, defers := w.heap.size } := ⟨_, rfl⟩
  obtain ⟨W1, hW1⟩ : ∃ W1, (w.alloc (.deferred (some []))).alloc (.loop (rec .ready none)) = W1 := ⟨_, rfl⟩
  have hL1 : W1.heap[w.heap.size + 1]? = some (.loop (rec .ready none)) := by rw [← hW1]; exact heapNew (by simp)
  have hK1 : W1.heap[w.heap.size]? = some (.deferred (some [])) := by rw [← hW1]; exact heapOld (heapNew rfl)
  have hbw : Below w.heap.size w W1 := by rw [← hW1]; exact belowA (belowA (Below.refl _ _) _) _
  have hz1 : W1.heap.size = w.heap.size + 2 := by rw [← hW1]; simp
  have hb1 : Below w0.heap.size w0 W1 := hb0.trans (hbw.mono hb0.size)
  have hs0 := hb0.size
  refine ⟨w.heap.size + 1, [{ target := .collected w.heap.size, args := #[] }], W1, { target := .fn (.func gf) lb, args := #[.func (.yield (w.heap.size + 1)) #[] #[]] }, W1, gf,
    #[.func (.yield (w.heap.size + 1)) #[] #[]] ++ lb, W1, ?_, ?_, fun _ _ => trivial, ?_, fun h => (by cases h), ?_⟩
  · rw [← hW1, hrec]; exact run_enterLoop_outer _ _ _ _ _
  · simp only [resolve, hg]
    simp [go_sem]
  · simp [invoke, go_sem, eg]
  refine callsIn_wide.2 ((hseq (w.heap.size + 1)
    (fun N pre W => I N pre W ∧ W.heap[w.heap.size + 1]? = some (.loop (rec .ready none)) ∧ W.heap[w.heap.size]? = some (.deferred (some [])) ∧ w.heap.size + 2 ≤ N ∧ N ≤ W.heap.size)
    (fun N pre W => ∃ c, Ix c N pre W ∧ W.heap[w.heap.size + 1]? = some (.loop (rec .done (some c))) ∧ W.heap[w.heap.size]? = some (.deferred (some [])))
    W1 hb1 (by omega) (by omega) ?_ ?_ ?_).mono ?_)
  · rintro N pre A B ⟨h1, h2, h3, h4, h5⟩ - hb
    have l2 := (Array.getElem?_eq_some_iff.1 h2).1
    exact ⟨hI _ _ _ _ h1 (SoftN.of_mine hb (by omega)), (hb.block _ l2 (by omega)).trans h2, (hb.block _ (by omega) (by omega)).trans h3, h4, Nat.le_trans h5 hb.size⟩
  · intro N W hb hN hN2
    have l2 := (Array.getElem?_eq_some_iff.1 hL1).1
    exact ⟨h0 N W ((Soft.of_below _ hbw).trans (Soft.of_below _ hb)) (by omega) hN2, (hb.block _ l2).trans hL1, (hb.block _ (by omega)).trans hK1, by omega, hN2⟩
  · -- one round
    rintro m N pre x Wm W ⟨hi, hl, hk, hN, hN2⟩ - hbm hRx
    have him := hi
    replace hi := hI _ _ _ _ hi (SoftN.of_soft (Soft.of_below _ hbm))
    replace hl := (hbm.block _ (Array.getElem?_eq_some_iff.1 hl).1).trans hl
    replace hk := (hbm.block _ (by omega)).trans hk
    have hzm := hbm.size
    have hy := run_yield (P := P) (args := encs x) hl (by rw [hrec]; exact hps x)
    have hfold : ((rec .ready none).params.zip (encs x)).foldl (fun tmps (t, a) => tmps.setIfInBounds t a) (rec .ready none).tmps = (ps.zip (encs x)).foldl (fun t (p, v) => t.setIfInBounds p v) a.tmps := by rw [hrec]
    refine ⟨_, _, _, _, hy, roundIn_of_wpIn trivial ?_⟩
    rw [hfold, show (rec .ready none).assign = assign by rw [hrec], show (rec .ready none).body = body by rw [hrec]]
    have hlt : w.heap.size + 1 < W.heap.size := by omega
    refine hround m N pre x Wm W _ him hbm hi hN hN2 hRx fun a' V hVb hbody0 => ?_
    have hVs := hVb.size
    have hlV := (hVb.block _ hlt).trans hl
    have hkV := (hVb.block _ (by omega)).trans hk
    have hl2 : (V.putObj (w.heap.size + 1) (.loop { rec .ready none with state := .busy })).heap[w.heap.size + 1]? = some (.loop { rec .ready none with state := .busy }) := World.putObj_heap_same (by omega)
    have hk2 : (V.putObj (w.heap.size + 1) (.loop { rec .ready none with state := .busy })).heap[w.heap.size]? = some (.deferred (some [])) := (World.putObj_heap_other (by omega)).trans hkV
    have hsoft : Soft w.heap.size V (V.putObj (w.heap.size + 1) (.loop { rec .ready none with state := .busy })) := Soft.putObj _ (by omega) hlV rfl
    have hz2 : (V.putObj (w.heap.size + 1) (.loop { rec .ready none with state := .busy })).heap.size = V.heap.size := by simp [World.putObj]
    have hbody := hbody0 _ hsoft hz2
    refine ⟨_, run_beginRound hlV (by rw [hrec]), ?_⟩
    refine wpIn_mono hbody ?_
    have fin : ∀ (jump : Option Code) (W3 : World), Turn S₀ N (V.putObj (w.heap.size + 1) (.loop { rec .ready none with state := .busy })) W3 →
        (Instr.endRound (w.heap.size + 1) jump).run P W3 = .ok (.bool jump.isNone) (W3.putObj (w.heap.size + 1) (.loop (rec (if jump.isNone then .ready else .done) jump))) ∧
        Soft w.heap.size W3 (W3.putObj (w.heap.size + 1) (.loop (rec (if jump.isNone then .ready else .done) jump))) ∧
        (W3.putObj (w.heap.size + 1) (.loop (rec (if jump.isNone then .ready else .done) jump))).heap[w.heap.size + 1]? = some (.loop (rec (if jump.isNone then .ready else .done) jump)) ∧
        (W3.putObj (w.heap.size + 1) (.loop (rec (if jump.isNone then .ready else .done) jump))).heap[w.heap.size]? = some (.deferred (some [])) ∧ W.heap.size ≤ (W3.putObj (w.heap.size + 1) (.loop (rec (if jump.isNone then .ready else .done) jump))).heap.size ∧
        (∀ b, b < N → b ∉ S₀ → b ≠ w.heap.size + 1 → (W3.putObj (w.heap.size + 1) (.loop (rec (if jump.isNone then .ready else .done) jump))).heap[b]? = W.heap[b]?) := fun jump W3 ht => by
      have hnl : ∀ b, w.heap.size ≤ b → b ∉ S₀ := fun b hb hS => by have := hS₀ b hS; omega
      have hl3 := (ht.block _ (by omega) (hnl _ (by omega))).trans hl2
      have hk3 := (ht.block _ (by omega) (hnl _ (by omega))).trans hk2
      have he := run_endRound (P := P) jump hl3
      have hrr : ({ ({ rec .ready none with state := .busy } : Loop) with state := if jump.isNone then .ready else .done, pending := jump } : Loop) = rec (if jump.isNone then .ready else .done) jump := by rw [hrec]
      rw [hrr] at he
      have hzz : ∀ o, (W3.putObj (w.heap.size + 1) o).heap.size = W3.heap.size := fun o => by simp [World.putObj]
      refine ⟨he, Soft.putObj _ (by omega) hl3 rfl, World.putObj_heap_same (Array.getElem?_eq_some_iff.1 hl3).1, (World.putObj_heap_other (by omega)).trans hk3, by rw [hzz]; have := ht.size; omega, ?_⟩
      · intro b hb hS hbl
        rw [World.putObj_heap_other hbl, ht.block b hb hS, World.putObj_heap_other hbl, hVb.block b (by omega)]
    rintro e a3 W3 hp
    cases e with
    | normal =>
      obtain ⟨ht, hi3⟩ := hp
      obtain ⟨hr, hs3, hl4, hk4, hz4, hbl⟩ := fin none W3 ht
      exact ⟨_, _, hr, .inl ⟨rfl, ⟨hI _ _ _ _ hi3 (SoftN.of_soft hs3), hl4, hk4, hN, by omega⟩, hz4, hbl⟩⟩
    | ret =>
      obtain ⟨ht, hi3⟩ := hp
      obtain ⟨hr, hs3, hl4, hk4, hz4, hbl⟩ := fin (some .ret) W3 ht
      exact ⟨_, _, hr, .inr ⟨rfl, .ret, hIx _ _ _ _ _ hi3 hs3, hl4, hk4⟩⟩
    | exit id =>
      obtain ⟨ht, hi3⟩ := hp
      obtain ⟨hr, hs3, hl4, hk4, hz4, hbl⟩ := fin (some (.exit id)) W3 ht
      exact ⟨_, _, hr, .inr ⟨rfl, .exit id, hIx _ _ _ _ _ hi3 hs3, hl4, hk4⟩⟩
    | goto t =>
      obtain ⟨ht, hi3⟩ := hp
      obtain ⟨hr, hs3, hl4, hk4, hz4, hbl⟩ := fin (some (.goto t)) W3 ht
      exact ⟨_, _, hr, .inr ⟨rfl, .goto t, hIx _ _ _ _ _ hi3 hs3, hl4, hk4⟩⟩
    | panic ch => exact hp.elim
    | outgrown => exact hp.elim
  · -- behind the iterator
    rintro e W2 ⟨⟨v, rfl⟩, (⟨N, xs, hS, hi, hl, hk, -, -⟩ | ⟨N, pre, hSp, c, hi, hl, hk⟩)⟩
    · exact ⟨none, _, by have := run_endLoop (P := P) hl (by rw [hrec]; simp); rw [hrec] at this; exact this, hdone N xs _ hS (hI _ _ _ _ hi (SoftN.of_soft (Soft.putObj _ (by omega) hl rfl))) ((World.putObj_heap_other (by omega)).trans hk)⟩
    · exact ⟨some c, _, by have := run_endLoop (P := P) hl (by rw [hrec]; simp); rw [hrec] at this; exact this, hstop c N pre _ hSp (hIx _ _ _ _ _ hi (Soft.putObj _ (by omega) hl rfl)) ((World.putObj_heap_other (by omega)).trans hk)⟩
end
end Go.Proofs.YtfklheagafffmaaGreatDoor
