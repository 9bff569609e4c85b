/- term.inside and term.In of a literal that bears an atom alone. -/
import Derived.Test.YtggbfpjpkfhaeaaTerms0
import Derived.Test.YtggbfpjpkfhaeaaKeep
import Derived.Test.YtggbfpjpkfhaeaaTerm
import Derived.Deep.RegionHeld3
namespace Go.Proofs.Ytggbfpjpkfhaeaa
open Go.RowKit

def zT : GTold := ⟨⟨#[]⟩, zeroV⟩
theorem zT_ok : zT.x.size ≤ reachN ∧ zT.v.ok := ⟨Nat.zero_le _, GV.ok_zero⟩
abbrev z6 : List Value := [.int .i64 0, .string ⟨#[]⟩, .int .i64 0, .int .i64 0, .string ⟨#[]⟩, .slice none 0 0]
abbrev litCells (k : Int) (rel : ByteArray) (A : Option Addr) (n c : Nat) : List Value :=
  [.int .i64 k, .string rel, .slice A n c, .int .i64 0, .int .i64 0, .string ⟨#[]⟩, .int .i64 0, .int .i64 0, .string ⟨#[]⟩, .slice none 0 0, .int .i64 0, .string ⟨#[]⟩, .int .i64 0, .int .i64 0, .string ⟨#[]⟩, .slice none 0 0, .int .i64 0]
theorem tup3 {W : World} {A B C : Option Addr} {n m k a b c : Nat} {l1 l2 l3 : List GTold} {T : TypeId} (h1 : SliceIs Enc.told W W.heap.size A n a l1) (h2 : SliceIs Enc.told W W.heap.size B m b l2) (h3 : SliceIs Enc.told W W.heap.size C k c l3) :
    SliceIs (Enc.slice Enc.told) (W.alloc (.cells #[.slice A n a, .slice B m b, .slice C k c] T)) (W.alloc (.cells #[.slice A n a, .slice B m b, .slice C k c] T)).heap.size (some ⟨W.heap.size, 0, none⟩) 3 3 [l1, l2, l3] := by
  have g := fun {A : Option Addr} {n c : Nat} {l : List GTold} (h : SliceIs Enc.told W W.heap.size A n c l) => h.mono (w' := W.alloc (.cells #[.slice A n c, .slice B m b, .slice C k c] T)) (B' := W.heap.size + 1) (by omega) (fun b hb => Below.heap_alloc _ _ _ hb)
  refine ⟨rfl, Nat.le_refl _, by simp [maxLen], by simp [reachN], .inr ⟨W.heap.size, 0, rfl, by simp, fun i x hx => ?_⟩⟩
  match i, hx with
  | 0, hx =>
    simp at hx; subst hx
    refine ⟨[.slice A n a], ⟨A, n, a, rfl, h1.mono (by simp) (fun b hb => Below.heap_alloc _ _ _ hb)⟩, fun j v hv => ?_⟩
    match j, hv with
    | 0, hv => simp at hv; subst hv; simp [Enc.slice]
  | 1, hx =>
    simp at hx; subst hx
    refine ⟨[.slice B m b], ⟨B, m, b, rfl, h2.mono (by simp) (fun b hb => Below.heap_alloc _ _ _ hb)⟩, fun j v hv => ?_⟩
    match j, hv with
    | 0, hv => simp at hv; subst hv; simp [Enc.slice]
  | 2, hx =>
    simp at hx; subst hx
    refine ⟨[.slice C k c], ⟨C, k, c, rfl, h3.mono (by simp) (fun b hb => Below.heap_alloc _ _ _ hb)⟩, fun j v hv => ?_⟩
    match j, hv with
    | 0, hv => simp at hv; subst hv; simp [Enc.slice]

set_option maxRecDepth 100000 in
set_option maxHeartbeats 400000 in
theorem terms_seq (w : World) : Calls Try.prog 64 #[.agg z6.toArray] w fun e w' => e = .returned (.func (.func 69) #[] #[.pointer (some ⟨w.heap.size, 0, none⟩)]) ∧ w' = w.alloc (.cells z6.toArray 84) := by
  go_enter Try.func64, Try.ntmps64
  go_wp2
  go_ret
  exact ⟨rfl, rfl⟩

def ToldPost (L : List GTold) (w : World) (e : Ending) (w' : World) : Prop := ∃ A m c, e = .returned (.slice A m c) ∧ SliceIs Enc.told w' w'.heap.size A m c L ∧ Below w.heap.size w w'

set_option maxRecDepth 100000 in
set_option maxHeartbeats 4000000 in
theorem inside_any (k : Int) (rel : ByteArray) (A : Option Addr) (n c : Nat) (l : List GTold) (w : World) (hn2 : n ≤ 200) (hl : SliceIs Enc.told w w.heap.size A n c l) :
    Calls Try.prog 51 #[.agg (litCells k rel A n c).toArray] w (ToldPost (l ++ [zT, zT]) w) := by
  have hlen := hl.1
  go_enter Try.func51, Try.ntmps51
  go_wp2_with fail
  have hg := Go.heap_alloc_new w (.cells (litCells k rel A n c).toArray 86)
  have hbw : Below w.heap.size w (w.alloc (.cells (litCells k rel A n c).toArray 86)) := belowA (Below.refl _ _) _
  generalize w.alloc (.cells (litCells k rel A n c).toArray 86) = wb at hg hbw ⊢
  have hgl : w.heap.size < wb.heap.size := (Array.getElem?_eq_some_iff.1 hg).1
  have Hk := Lib.hid (fun W (h : Below wb.heap.size wb W) => show W.cell? ⟨w.heap.size, 2, none⟩ = some (.slice A n c) ∧ W.cell? ⟨w.heap.size, 4, none⟩ = some (.int .i64 0) ∧ W.cell? ⟨w.heap.size, 5, none⟩ = some (.string ⟨#[]⟩) ∧ W.cell? ⟨w.heap.size, 6, none⟩ = some (.int .i64 0) ∧ W.cell? ⟨w.heap.size, 7, none⟩ = some (.int .i64 0) ∧ W.cell? ⟨w.heap.size, 8, none⟩ = some (.string ⟨#[]⟩) ∧ W.cell? ⟨w.heap.size, 9, none⟩ = some (.slice none 0 0) ∧ W.cell? ⟨w.heap.size, 10, none⟩ = some (.int .i64 0) ∧ W.cell? ⟨w.heap.size, 11, none⟩ = some (.string ⟨#[]⟩) ∧ W.cell? ⟨w.heap.size, 12, none⟩ = some (.int .i64 0) ∧ W.cell? ⟨w.heap.size, 13, none⟩ = some (.int .i64 0) ∧ W.cell? ⟨w.heap.size, 14, none⟩ = some (.string ⟨#[]⟩) ∧ W.cell? ⟨w.heap.size, 15, none⟩ = some (.slice none 0 0) from And.intro ((cell_of_row W w.heap.size 2 _ _ _ ((h.block w.heap.size hgl).trans hg)).trans rfl) (And.intro ((cell_of_row W w.heap.size 4 _ _ _ ((h.block w.heap.size hgl).trans hg)).trans rfl) (And.intro ((cell_of_row W w.heap.size 5 _ _ _ ((h.block w.heap.size hgl).trans hg)).trans rfl) (And.intro ((cell_of_row W w.heap.size 6 _ _ _ ((h.block w.heap.size hgl).trans hg)).trans rfl) (And.intro ((cell_of_row W w.heap.size 7 _ _ _ ((h.block w.heap.size hgl).trans hg)).trans rfl) (And.intro ((cell_of_row W w.heap.size 8 _ _ _ ((h.block w.heap.size hgl).trans hg)).trans rfl) (And.intro ((cell_of_row W w.heap.size 9 _ _ _ ((h.block w.heap.size hgl).trans hg)).trans rfl) (And.intro ((cell_of_row W w.heap.size 10 _ _ _ ((h.block w.heap.size hgl).trans hg)).trans rfl) (And.intro ((cell_of_row W w.heap.size 11 _ _ _ ((h.block w.heap.size hgl).trans hg)).trans rfl) (And.intro ((cell_of_row W w.heap.size 12 _ _ _ ((h.block w.heap.size hgl).trans hg)).trans rfl) (And.intro ((cell_of_row W w.heap.size 13 _ _ _ ((h.block w.heap.size hgl).trans hg)).trans rfl) (And.intro ((cell_of_row W w.heap.size 14 _ _ _ ((h.block w.heap.size hgl).trans hg)).trans rfl) (((cell_of_row W w.heap.size 15 _ _ _ ((h.block w.heap.size hgl).trans hg)).trans rfl))))))))))))))
  have HL := Lib.hid (fun W (h : Below wb.heap.size wb W) => (hl.keep hbw).keep h)
  have hb1 := Below.refl wb.heap.size wb
  have Hfirst : Hid True := trivial
  clear hg hgl hl
  go_region_held3 (fun w' => w'.cell? ⟨w.heap.size, 2, none⟩ = some (.slice A n c) ∧ w'.cell? ⟨w.heap.size, 4, none⟩ = some (.int .i64 0) ∧ w'.cell? ⟨w.heap.size, 5, none⟩ = some (.string ⟨#[]⟩) ∧ w'.cell? ⟨w.heap.size, 6, none⟩ = some (.int .i64 0) ∧ w'.cell? ⟨w.heap.size, 7, none⟩ = some (.int .i64 0) ∧ w'.cell? ⟨w.heap.size, 8, none⟩ = some (.string ⟨#[]⟩) ∧ w'.cell? ⟨w.heap.size, 9, none⟩ = some (.slice none 0 0) ∧ w'.cell? ⟨w.heap.size, 10, none⟩ = some (.int .i64 0) ∧ w'.cell? ⟨w.heap.size, 11, none⟩ = some (.string ⟨#[]⟩) ∧ w'.cell? ⟨w.heap.size, 12, none⟩ = some (.int .i64 0) ∧ w'.cell? ⟨w.heap.size, 13, none⟩ = some (.int .i64 0) ∧ w'.cell? ⟨w.heap.size, 14, none⟩ = some (.string ⟨#[]⟩) ∧ w'.cell? ⟨w.heap.size, 15, none⟩ = some (.slice none 0 0))
    (first
      | (refine Hk.out _ ?_; (repeat (first | with_reducible exact Below.refl _ _ | with_reducible assumption | with_reducible refine Below.drew ?_ | with_reducible refine belowA ?_ _)))
      | go_keep)
    ((first
      | (go_at_call 64
         refine (terms_seq _).mono ?_
         rintro e w1 ⟨rfl, rfl⟩)
      | (go_at_call 63
         clear Hfirst
         refine (collect_leaf _ 0 zT _ zT_ok ?hh).mono ?_
         case hh => first | exact heapNew rfl | exact Go.heap_alloc_new _ _
         rintro e w1 ⟨A9, m9, c9, rfl, hs9, hq1⟩
         have hb1 : Below wb.heap.size wb w1 := by
           refine below_next ?_ hq1
           repeat (first | with_reducible exact Below.refl _ _ | with_reducible assumption | with_reducible refine Below.drew ?_ | with_reducible refine belowA ?_ _)
         clear hq1)
      | (go_at_call 63
         refine (collect_leaf _ 0 zT _ zT_ok ?hh).mono ?_
         case hh => first | exact heapNew rfl | exact Go.heap_alloc_new _ _
         rintro e w2 ⟨A13, m13, c13, rfl, hs13, hq1⟩
         have hb1 : Below wb.heap.size wb w2 := by
           refine below_next ?_ hq1
           repeat (first | with_reducible exact Below.refl _ _ | with_reducible assumption | with_reducible refine Below.drew ?_ | with_reducible refine belowA ?_ _)
         have hs9 := hs9.keep (w' := w2) (by
           refine below_next ?_ hq1
           repeat (first | with_reducible exact Below.refl _ _ | with_reducible assumption | with_reducible refine Below.drew ?_ | with_reducible refine belowA ?_ _))
         clear hq1)
      | (go_at_call 62
         refine (concat_any _ 3 3 [l, [zT], [zT]] _ ?hc ?hs).mono ?_
         case hc => exact tup3 (HL.out _ hb1) hs9 hs13
         case hs => simp [sumLen]; omega
         rintro e w3 ⟨A15, m15, c15, rfl, hs15, hq1⟩
         have hb1 : Below wb.heap.size wb w3 := by
           refine below_next ?_ hq1
           repeat (first | with_reducible exact Below.refl _ _ | with_reducible assumption | with_reducible refine Below.drew ?_ | with_reducible refine belowA ?_ _))))
  all_goals
    go_wp2_with fail
    go_ret
    exact ⟨A15, m15, c15, rfl, by simpa using hs15, below_next hbw hb1⟩

theorem own_down {W : World} {base base' : Nat} {e : TypeId} {size : Nat} {v : Value} {k : Nat} {xs : List Value} (h : W.ownsRow base e size v k xs) (hb : base' ≤ base) : W.ownsRow base' e size v k xs := by
  refine ⟨h.1, ?_⟩
  rcases h.2 with hn | ⟨g, cap, cur, hv, hbg, rest⟩
  · exact .inl hn
  · exact .inr ⟨g, cap, cur, hv, Nat.le_trans hb hbg, rest⟩
theorem putL_zeros (l : List GTold) : putL [] (l ++ [zT, zT]) = putL [] l := by
  have h : zT.x.toList.isEmpty = true := by rw [ByteArray.toList_eq]; rfl
  simp [putL, List.foldl_append, put1, h]

set_option maxRecDepth 100000 in
set_option maxHeartbeats 1000000 in
theorem in_any (k : Int) (rel : ByteArray) (A : Option Addr) (n c : Nat) (l : List GTold) (w : World) (hn2 : n ≤ 200) (hl : SliceIs Enc.told w w.heap.size A n c l) :
    Calls Try.prog 36 #[.agg (litCells k rel A n c).toArray] w (TextsPost (putL [] l) w) := by
  have hlen := hl.1
  have HL := Lib.hid hl
  clear hl
  go_enter Try.func36, Try.ntmps36
  go_wp2_with (first
    | (go_at_call 51
       refine (inside_any k rel A n c l _ hn2 (HL.out.keep (belowA (Below.refl _ _) _))).mono ?_
       rintro e w1 ⟨A1, m1, c1, rfl, hs1, hq1⟩)
    | (go_at_call 50
       refine (put_any A1 m1 c1 _ w1 ?hm hs1).mono ?_
       case hm => rw [← hs1.1]; simp; omega
       rintro e w2 ⟨A2, m2, c2, rfl, hs2, hown2, hq2⟩))
  go_ret
  rw [putL_zeros] at hs2 hown2
  have hbw : Below w.heap.size w w1 := below_next (belowA (Below.refl _ _) _) hq1
  exact ⟨A2, m2, c2, rfl, hs2, own_down hown2 hbw.size, below_next hbw hq2⟩
end Go.Proofs.Ytggbfpjpkfhaeaa
