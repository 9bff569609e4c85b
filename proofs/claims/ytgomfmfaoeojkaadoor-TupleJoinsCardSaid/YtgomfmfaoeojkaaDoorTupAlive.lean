/- law 02: the chapter's example. -/
import Derived.Test.YtgomfmfaoeojkaaDoorTupJ
import Derived.Deep.DeepCutAuto
import Derived.Deep.RegionHeld3
namespace Go.Proofs.YtgomfmfaoeojkaaDoor
open Go.RowKit

def n1 : GV := ⟨1, 1, ⟨#[]⟩⟩
def n2 : GV := ⟨1, 2, ⟨#[]⟩⟩
def sa : GV := ⟨2, 0, ⟨#[97]⟩⟩
theorem n1_ok : n1.ok := ⟨by unfold fits; decide, by unfold fits; decide, Nat.zero_le _⟩
theorem n2_ok : n2.ok := ⟨by unfold fits; decide, by unfold fits; decide, Nat.zero_le _⟩
theorem sa_ok : sa.ok := ⟨by unfold fits; decide, by unfold fits; decide, by decide⟩
theorem row_is {W : World} {g : Nat} (l : List GV) (hok : ∀ x ∈ l, x.ok) (h : W.heap[g]? = some (.cells (l.flatMap GV.cells).toArray 30 (0, 0))) (hl : l.length ≤ 100) : SliceIs Enc.val W W.heap.size (some ⟨g, 0, none⟩) l.length l.length l :=
  SliceIs.of_block (E := Enc.val) GV.cells (fun _ => rfl) h rfl (by simp [reachN]; omega) (fun x hx => ⟨rfl, hok x hx⟩)
theorem heapD {W : World} {g : Nat} {o : Obj} (h : W.heap[g]? = some o) : W.drew.heap[g]? = some o := h
theorem heapBelow {W W' : World} {g : Nat} {o : Obj} (hb : Below W.heap.size W W') (h : W.heap[g]? = some o) : W'.heap[g]? = some o := (hb.block g (Array.getElem?_eq_some_iff.1 h).1).trans h
theorem cmpA : cmpL [n1, sa] [n1, sa, n2] = -1 := by
  have h1 : cmpV n1 n1 = 0 := (cmpV_zero _ _).2 rfl
  have h2 : cmpV sa sa = 0 := (cmpV_zero _ _).2 rfl
  simp [cmpL, h1, h2]
theorem cmpB' : cmpL [n1, sa, n2] [n2] = -1 := by
  have h1 : lessV n2 n1 = false := by simp [lessV, n1, n2]
  have h2 : lessV n1 n2 = true := by simp [lessV, n1, n2]
  have h3 : cmpV n1 n2 = -1 := by simp [cmpV, h1, h2]
  simp [cmpL, h3]
theorem text1a : textT [n1, sa] = [40, 49, 44, 32, 97, 41] := by
  have r1 : rightB n1 = true := by kernel_rfl
  have r2 : rightB sa = true := by kernel_rfl
  have e1 : textOf n1 = [49] := by simp only [textOf, r1, if_true]; kernel_rfl
  have e2 : textOf sa = [97] := by simp only [textOf, r2, if_true]; kernel_rfl
  simp [textT, rightT, r1, r2, e1, e2, Lib.join, sep2, List.intercalate]
theorem rowA {W : World} {g : Nat} (h : W.heap[g]? = some (.cells #[.int .i64 1, .int .i64 1, .string ⟨#[]⟩, .int .i64 2, .int .i64 0, .string ⟨#[97]⟩] 30 (0, 0))) : SliceIs Enc.val W W.heap.size (some ⟨g, 0, none⟩) 2 2 [n1, sa] :=
  row_is [n1, sa] (by intro x hx; simp at hx; rcases hx with rfl | rfl; exact n1_ok; exact sa_ok) h (by decide)
theorem rowB {W : World} {g : Nat} (h : W.heap[g]? = some (.cells #[.int .i64 1, .int .i64 1, .string ⟨#[]⟩, .int .i64 2, .int .i64 0, .string ⟨#[97]⟩, .int .i64 1, .int .i64 2, .string ⟨#[]⟩] 30 (0, 0))) : SliceIs Enc.val W W.heap.size (some ⟨g, 0, none⟩) 3 3 [n1, sa, n2] :=
  row_is [n1, sa, n2] (by intro x hx; simp at hx; rcases hx with rfl | rfl | rfl; exact n1_ok; exact sa_ok; exact n2_ok) h (by decide)
theorem rowC {W : World} {g : Nat} (h : W.heap[g]? = some (.cells #[.int .i64 1, .int .i64 2, .string ⟨#[]⟩] 30 (0, 0))) : SliceIs Enc.val W W.heap.size (some ⟨g, 0, none⟩) 1 1 [n2] :=
  row_is [n2] (by intro x hx; simp at hx; subst hx; exact n2_ok) h (by decide)
theorem cmp1 {W : World} {g g' : Nat} (h : SliceIs Enc.val W W.heap.size (some ⟨g, 0, none⟩) 2 2 [n1, sa]) (h' : SliceIs Enc.val W W.heap.size (some ⟨g', 0, none⟩) 3 3 [n1, sa, n2]) :
    Calls Tryd.prog 20 #[.slice (some ⟨g, 0, none⟩) 2 2, .slice (some ⟨g', 0, none⟩) 3 3] W (RetInt (-1) W) := by
  have := tcompare_any _ _ 2 2 3 3 _ _ W h h'
  rw [cmpA] at this; exact this
theorem cmp2 {W : World} {g g' : Nat} (h : SliceIs Enc.val W W.heap.size (some ⟨g, 0, none⟩) 3 3 [n1, sa, n2]) (h' : SliceIs Enc.val W W.heap.size (some ⟨g', 0, none⟩) 1 1 [n2]) :
    Calls Tryd.prog 20 #[.slice (some ⟨g, 0, none⟩) 3 3, .slice (some ⟨g', 0, none⟩) 1 1] W (RetInt (-1) W) := by
  have := tcompare_any _ _ 3 3 1 1 _ _ W h h'
  rw [cmpB'] at this; exact this
theorem txt1 {W : World} {g : Nat} (h : SliceIs Enc.val W W.heap.size (some ⟨g, 0, none⟩) 2 2 [n1, sa]) (hT : TabW W) :
    Calls Tryd.prog 13 #[.slice (some ⟨g, 0, none⟩) 2 2] W (RetV (.string ⟨#[40, 49, 44, 32, 97, 41]⟩) W) := by
  have := tText_any _ 2 2 _ W h hT
  rw [text1a] at this; exact this
set_option maxRecDepth 100000 in
theorem lit_any (k : Int) (w : World) : Calls Tryd.prog 28 #[.int .i64 k] w (fun e w' => e = .returned (⟨1, k, ⟨#[]⟩⟩ : GV).v ∧ w' = w.alloc (.cells #[.int .i64 1, .int .i64 k, .string ⟨#[]⟩] 30)) := by
  go_enter Tryd.func28, Tryd.ntmps28
  go_wp2_with fail
  exact bodyPost_ret (v := (⟨1, k, ⟨#[]⟩⟩ : GV).v) (by simp [results, Tryd.results28, go_sem]) rfl ⟨rfl, rfl⟩

set_option maxRecDepth 100000 in
set_option maxHeartbeats 4000000 in
theorem alive_any (w : World) (h : TabW w) : Calls Tryd.prog 8 #[] w (RetBool true w) := by
  have HT := Lib.hid h
  clear h
  go_enter Tryd.func8, Tryd.ntmps8
  go_wp2_with fail
  have B2 := VBox.new w sa
  have hbw := belowA (Below.refl w.heap.size w) (.cells #[.int .i64 sa.k, .int .i64 sa.n, .string sa.s] 30)
  simp only [sa] at B2 hbw
  generalize w.alloc (.cells #[.int .i64 2, .int .i64 0, .string ⟨#[97]⟩] 30) = wb at hbw B2 ⊢
  have Hk := Lib.hid (fun W (h : Below wb.heap.size wb W) => B2.on h)
  unfold VBox at Hk
  dsimp only at Hk
  have hb1 := Below.refl wb.heap.size wb
  clear B2
  go_region_held3 (fun w' => w'.cell? ⟨w.heap.size, 0, none⟩ = some (.int .i64 2) ∧ w'.cell? ⟨w.heap.size, 1, none⟩ = some (.int .i64 0) ∧ w'.cell? ⟨w.heap.size, 2, none⟩ = some (.string ⟨#[97]⟩))
    (first
      | (refine Hk.out _ ?_; (repeat (first | with_reducible exact Below.refl _ _ | with_reducible assumption | with_reducible refine Below.drew ?_ | with_reducible refine belowA ?_ _)))
      | go_keep)
    ((first
      | (go_at_call 28
         refine (lit_any _ _).mono ?_
         rintro e w1 ⟨rfl, rfl⟩)
      | (go_at_call 20
         with_reducible refine (cmp1 (rowA ?s1) (rowB ?s2)).mono ?_
         case s1 => repeat (first | (with_reducible refine heapNew ?_; simp; done) | with_reducible refine heapD ?_ | with_reducible refine heapOld ?_)
         case s2 => repeat (first | (with_reducible refine heapNew ?_; simp; done) | with_reducible refine heapD ?_ | with_reducible refine heapOld ?_)
         rintro e w1 ⟨rfl, hq1⟩
         have hb1 : Below wb.heap.size wb w1 := by
           refine below_next ?_ hq1
           repeat (first | with_reducible exact Below.refl _ _ | with_reducible assumption | with_reducible refine Below.drew ?_ | with_reducible refine belowA ?_ _))
      | (go_at_call 20
         with_reducible refine (cmp2 (rowB ?s1) (rowC ?s2)).mono ?_
         case s1 => repeat (first | (with_reducible refine heapNew ?_; simp; done) | with_reducible refine heapD ?_ | with_reducible refine heapOld ?_)
         case s2 => repeat (first | (with_reducible refine heapNew ?_; simp; done) | with_reducible refine heapD ?_ | with_reducible refine heapOld ?_)
         rintro e w1 ⟨rfl, hq1⟩
         have hb1 : Below wb.heap.size wb w1 := by
           refine below_next ?_ hq1
           repeat (first | with_reducible exact Below.refl _ _ | with_reducible assumption | with_reducible refine Below.drew ?_ | with_reducible refine belowA ?_ _))
      | (go_at_call 13
         with_reducible refine (txt1 (rowA ?s1) ?s2).mono ?_
         case s1 => repeat (first | (with_reducible refine heapNew ?_; simp; done) | with_reducible refine heapD ?_ | with_reducible refine heapOld ?_)
         case s2 => 
           refine HT.out.on (below_next hbw ?_)
           repeat (first | with_reducible exact Below.refl _ _ | with_reducible assumption | with_reducible refine Below.drew ?_ | with_reducible refine belowA ?_ _)
         rintro e w1 ⟨rfl, hq1⟩
         have hb1 : Below wb.heap.size wb w1 := by
           refine below_next ?_ hq1
           repeat (first | with_reducible exact Below.refl _ _ | with_reducible assumption | with_reducible refine Below.drew ?_ | with_reducible refine belowA ?_ _))))
  all_goals
    go_wp2_with fail
    go_ret
    exact ⟨by simp, below_next hbw hb1⟩
end Go.Proofs.YtgomfmfaoeojkaaDoor
