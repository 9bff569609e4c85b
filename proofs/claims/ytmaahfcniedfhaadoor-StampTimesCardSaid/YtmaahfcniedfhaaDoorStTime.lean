/- stamp.AtMost, Least, Greatest, Time.String: what each computes; the chapter's example. -/
import Derived.Test.YtmaahfcniedfhaaDoorBase
import Derived.Test.YtmaahfcniedfhaaDoorShelf
import Derived.Deep.RegionHeld3
import Derived.Deep.DeepCutAuto
import Derived.Lib.AppendIntMem
import Derived.Lib.ItoaLen
namespace Go.Proofs.YtmaahfcniedfhaaDoor
open Go.RowKit

def RetBool (b : Bool) (w : World) (e : Ending) (w' : World) : Prop := e = .returned (.bool b) ∧ Below w.heap.size w w'
def RetInt (n : Int) (w : World) (e : Ending) (w' : World) : Prop := e = .returned (.int .i64 n) ∧ Below w.heap.size w w'
def RetV (v : Value) (w : World) (e : Ending) (w' : World) : Prop := e = .returned v ∧ Below w.heap.size w w'
theorem below_next {w W W' : World} (h : Below w.heap.size w W) (h' : Below W.heap.size W W') : Below w.heap.size w W' := h.trans (h'.mono h.size)
abbrev tm (e r : Int) : Value := .agg #[.int .i64 e, .int .i64 r]

set_option maxRecDepth 100000 in
set_option maxHeartbeats 400000 in
theorem atMost_any (a b c d : Int) (w : World) : Calls Tryd.prog 8 #[tm a b, tm c d] w (RetBool (decide (a ≤ c ∧ b ≤ d)) w) := by
  go_enter Tryd.func8, Tryd.ntmps8
  go_wp2
  all_goals
    go_ret
    refine ⟨?_, belowA (belowA (Below.refl _ _) _) _⟩
    first
      | (simp; omega)
      | simp

set_option maxRecDepth 100000 in
set_option maxHeartbeats 400000 in
theorem least_at (a b c d : Int) (w : World) : Calls Tryd.prog 9 #[tm a b, tm c d] w (fun e w' => e = .returned (tm (min a c) (min b d)) ∧
    w' = ((w.alloc (.cells #[.int .i64 a, .int .i64 b] 23)).alloc (.cells #[.int .i64 c, .int .i64 d] 23)).alloc (.cells #[.int .i64 (min a c), .int .i64 (min b d)] 23)) := by
  go_enter Tryd.func9, Tryd.ntmps9
  go_wp2
  exact bodyPost_ret (v := tm (min a c) (min b d)) (by simp [results, Tryd.results9, go_sem]) rfl ⟨rfl, rfl⟩
theorem least_any (a b c d : Int) (w : World) : Calls Tryd.prog 9 #[tm a b, tm c d] w (RetV (tm (min a c) (min b d)) w) :=
  (least_at a b c d w).mono fun e w' ⟨h, h2⟩ => ⟨h, by subst h2; exact belowA (belowA (belowA (Below.refl _ _) _) _) _⟩

set_option maxRecDepth 100000 in
set_option maxHeartbeats 400000 in
theorem greatest_at (a b c d : Int) (w : World) : Calls Tryd.prog 10 #[tm a b, tm c d] w (fun e w' => e = .returned (tm (max a c) (max b d)) ∧
    w' = ((w.alloc (.cells #[.int .i64 a, .int .i64 b] 23)).alloc (.cells #[.int .i64 c, .int .i64 d] 23)).alloc (.cells #[.int .i64 (max a c), .int .i64 (max b d)] 23)) := by
  go_enter Tryd.func10, Tryd.ntmps10
  go_wp2
  exact bodyPost_ret (v := tm (max a c) (max b d)) (by simp [results, Tryd.results10, go_sem]) rfl ⟨rfl, rfl⟩
theorem greatest_any (a b c d : Int) (w : World) : Calls Tryd.prog 10 #[tm a b, tm c d] w (RetV (tm (max a c) (max b d)) w) :=
  (greatest_at a b c d w).mono fun e w' ⟨h, h2⟩ => ⟨h, by subst h2; exact belowA (belowA (belowA (Below.refl _ _) _) _) _⟩

def TabW (w : World) : Prop := ∀ W, Below w.heap.size w W → Lib.TabIs Tryd.prog W "internal/strconv.uint64pow10" .u64 Lib.pow10Tab
theorem TabW.of {w : World} (h : Lib.TabIs Tryd.prog w "internal/strconv.uint64pow10" .u64 Lib.pow10Tab) : TabW w := Lib.tabBelow_of_tabIs h
theorem TabW.on {w W : World} (h : TabW w) (hb : Below w.heap.size w W) : TabW W := fun _ hb' => h _ (below_next hb hb')

theorem itoa_any (n : Int) (hn : fits n) (w : World) (h : TabW w) : Calls Tryd.prog 34 #[.int .i64 n] w (fun e w' => ∃ s : ByteArray, Hid (s = ⟨(Lib.itoa n).toArray⟩) ∧ s.size ≤ 21 ∧ e = .returned (.string s) ∧ Below w.heap.size w w') := by
  have hn' : -9223372036854775808 ≤ n ∧ n ≤ 9223372036854775807 := by
    unfold fits at hn; simp [Lit.wf, IntKind.min, IntKind.max, IntKind.signed, IntKind.bits] at hn; omega
  refine (Tryd.strconv_Itoa n hn'.1 hn'.2 w (h w (Below.refl _ _))).mono ?_
  rintro e w' ⟨rfl, k, os, rfl⟩
  exact ⟨_, rfl, by have := Lib.itoa_length_le n hn'.1 hn'.2; simpa [ByteArray.size] using this, rfl, Lib.below_grow _ _ (Nat.le_refl _) _ _⟩

def timeText (e r : Int) : List UInt8 := Lib.itoa e ++ 46 :: Lib.itoa r
set_option maxRecDepth 100000 in
set_option maxHeartbeats 400000 in
theorem string_any (x y : Int) (hx : fits x) (hy : fits y) (w : World) (h : TabW w) : Calls Tryd.prog 29 #[tm x y] w (RetV (.string ⟨(timeText x y).toArray⟩) w) := by
  go_enter Tryd.func29, Tryd.ntmps29
  go_wp2_with fail
  have c0 : (w.alloc (.cells #[.int .i64 x, .int .i64 y] 23)).cell? ⟨w.heap.size, 0, none⟩ = some (.int .i64 x) := by simp
  have c1 : (w.alloc (.cells #[.int .i64 x, .int .i64 y] 23)).cell? ⟨w.heap.size, 1, none⟩ = some (.int .i64 y) := by simp
  have hbw : Below w.heap.size w (w.alloc (.cells #[.int .i64 x, .int .i64 y] 23)) := belowA (Below.refl _ _) _
  have hT := h.on hbw
  generalize w.alloc (.cells #[.int .i64 x, .int .i64 y] 23) = wb at hbw c0 c1 hT ⊢
  have HT := Lib.hid hT
  have Hx := Lib.hid hx
  have Hy := Lib.hid hy
  have Hk := Lib.hid (fun W (h : Below wb.heap.size wb W) => And.intro (below_cell h c0) (below_cell h c1))
  clear hT hx hy h
  go_region_held3 (fun w' => w'.cell? ⟨w.heap.size, 0, none⟩ = some (.int .i64 x) ∧ w'.cell? ⟨w.heap.size, 1, none⟩ = some (.int .i64 y))
    (first
      | (refine Hk.out _ ?_; (repeat (first | with_reducible exact Below.refl _ _ | with_reducible assumption | with_reducible refine Below.drew ?_)))
      | go_keep)
    ((first
      | (go_at_call 34
         refine (itoa_any _ Hx.out _ ?h1).mono ?_
         case h1 => refine HT.out.on ?_; (repeat (first | with_reducible exact Below.refl _ _ | with_reducible assumption | with_reducible refine Below.drew ?_))
         rintro e w1 ⟨sx, hsx, hlx, rfl, hq1⟩
         have hx1 : ¬ (9223372036854775807 < sx.size + 1) := by omega
         have hx2 : ¬ (9223372036854775806 < sx.size) := by omega
         have hb1 : Below wb.heap.size wb w1 := by
           refine Below.trans ?_ (Below.mono hq1 ?_)
           · repeat (first | with_reducible exact Below.refl _ _ | with_reducible assumption | with_reducible refine Below.drew ?_)
           · first | exact hb1.size | exact Nat.le_refl _)
      | (go_at_call 34
         refine (itoa_any _ Hy.out _ ?h1).mono ?_
         case h1 => refine HT.out.on ?_; (repeat (first | with_reducible exact Below.refl _ _ | with_reducible assumption | with_reducible refine Below.drew ?_))
         rintro e w1 ⟨sy, hsy, hly, rfl, hq1⟩
         have hy1 : ¬ (9223372036854775807 < sx.size + 1 + sy.size) := by omega
         have hy2 : ¬ (9223372036854775807 < sx.size + sy.size + 1) := by omega
         have hb1 : Below wb.heap.size wb w1 := by
           refine Below.trans ?_ (Below.mono hq1 ?_)
           · repeat (first | with_reducible exact Below.refl _ _ | with_reducible assumption | with_reducible refine Below.drew ?_)
           · first | exact hb1.size | exact Nat.le_refl _)))
  go_wp2_with fail
  go_ret
  refine ⟨?_, hbw.trans (hb1.mono hbw.size)⟩
  have e1 := hsx.out
  have e2 := hsy.out
  subst e1 e2
  rw [ByteArray.mk_append_mk, ByteArray.mk_append_mk]
  simp [timeText]

theorem text13 : timeText 1 3 = [49, 46, 51] := by kernel_rfl
set_option maxRecDepth 100000 in
set_option maxHeartbeats 1000000 in
theorem alive_any (w : World) (h : TabW w) : Calls Tryd.prog 7 #[] w (RetBool true w) := by
  go_enter Tryd.func7, Tryd.ntmps7
  have HT := Lib.hid h
  clear h
  go_wp2_with fail
  have c0 : ((w.alloc (.cells #[.int .i64 1, .int .i64 3] 23)).alloc (.cells #[.int .i64 2, .int .i64 1] 23)).cell? ⟨w.heap.size, 0, none⟩ = some (.int .i64 1) := by simp
  have c1 : ((w.alloc (.cells #[.int .i64 1, .int .i64 3] 23)).alloc (.cells #[.int .i64 2, .int .i64 1] 23)).cell? ⟨w.heap.size, 1, none⟩ = some (.int .i64 3) := by simp
  have c2 : ((w.alloc (.cells #[.int .i64 1, .int .i64 3] 23)).alloc (.cells #[.int .i64 2, .int .i64 1] 23)).cell? ⟨w.heap.size + 1, 0, none⟩ = some (.int .i64 2) := by simp
  have c3 : ((w.alloc (.cells #[.int .i64 1, .int .i64 3] 23)).alloc (.cells #[.int .i64 2, .int .i64 1] 23)).cell? ⟨w.heap.size + 1, 1, none⟩ = some (.int .i64 1) := by simp
  have hbw : Below w.heap.size w ((w.alloc (.cells #[.int .i64 1, .int .i64 3] 23)).alloc (.cells #[.int .i64 2, .int .i64 1] 23)) := belowA (belowA (Below.refl _ _) _) _
  generalize (w.alloc (.cells #[.int .i64 1, .int .i64 3] 23)).alloc (.cells #[.int .i64 2, .int .i64 1] 23) = wb at hbw c0 c1 c2 c3 ⊢
  have Hk := Lib.hid (fun W (h : Below wb.heap.size wb W) => And.intro (below_cell h c0) (And.intro (below_cell h c1) (And.intro (below_cell h c2) (below_cell h c3))))
  have hb := Below.refl wb.heap.size wb
  go_wp2_with (first
    | (go_at_call 8
       refine (atMost_any _ _ _ _ _).mono ?_
       rintro e w1 ⟨rfl, hq1⟩
       have hb := below_next hb hq1
       clear hq1 c0 c1 c2 c3
       obtain ⟨c0, c1, c2, c3⟩ := Hk.out _ hb)
    | (go_at_call 9
       refine (least_any _ _ _ _ _).mono ?_
       rintro e w1 ⟨rfl, hq1⟩
       have hb := below_next hb hq1
       clear hq1 c0 c1 c2 c3
       obtain ⟨c0, c1, c2, c3⟩ := Hk.out _ hb)
    | (go_at_call 10
       refine (greatest_any _ _ _ _ _).mono ?_
       rintro e w1 ⟨rfl, hq1⟩
       have hb := below_next hb hq1
       clear hq1 c0 c1 c2 c3
       obtain ⟨c0, c1, c2, c3⟩ := Hk.out _ hb)
    | (go_at_call 29
       refine (string_any 1 3 (by unfold fits; decide) (by unfold fits; decide) _ (HT.out.on (below_next hbw hb))).mono ?_
       rw [text13]
       rintro e w1 ⟨rfl, hq1⟩
       have hb := below_next hb hq1))
  go_ret
  exact ⟨by simp, below_next hbw hb⟩
end Go.Proofs.YtmaahfcniedfhaaDoor
