/- The chapter's example. -/
import Derived.Test.YtgomfmfaoeojkaaRelRef
namespace Go.Proofs.Ytgomfmfaoeojkaa
open Go.RowKit

def nk (k : Int) : GV := ⟨1, k, ⟨#[]⟩⟩
theorem nk_ok (k : Int) (h : k = 1 ∨ k = 2 ∨ k = 3) : (nk k).ok := by
  rcases h with rfl | rfl | rfl <;> exact ⟨by unfold fits; decide, by unfold fits; decide, Nat.zero_le _⟩
theorem alive_list : ofE 1 [[nk 2], [nk 1], [nk 2]] = 0 ∧ ofL 1 [[nk 2], [nk 1], [nk 2]] = [[nk 1], [nk 2]] := by
  constructor <;> kernel_rfl
theorem alive_in : decide ([nk 1] ∈ [[nk 1], [nk 2]]) = true ∧ decide ([nk 3] ∈ [[nk 1], [nk 2]]) = false := by
  constructor <;> kernel_rfl
theorem row1 {W : World} {g : Nat} {k : Int} (hk : k = 1 ∨ k = 2 ∨ k = 3) (h : W.heap[g]? = some (.cells #[.int .i64 1, .int .i64 k, .string ⟨#[]⟩] 56 (0, 0))) : SliceIs Enc.val W W.heap.size (some ⟨g, 0, none⟩) 1 1 [nk k] :=
  SliceIs.of_block (E := Enc.val) (l := [nk k]) GV.cells (fun _ => rfl) h rfl (by simp [reachN]) (fun x hx => ⟨rfl, by simp at hx; subst hx; exact nk_ok k hk⟩)
theorem three_tuples {w : World} {A B C : Option Addr} {n c m d q f : Nat} {a b e : List GV} (ha : SliceIs Enc.val w w.heap.size A n c a) (hb : SliceIs Enc.val w w.heap.size B m d b) (he : SliceIs Enc.val w w.heap.size C q f e) :
    SliceIs (Enc.slice Enc.val) (w.alloc (.cells #[.slice A n c, .slice B m d, .slice C q f] 24)) (w.alloc (.cells #[.slice A n c, .slice B m d, .slice C q f] 24)).heap.size (some ⟨w.heap.size, 0, none⟩) 3 3 [a, b, e] := by
  have hbe : Below w.heap.size w (w.alloc (.cells #[.slice A n c, .slice B m d, .slice C q f] 24)) := belowA (Below.refl _ _) _
  refine ⟨rfl, by omega, by simp [maxLen], by simp [reachN], .inr ⟨w.heap.size, 0, rfl, by simp, ?_⟩⟩
  have hrow := Go.heap_alloc_new w (.cells #[.slice A n c, .slice B m d, .slice C q f] 24)
  intro i x hx
  match i, hx with
  | 0, hx =>
    simp at hx; subst hx
    refine ⟨[.slice A n c], ⟨A, n, c, rfl, (ha.below hbe).mono (by simp) (fun _ _ => rfl)⟩, ?_⟩
    intro j v hv
    match j, hv with
    | 0, hv => simp at hv; subst hv; exact (cell_of_row _ _ 0 _ _ _ hrow).trans rfl
  | 1, hx =>
    simp at hx; subst hx
    refine ⟨[.slice B m d], ⟨B, m, d, rfl, (hb.below hbe).mono (by simp) (fun _ _ => rfl)⟩, ?_⟩
    intro j v hv
    match j, hv with
    | 0, hv => simp at hv; subst hv; exact (cell_of_row _ _ 1 _ _ _ hrow).trans rfl
  | 2, hx =>
    simp at hx; subst hx
    refine ⟨[.slice C q f], ⟨C, q, f, rfl, (he.below hbe).mono (by simp) (fun _ _ => rfl)⟩, ?_⟩
    intro j v hv
    match j, hv with
    | 0, hv => simp at hv; subst hv; exact (cell_of_row _ _ 2 _ _ _ hrow).trans rfl
  | i + 3, hx => simp at hx
def LitPost (k : Int) (w : World) (e : Ending) (w' : World) : Prop := e = .returned (.slice (some ⟨w.heap.size, 0, none⟩) 1 1) ∧ w' = w.alloc (.cells #[.int .i64 1, .int .i64 k, .string ⟨#[]⟩] 56)
set_option maxRecDepth 100000 in
theorem lit_any (k : Int) (w : World) : Calls Try.prog 38 #[.int .i64 k] w (LitPost k w) := by
  go_enter Try.func38, Try.ntmps38
  go_wp2_with fail
  go_ret
  exact ⟨rfl, rfl⟩

set_option maxRecDepth 100000 in
set_option maxHeartbeats 1000000 in
theorem alive_any (w : World) : Calls Try.prog 8 #[] w (RetBool true w) := by
  go_enter Try.func8, Try.ntmps8
  go_wp2_with fail
  refine (lit_any _ _).mono ?_
  rintro e w1 ⟨rfl, hw1⟩
  have hb1 : Below w.heap.size w w1 := by rw [hw1]; exact belowA (Below.refl _ _) _
  have hs1 : w1.heap.size = w.heap.size + 1 := by rw [hw1]; simp
  have r1 : w1.heap[w.heap.size]? = some (.cells #[.int .i64 1, .int .i64 2, .string ⟨#[]⟩] 56 (0, 0)) := by rw [hw1]; exact Go.heap_alloc_new w _
  have Hs1 := Lib.hid hs1
  have R1 := Lib.hid (row1 (.inr (.inl rfl)) r1)
  clear hw1 hs1 r1
  go_wp2_with fail
  refine (lit_any _ _).mono ?_
  rintro e w2 ⟨rfl, hw2⟩
  have hb2 : Below w1.heap.size w1 w2 := by rw [hw2]; exact belowA (Below.refl _ _) _
  have r2 : w2.heap[w1.heap.size]? = some (.cells #[.int .i64 1, .int .i64 1, .string ⟨#[]⟩] 56 (0, 0)) := by rw [hw2]; exact Go.heap_alloc_new w1 _
  have R2 := Lib.hid (row1 (.inl rfl) r2)
  clear hw2 r2
  go_wp2_with fail
  refine (lit_any _ _).mono ?_
  rintro e w3 ⟨rfl, hw3⟩
  have hb3 : Below w2.heap.size w2 w3 := by rw [hw3]; exact belowA (Below.refl _ _) _
  have r3 : w3.heap[w2.heap.size]? = some (.cells #[.int .i64 1, .int .i64 2, .string ⟨#[]⟩] 56 (0, 0)) := by rw [hw3]; exact Go.heap_alloc_new w2 _
  have R3 := Lib.hid (row1 (.inr (.inl rfl)) r3)
  clear hw3 r3
  have hb13 : Below w1.heap.size w1 w3 := below_next hb2 hb3
  have HL := Lib.hid (three_tuples (R1.out.mono hb13.size hb13.block) (R2.out.mono hb3.size hb3.block) R3.out)
  have HB := Lib.hid (below_next hb1 hb13)
  clear R1 R2 R3 hb1 hb2 hb3 hb13
  generalize w1.heap.size = g1 at *
  generalize w2.heap.size = g2 at *
  generalize hg0 : w.heap.size = g0 at *
  go_wp2_with fail
  have HO := Lib.hid (of_any 1 _ _ _ _ _ HL.out)
  refine HO.out.mono ?_
  rintro e w5 ⟨hb5, h⟩
  rcases h with ⟨-, p, rfl, hr⟩ | ⟨hx, _⟩
  · rw [alive_list.2] at hr
    obtain ⟨rb, hr, -⟩ := hr
    subst hg0
    have hsB := HB.out.size
    have hb05 : Below w.heap.size w w5 := (HB.out.trans ((belowA (Below.refl _ _) _).mono hsB)).trans (hb5.mono (by simp; omega))
    have HR := Lib.hid hr
    have H1 := Lib.hid (len_any hr)
    clear hr hb5 HO HL HB hsB
    unfold relP at H1
    go_wp2_with fail
    refine H1.out.mono ?_
    rintro e w6 ⟨rfl, hw6⟩
    subst hw6
    go_wp2_with fail
    refine (lit_any _ _).mono ?_
    rintro e w7 ⟨rfl, hw7⟩
    have hb7 : Below w6.heap.size w6 w7 := by rw [hw7]; exact belowA (Below.refl _ _) _
    have r7 : w7.heap[w6.heap.size]? = some (.cells #[.int .i64 1, .int .i64 1, .string ⟨#[]⟩] 56 (0, 0)) := by rw [hw7]; exact Go.heap_alloc_new w6 _
    have H2 := Lib.hid (has_any (HR.out.on hb7) _ 1 1 [nk 1] (row1 (.inl rfl) r7))
    rw [alive_in.1] at H2
    have HR7 := Lib.hid (HR.out.on hb7)
    clear hw7 r7 H1
    unfold relP at H2
    go_wp2_with fail
    refine H2.out.mono ?_
    rintro e w8 ⟨rfl, hb8⟩
    go_wp2_with fail
    refine (lit_any _ _).mono ?_
    rintro e w9 ⟨rfl, hw9⟩
    have hb9 : Below w8.heap.size w8 w9 := by rw [hw9]; exact belowA (Below.refl _ _) _
    have r9 : w9.heap[w8.heap.size]? = some (.cells #[.int .i64 1, .int .i64 3, .string ⟨#[]⟩] 56 (0, 0)) := by rw [hw9]; exact Go.heap_alloc_new w8 _
    have H3 := Lib.hid (has_any ((HR7.out.on hb8).on hb9) _ 1 1 [nk 3] (row1 (.inr (.inr rfl)) r9))
    rw [alive_in.2] at H3
    clear hw9 r9 H2 HR HR7
    unfold relP at H3
    go_wp2_with fail
    refine H3.out.mono ?_
    rintro e w10 ⟨rfl, hb10⟩
    go_wp2_with fail
    go_ret
    exact ⟨by simp, below_next (below_next (below_next (below_next hb05 hb7) hb8) hb9) hb10⟩
  · exact absurd alive_list.1 hx
end Go.Proofs.Ytgomfmfaoeojkaa
