/- Copy: a relation that goes on apart. -/
import Derived.Test.YtgomfmfaoeojkaaRelOf
import Derived.Deep.RegionHeld3
namespace Go.Proofs.Ytgomfmfaoeojkaa
open Go.RowKit

/-- a slice's own three words -/
def hdr (x : Option Addr × Nat × Nat) : Value := .slice x.1 x.2.1 x.2.2
def Enc.hdr : Enc (Option Addr × Nat × Nat) where
  sz := 1
  ok _ _ cs x := cs = [Go.Proofs.Ytgomfmfaoeojkaa.hdr x]
  mono _ _ h := h
  len h := by rw [h]; rfl
theorem hdrs : ∀ (xs : List Value), (∀ x ∈ xs, ∃ (B : Option Addr) (m d : Nat), x = .slice B m d) → ∃ hs : List (Option Addr × Nat × Nat), xs = hs.map hdr
  | [], _ => ⟨[], rfl⟩
  | x :: xs, h => by
    obtain ⟨B, m, d, rfl⟩ := h x (by simp)
    obtain ⟨hs, rfl⟩ := hdrs xs (fun y hy => h y (by simp [hy]))
    exact ⟨(B, m, d) :: hs, rfl⟩
def CloneT (n : Nat) (xs : List Value) (w : World) (e : Ending) (w' : World) : Prop := ∃ A c, e = .returned (.slice A n c) ∧ w'.ownsRow w.heap.size 24 1 (.slice A n c) n xs ∧ Below w.heap.size w w'

theorem flat_hdr (hs : List (Option Addr × Nat × Nat)) : hs.flatMap (fun x => [hdr x]) = hs.map hdr := by
  induction hs with
  | nil => rfl
  | cons a r ih => simp only [List.flatMap_cons, List.map_cons, ih]; rfl
theorem cloneT_app {w W : World} {A : Option Addr} {n c g : Nat} {xs : List Value} (hown : w.ownsRow 0 24 1 (.slice A n c) n xs) (hsl : ∀ x ∈ xs, ∃ (B : Option Addr) (m d : Nat), x = .slice B m d) (hn : n ≤ 1000000) (hb : Below w.heap.size w W) (hg : w.heap.size ≤ g) (h : W.heap[g]? = some (.cells #[] 24 (0, 0))) :
    ∃ v' w', (∀ ty, (Builtin.append_ #[22, 22] ty #[.slice (some ⟨g, 0, none⟩) 0 0, .slice A n c]).run Try.prog W = .ok v' w') ∧
      (w'.ownsRow w.heap.size 24 1 v' n xs ∧ Below w.heap.size w w') := by
  obtain ⟨hs, rfl⟩ := hdrs xs hsl
  have hl : SliceIs Enc.hdr w w.heap.size A n c hs := by
    have hlen : hs.length = n := by have := hown.1; simpa using this
    refine SliceIs.of_own (E := Enc.hdr) (base := 0) (e := 24) hown hlen (by simp [reachN]; omega) ?_
    intro i x hi
    show ((hs.map hdr).drop (i * 1)).take 1 = [hdr x]
    obtain ⟨hi', rfl⟩ := List.getElem?_eq_some_iff.1 hi
    rw [Nat.mul_one, List.drop_eq_getElem_cons (by simpa using hi')]
    simp
  obtain ⟨v', w', h1, h2, h3, h4⟩ := run_append_slice (P := Try.prog) (E := Enc.hdr) (B := w.heap.size) (ty := 22) (fun x => [hdr x]) (fun _ => rfl) (fun h => h) (fun x u hu => by simp at hu; subst hu; rfl) W (base := w.heap.size) Try.underlying22 tup_info rfl (by decide)
    (own_empty hg h) (hl.below hb) (by simp [maxLen]; omega) (by omega) hb.size
  refine ⟨v', w', fun _ => h1, ?_, hb.trans h4⟩
  rw [flat_hdr] at h2
  simpa [Enc.hdr] using h2

set_option maxRecDepth 100000 in
set_option maxHeartbeats 1000000 in
theorem cloneT_any (A : Option Addr) (n c : Nat) (xs : List Value) (w : World) (hown : w.ownsRow 0 24 1 (.slice A n c) n xs) (hs : ∀ x ∈ xs, ∃ (B : Option Addr) (m d : Nat), x = .slice B m d) (hn : n ≤ 1000000) :
    Calls Try.prog 39 #[.slice A n c] w (CloneT n xs w) := by
  cases A with
  | none =>
    have h0 : n = 0 ∧ xs = [] := by
      rcases hown.2 with ⟨_, h⟩ | ⟨g, cap, cur, hv, _⟩
      · subst h; exact ⟨rfl, List.length_eq_zero_iff.1 (by have := hown.1; omega)⟩
      · cases hv
    obtain ⟨rfl, rfl⟩ := h0
    have he := fun w => Lib.run_eql_slice_nil (P := Try.prog) w 22 24 none 0 c 0 0 Try.underlying22
    simp only [Option.isNone_none] at he
    clear hown hs
    go_enter Try.func39, Try.ntmps39
    go_wp2_with fail
    go_ret
    exact ⟨none, 0, rfl, World.ownsRow_nil _ _ _ _, Below.refl _ _⟩
  | some a =>
    have he := fun w => Lib.run_eql_slice_nil (P := Try.prog) w 22 24 (some a) n c 0 0 Try.underlying22
    simp only [Option.isNone_some] at he
    obtain ⟨v', w', hrun, hown', hb⟩ := cloneT_app hown hs hn (belowA (Below.refl _ w) (.cells #[] 24)) (Nat.le_refl _) (heapNew (w := w) rfl)
    obtain ⟨A', c', rfl⟩ := own_form hown'
    have HRun := Lib.hid hrun
    have HO := Lib.hid hown'
    clear hrun hown' hown hs
    go_enter Try.func39, Try.ntmps39
    go_wp2_with (at_builtin; refine wpList_append_run rfl _ _ _ rfl _ _ rfl rfl (HRun.out _) ?_)
    go_ret
    exact ⟨A', c', rfl, HO.out, hb⟩

def RCopyPost (S : List Nat) (ar : Int) (L : List (List GV)) (w : World) (e : Ending) (w' : World) : Prop :=
  ∃ q rb', e = .returned (relP q) ∧ Below w.heap.size w w' ∧ RelAt w' (q :: (rb'.toList ++ S)) q rb' ar L ∧ w.heap.size ≤ q ∧ q < w'.heap.size ∧ ∀ b, rb' = some b → w.heap.size ≤ b ∧ b < w'.heap.size
theorem rel_copy {w w1 W : World} {S : List Nat} {p : Nat} {rb : Option Nat} {ar : Int} {L : List (List GV)} (h : RelAt w S p rb ar L) {xs : List Value}
    (h4 : ∀ (i : Nat) (t : List GV), L[i]? = some t → ∃ (B : Option Addr) (n d : Nat), xs[i]? = some (Value.slice B n d) ∧ SliceFar Enc.val w S B n d t)
    {A' : Option Addr} {c' : Nat} (hb1 : Below w.heap.size w w1) (ho : w1.ownsRow w.heap.size 24 1 (.slice A' L.length c') L.length xs) (hW : w1 = W ∨ w1.drew = W) :
    RCopyPost S ar L w (.returned (relP W.heap.size)) (W.alloc (.cells #[.int .i64 ar, .slice A' L.length c'] 77)) := by
  have hbW : Below w.heap.size w W := by
    rcases hW with rfl | rfl
    · exact hb1
    · exact Below.drew hb1
  have hoW : W.ownsRow w.heap.size 24 1 (.slice A' L.length c') L.length xs := by
    rcases hW with rfl | rfl
    · exact ho
    · exact ho
  have hb2 := belowA (Below.refl W.heap.size W) (.cells #[.int .i64 ar, .slice A' L.length c'] 77)
  have hb3 := below_next hbW hb2
  have hs := hbW.size
  have hs2 := hb2.size
  have hlt : W.heap.size < (W.alloc (.cells #[.int .i64 ar, .slice A' L.length c'] 77)).heap.size := by simp
  have hob := fun b (hb : (Value.slice A' L.length c').ownBlock = some b) => own_blk hoW hb
  refine ⟨W.heap.size, (Value.slice A' L.length c').ownBlock, rfl, hb3, ⟨⟨A', c', xs, Go.heap_alloc_new W _, ?_, rfl, ?_⟩, by simp, fun b hb => ⟨by simp [hb], by have := hob b hb; omega⟩, h.sorted, h.len, h.right⟩, hs, hlt, fun b hb => by have := hob b hb; omega⟩
  · have hx := own_out' hoW (Out.of_below hb2 []) (fun b _ hb => by cases hb)
    refine ⟨hx.1, ?_⟩
    rcases hx.2 with hn | ⟨g, cap, cur, hv, hg, hh, r⟩
    · exact .inl hn
    · exact .inr ⟨g, cap, cur, hv, Nat.zero_le _, hh, r⟩
  · intro i t hi
    obtain ⟨B, n, d, hx, hf⟩ := h4 i t hi
    refine ⟨B, n, d, hx, hf.out (S := []) (Out.of_below hb3 []) (fun b hb => by cases hb) ?_⟩
    intro b hb hbl
    simp at hb
    rcases hb with rfl | hb | hb
    · omega
    · have := hob b hb; omega
    · exact hb

set_option maxRecDepth 100000 in
set_option maxHeartbeats 1000000 in
theorem rcopy_any {w : World} {S : List Nat} {p : Nat} {rb : Option Nat} {ar : Int} {L : List (List GV)} (h : RelAt w S p rb ar L) : Calls Try.prog 12 #[relP p] w (RCopyPost S ar L w) := by
  obtain ⟨A, c, xs, h1, h2, h3, h4⟩ := h.ex
  have hlen := h.len
  have hpl : p < w.heap.size := (Array.getElem?_eq_some_iff.1 h1).1
  have hxl : xs.length = L.length := by have := h2.1; omega
  have hsl : ∀ x ∈ xs, ∃ (B : Option Addr) (m d : Nat), x = .slice B m d := by
    intro x hx
    obtain ⟨i, hi, rfl⟩ := List.mem_iff_getElem.1 hx
    obtain ⟨B, m, e, hx, -⟩ := h4 i L[i] (List.getElem?_eq_getElem (by omega))
    rw [List.getElem?_eq_getElem hi] at hx
    injection hx with hx
    exact ⟨B, m, e, hx⟩
  have HC := Lib.hid (cloneT_any A L.length c xs w.drew h2 hsl (by omega))
  have HR := Lib.hid (fun (w1 W : World) (A' : Option Addr) (c' : Nat) => @rel_copy w w1 W S p rb ar L h xs h4 A' c')
  have hcell : ∀ W, Below w.heap.size w W → W.cell? ⟨p, 0, none⟩ = some (.int .i64 ar) ∧ W.cell? ⟨p, 1, none⟩ = some (.slice A L.length c) := fun W hb =>
    ⟨(cell_of_row _ _ 0 _ _ _ ((hb.block p hpl).trans h1)).trans rfl, (cell_of_row _ _ 1 _ _ _ ((hb.block p hpl).trans h1)).trans rfl⟩
  have Hk := Lib.hid hcell
  clear h h1 h2 h3 h4 hsl hcell
  unfold relP RCopyPost at *
  go_enter Try.func12, Try.ntmps12
  go_wp2_with fail
  have hb1 := Below.refl w.heap.size w
  go_region_held3 (fun w' => w'.cell? ⟨p, 0, none⟩ = some (.int .i64 ar) ∧ w'.cell? ⟨p, 1, none⟩ = some (.slice A L.length c))
    (first
      | (refine Hk.out _ ?_; (repeat (first | with_reducible exact Below.refl _ _ | with_reducible assumption | with_reducible refine Below.drew ?_ | with_reducible refine belowA ?_ _)))
      | go_keep)
    ((first
      | (go_at_call 39
         refine HC.out.mono ?_
         rintro e w1 ⟨A', c', rfl, hown, hq1⟩
         have hb1 : Below w.heap.size w w1 := below_next (Below.drew (Below.refl _ _)) hq1)))
  all_goals
    go_wp2_with fail
    go_ret
    exact HR.out _ _ _ _ hb1 hown (.inl rfl)
end Go.Proofs.Ytgomfmfaoeojkaa
