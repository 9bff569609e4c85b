/- A relation in memory; New, find, Has, Len, Arity. -/
import Derived.Test.YtgomfmfaoeojkaaRelFind
import Derived.Test.YtgomfmfaoeojkaaDelete
import Derived.Test.YtgomfmfaoeojkaaTupP
namespace Go.Proofs.Ytgomfmfaoeojkaa
open Go.RowKit

/-- a relation at block p, its row at block rb (none: a nil row); S: the blocks that may still change, its tuples lie outside of these -/
structure RelAt (w : World) (S : List Nat) (p : Nat) (rb : Option Nat) (ar : Int) (L : List (List GV)) : Prop where
  ex : ∃ (A : Option Addr) (c : Nat) (xs : List Value), w.heap[p]? = some (.cells #[.int .i64 ar, .slice A L.length c] 77 (0, 0)) ∧ w.ownsRow 0 24 1 (.slice A L.length c) L.length xs ∧ (Value.slice A L.length c).ownBlock = rb ∧
    ∀ (i : Nat) (t : List GV), L[i]? = some t → ∃ (B : Option Addr) (n d : Nat), xs[i]? = some (Value.slice B n d) ∧ SliceFar Enc.val w S B n d t
  pS : p ∈ S
  rS : ∀ b, rb = some b → b ∈ S ∧ b ≠ p
  sorted : Sorted L
  len : L.length ≤ 2000
  right : ∀ t ∈ L, (t.length : Int) = ar ∧ rightT t = true

theorem own_out {w w' : World} {S : List Nat} {e sz : Nat} {v : Value} {n : Nat} {xs : List Value} (h : w.ownsRow 0 e sz v n xs) (ho : Out S w w') (hS : ∀ b, v.ownBlock = some b → b ∉ S) : w'.ownsRow 0 e sz v n xs := by
  refine ⟨h.1, ?_⟩
  rcases h.2 with hn | ⟨g, cap, cur, rfl, hg, hh, r⟩
  · exact .inl hn
  · exact .inr ⟨g, cap, cur, rfl, hg, (ho.block g (Array.getElem?_eq_some_iff.1 hh).1 (hS g rfl)).trans hh, r⟩

theorem RelAt.out {w w' : World} {S S' T : List Nat} {p : Nat} {rb : Option Nat} {ar : Int} {L : List (List GV)} (h : RelAt w S p rb ar L) (ho : Out T w w') (hT : ∀ b ∈ T, b < w.heap.size → b ∈ S ∧ b ≠ p ∧ rb ≠ some b)
    (hS' : ∀ b ∈ S', b < w.heap.size → b ∈ S) (hp : p ∈ S') (hr : ∀ b, rb = some b → b ∈ S') : RelAt w' S' p rb ar L := by
  obtain ⟨A, c, xs, h1, h2, h3, h4⟩ := h.ex
  have hpl : p < w.heap.size := (Array.getElem?_eq_some_iff.1 h1).1
  refine ⟨⟨A, c, xs, ?_, ?_, h3, ?_⟩, hp, fun b hb => ⟨hr b hb, (h.rS b hb).2⟩, h.sorted, h.len, h.right⟩
  · exact (ho.block p hpl (fun hb => (hT p hb hpl).2.1 rfl)).trans h1
  · refine own_out h2 ho fun b hb hbT => ?_
    rw [h3] at hb
    have hlt : b < w.heap.size := by
      rcases h2.2 with ⟨hn, _⟩ | ⟨g, cap, cur, hv, hg, hh, r⟩
      · rw [hn] at h3; rw [hb] at h3; cases h3
      · rw [hv] at h3; rw [hb] at h3; injection h3 with h3; subst h3; exact (Array.getElem?_eq_some_iff.1 hh).1
    exact (hT b hbT hlt).2.2 hb
  · intro i t hi
    obtain ⟨B, n, d, hx, hf⟩ := h4 i t hi
    exact ⟨B, n, d, hx, hf.out ho (fun b hb hbl => (hT b hb hbl).1) hS'⟩
theorem RelAt.on {w w' : World} {S : List Nat} {p : Nat} {rb : Option Nat} {ar : Int} {L : List (List GV)} (h : RelAt w S p rb ar L) (hb : Below w.heap.size w w') : RelAt w' S p rb ar L :=
  h.out (T := []) (Out.of_below hb []) (fun _ h _ => by cases h) (fun _ hb _ => hb) h.pS (fun b hb => (h.rS b hb).1)

/-- its row, read as a list -/
theorem RelAt.row {w : World} {S : List Nat} {p : Nat} {rb : Option Nat} {ar : Int} {L : List (List GV)} (h : RelAt w S p rb ar L) :
    ∃ A c, w.heap[p]? = some (.cells #[.int .i64 ar, .slice A L.length c] 77 (0, 0)) ∧ SliceIs (Enc.slice Enc.val) w w.heap.size A L.length c L := by
  obtain ⟨A, c, xs, h1, h2, h3, h4⟩ := h.ex
  refine ⟨A, c, h1, SliceIs.of_own (E := Enc.slice Enc.val) (base := 0) (e := 24) h2 rfl (by have := h.len; simp [reachN]; omega) ?_⟩
  intro i t hi
  obtain ⟨B, n, d, hx, hf⟩ := h4 i t hi
  refine ⟨B, n, d, ?_, hf.is⟩
  show ((xs.drop (i * 1)).take 1) = _
  rw [Nat.mul_one, List.drop_eq_getElem_cons (List.getElem?_eq_some_iff.1 hx).1]
  have := hx
  rw [List.getElem?_eq_getElem (List.getElem?_eq_some_iff.1 hx).1] at this
  simp at this
  simp [this]

def relP (p : Nat) : Value := .pointer (some ⟨p, 0, none⟩)
section
variable {w : World} {S : List Nat} {p : Nat} {rb : Option Nat} {ar : Int} {L : List (List GV)}
set_option maxRecDepth 100000 in
theorem find_any (h : RelAt w S p rb ar L) (A : Option Addr) (n c : Nat) (t : List GV) (ht : SliceIs Enc.val w w.heap.size A n c t) : Calls Try.prog 42 #[relP p, .slice A n c] w (FindPost L t w) := by
  obtain ⟨A', c', h1, hL⟩ := h.row
  have hb := Lib.hid (bsearch_any A' A L.length c' n c L t w (by have := h.len; omega) hL ht h.sorted)
  have c1 : w.cell? ⟨p, 1, none⟩ = some (.slice A' L.length c') := (cell_of_row _ _ 1 _ _ _ h1).trans rfl
  clear h hL ht h1
  unfold relP
  go_enter Try.func42, Try.ntmps42
  go_wp2_with fail
  refine hb.out.mono ?_
  rintro e w1 ⟨rfl, hq⟩
  go_wp2_with fail
  go_ret2
  exact ⟨rfl, hq⟩
set_option maxRecDepth 100000 in
theorem has_any (h : RelAt w S p rb ar L) (A : Option Addr) (n c : Nat) (t : List GV) (ht : SliceIs Enc.val w w.heap.size A n c t) : Calls Try.prog 15 #[relP p, .slice A n c] w (RetBool (decide (t ∈ L)) w) := by
  have hb := Lib.hid (find_any h A n c t ht)
  clear h ht
  unfold relP at hb ⊢
  go_enter Try.func15, Try.ntmps15
  go_wp2_with fail
  refine hb.out.mono ?_
  rintro e w1 ⟨rfl, hq⟩
  go_wp2_with fail
  go_ret
  exact ⟨rfl, hq⟩
set_option maxRecDepth 100000 in
theorem len_any (h : RelAt w S p rb ar L) : Calls Try.prog 13 #[relP p] w (RetSame L.length w) := by
  obtain ⟨A', c', h1, hL⟩ := h.row
  have c1 : w.cell? ⟨p, 1, none⟩ = some (.slice A' L.length c') := (cell_of_row _ _ 1 _ _ _ h1).trans rfl
  clear h hL h1
  unfold relP
  go_enter Try.func13, Try.ntmps13
  go_wp2_with fail
  go_ret
  exact ⟨rfl, rfl⟩
set_option maxRecDepth 100000 in
theorem arity_any (h : RelAt w S p rb ar L) : Calls Try.prog 50 #[relP p] w (RetSame ar w) := by
  obtain ⟨A', c', h1, hL⟩ := h.row
  have c0 : w.cell? ⟨p, 0, none⟩ = some (.int .i64 ar) := (cell_of_row _ _ 0 _ _ _ h1).trans rfl
  clear h hL h1
  unfold relP
  go_enter Try.func50, Try.ntmps50
  go_wp2_with fail
  go_ret
  exact ⟨rfl, rfl⟩
end

def NewNo (w : World) (e : Ending) (w' : World) : Prop := e = .returned (.tuple #[.pointer none, .iface 45 (.int .i64 6)]) ∧ w' = w
def NewYes (ar : Int) (w : World) (e : Ending) (w' : World) : Prop := e = .returned (.tuple #[relP w.heap.size, .nilIface]) ∧ w' = w.alloc (.cells #[.int .i64 ar, .slice none 0 0] 77)
set_option maxRecDepth 100000 in
theorem new_no (ar : Int) (h : ar < 0 ∨ 6 < ar) (w : World) : Calls Try.prog 18 #[.int .i64 ar] w (NewNo w) := by
  by_cases h0 : ar < 0
  · clear h
    go_enter Try.func18, Try.ntmps18
    go_wp2_with fail
    go_ret2
    exact ⟨rfl, rfl⟩
  · have h6 : 6 < ar := by omega
    clear h
    go_enter Try.func18, Try.ntmps18
    go_wp2_with fail
    go_ret2
    exact ⟨rfl, rfl⟩
set_option maxRecDepth 100000 in
theorem new_yes (ar : Int) (h : 0 ≤ ar) (h6 : ar ≤ 6) (w : World) : Calls Try.prog 18 #[.int .i64 ar] w (NewYes ar w) := by
  have h1 : ¬ ar < 0 := by omega
  have h2 : ¬ 6 < ar := by omega
  go_enter Try.func18, Try.ntmps18
  go_wp2_with fail
  go_ret2
  exact ⟨rfl, rfl⟩
theorem RelAt.new {w : World} {S : List Nat} (ar : Int) (hS : w.heap.size ∈ S) : RelAt (w.alloc (.cells #[.int .i64 ar, .slice none 0 0] 77)) S w.heap.size none ar [] :=
  ⟨⟨none, 0, [], Go.heap_alloc_new w _, World.ownsRow_nil _ _ _ _, rfl, fun i t h => by simp at h⟩, hS, fun b hb => (by cases hb), List.Pairwise.nil, by simp, fun t ht => by cases ht⟩
end Go.Proofs.Ytgomfmfaoeojkaa
