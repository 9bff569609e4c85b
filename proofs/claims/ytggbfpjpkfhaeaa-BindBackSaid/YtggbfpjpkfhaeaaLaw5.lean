/- corollarylaw05: how large an atom is; an atom as the document's. -/
import Derived.Test.YtggbfpjpkfhaeaaLong
import Derived.Test.YtggbfpjpkfhaeaaKeep
import Derived.Test.YtggbfpjpkfhaeaaSet
import Derived.Deep.Upon
namespace Go.Proofs.Ytggbfpjpkfhaeaa
open Go.RowKit

def IntPost (p : Int → Prop) (w : World) (e : Ending) (w' : World) : Prop := ∃ r, e = .returned (.int .i64 r) ∧ p r ∧ Below w.heap.size w w'

set_option maxRecDepth 100000 in
set_option maxHeartbeats 1000000 in
theorem atom_any (rel : ByteArray) (hrel : rel.size ≤ 140737488351232) (A : Option Addr) (n c : Nat) (l : List GTold) (w : World) (hl : SliceIs Enc.told w w.heap.size A n c l) :
    Calls Try.prog 52 #[.agg #[.string rel, .slice A n c], .int .i64 200] w (IntPost (fun r => 0 ≤ r → n ≤ 200) w) := by
  have hn := hl.bound
  go_enter Try.func52, Try.ntmps52
  go_wp2
  go_loopw [1, 6, 17] (fun t _ i wr => ∃ (k : Nat) (m : Int), k ≤ n ∧ i = .int .i64 k ∧ t = .int .i64 m ∧ m ≤ 200 - k ∧ -10000000000000 ≤ m ∧ (0 < k → 0 ≤ m) ∧ Below w.heap.size w wr) (fun _ _ i _ => n - (intOf i).toNat)
  case atStart => exact ⟨0, _, by omega, rfl, rfl, by omega, by omega, by omega, belowA (Below.refl _ _) _⟩
  case round =>
    obtain ⟨k, m, hk, rfl, rfl, hm, hm2, hm3, hbw⟩ := hrel
    by_cases hlt : k < n
    · obtain ⟨b, o, s, rfl, hb, hx, hc, hc1, hc2, hc3, hs, ⟨_, _, hs2⟩⟩ := (hl.below hbw).told_at hlt
      have hs2 := reachN_le hs2
      clear hl
      by_cases hneg : m - (1 + ((s.x.size : Int) + (s.v.s.size : Int)) / 50) < 0
      · go_wp2
        go_ret
        exact ⟨-1, rfl, fun h => absurd h (by decide), belowA hbw _⟩
      · go_wp2
        go_roundw
        case rel => exact ⟨k + 1, _, by omega, by go_num, rfl, by omega, by omega, by omega, belowA hbw _⟩
        case measure => simp [intOf]; omega
    · go_wp2
      go_ret
      exact ⟨_, rfl, fun _ => by omega, hbw⟩

set_option maxRecDepth 100000 in
set_option maxHeartbeats 1000000 in
theorem rule_any (rel : ByteArray) (hrel : rel.size ≤ 140737488351232) (A : Option Addr) (n c : Nat) (l : List GTold) (w : World) (hl : SliceIs Enc.told w w.heap.size A n c l) :
    Calls Try.prog 38 #[.agg #[.string rel, .slice A n c, .int .i64 0, .int .i64 0, .slice none 0 0, .int .i64 0], .int .i64 200] w (IntPost (fun r => 0 ≤ r → n ≤ 200) w) := by
  have Hl := Lib.hid hl
  clear hl
  go_enter Try.func38, Try.ntmps38
  go_wp2_with fail
  refine (atom_any rel hrel A n c l _ (Hl.out.keep (belowA (Below.refl _ _) _))).mono ?_
  rintro e w1 ⟨r, rfl, hr, hb⟩
  have Hr := Lib.hid hr
  clear hr
  obtain ⟨hc, hf⟩ := bcell hb
  have hz := hb.size
  have hbw := below_next (belowA (Below.refl _ _) _) hb
  clear hb
  simp only [World.size_alloc, Nat.add_one_le_iff] at hz hc hf
  go_wp2_with fail
  clear hc hf
  go_loopw [1, 6, 14] (fun t _ i wr => i = .int .i64 0 ∧ t = .int .i64 r ∧ wr = w1) (fun _ _ _ _ => 0)
  case atStart => exact ⟨rfl, rfl, rfl⟩
  case round =>
    obtain ⟨rfl, rfl, rfl⟩ := hrel
    go_wp2_with fail
    go_ret
    exact ⟨_, rfl, Hr.out, hbw⟩

set_option maxRecDepth 100000 in
set_option maxHeartbeats 1000000 in
theorem long_any (rel : ByteArray) (hrel : rel.size ≤ 140737488351232) (A : Option Addr) (n c : Nat) (l : List GTold) (A1 : Option Addr) (n1 c1 : Nat) (t : List GV) (A2 : Option Addr) (n2 c2 : Nat) (l2 : List GTold) (w : World)
    (hl : SliceIs Enc.told w w.heap.size A n c l) (h1 : SliceIs Enc.val w w.heap.size A1 n1 c1 t) (h2 : SliceIs Enc.told w w.heap.size A2 n2 c2 l2) :
    Calls Try.prog 19 #[.agg #[.string rel, .slice A n c], .slice A1 n1 c1, .slice A2 n2 c2] w (BoolPost (fun r => r = false → n ≤ 200 ∧ n2 ≤ 31) w) := by
  have Hl := Lib.hid hl
  have H1 := Lib.hid h1
  have H2 := Lib.hid h2
  clear hl h1 h2
  go_enter Try.func19, Try.ntmps19
  go_wp2_with fail
  refine (rule_any rel hrel A n c l _ (Hl.out.keep (belowA (Below.refl _ _) _))).mono ?_
  rintro e w1 ⟨r, rfl, hr, hb⟩
  have hb1 := below_next (belowA (Below.refl _ _) _) hb
  have Hr := Lib.hid hr
  clear hr hb
  by_cases hneg : r < 0
  · go_wp2_with fail
    go_ret
    exact ⟨true, rfl, (fun h => by cases h), hb1⟩
  · have Hn := Lib.hid (Hr.out (by omega))
    go_wp2_with fail
    refine (long02_any _ _ _ [t] _ (tup1 (H1.out.keep hb1) (.cells #[.slice A1 n1 c1] 24) rfl)).mono ?_
    rintro e w3 ⟨r, rfl, -, b3⟩
    have b3 := below_next (belowA hb1 _) b3
    cases r with
    | true =>
      go_wp2_with fail
      go_ret
      exact ⟨true, rfl, (fun h => by cases h), b3⟩
    | false =>
    go_wp2_with fail
    refine (long13_any A2 n2 c2 l2 w3 (H2.out.keep b3)).mono ?_
    rintro e w4 ⟨r, rfl, hr, b4⟩
    have b4 := below_next b3 b4
    have Hr2 := Lib.hid hr
    clear hr
    go_wp2_with fail
    go_ret
    exact ⟨_, rfl, (fun h => ⟨Hn.out, Hr2.out (by simpa [hneg] using h)⟩), b4⟩

theorem own_set {w : World} {base e sz : Nat} {v : Value} {n : Nat} {xs : List Value} (h : w.ownsRow base e sz v n xs) (b i : Nat) (hb : b < base) (u : Value) : (w.setCell ⟨b, i, none⟩ u).ownsRow base e sz v n xs := by
  refine ⟨h.1, ?_⟩
  rcases h.2 with hn | ⟨g, cap, cur, rfl, hg, hh, r⟩
  · exact .inl hn
  · exact .inr ⟨g, cap, cur, rfl, hg, (World.heap_setCells_other w b i [u] (Array.getElem?_eq_some_iff.1 hh).1 (by omega)).trans hh, r⟩
theorem term5_info : (Try.prog.info? 97).map (fun i => (i.zero, i.size, i.bytes)) = some (some (.agg #[.string ⟨#[]⟩, .int .i64 0, .int .i64 0, .string ⟨#[]⟩]), 4, 48) := by kernel_rfl

def Atom5Post (rel : ByteArray) (n : Nat) (l : List GTold) (w : World) (e : Ending) (w' : World) : Prop :=
  ∃ A c, e = .returned (.agg #[.string rel, .slice A n c]) ∧ SliceIs Enc.told w' w'.heap.size A n c l ∧ Below w.heap.size w w'

structure At5 (W : World) (g : Nat) (rel : ByteArray) (v : Value) : Prop where
  c : W.cell? ⟨g + 1, 0, none⟩ = some (.string ⟨#[]⟩) ∧ W.cell? ⟨g + 1, 1, none⟩ = some (.slice none 0 0) ∧ W.cell? ⟨g + 1 + 1, 0, none⟩ = some (.string rel) ∧ W.cell? ⟨g + 1 + 1, 1, none⟩ = some v
  f : W.frozen? ⟨g + 1, 0, none⟩ = false ∧ W.frozen? ⟨g + 1, 1, none⟩ = false ∧ W.frozen? ⟨g + 1 + 1, 0, none⟩ = false ∧ W.frozen? ⟨g + 1 + 1, 1, none⟩ = false
theorem At5.next {W W' : World} {g : Nat} {rel : ByteArray} {v : Value} (h : At5 W g rel v) (hb : Below (g + 3) W W') : At5 W' g rel v :=
  ⟨⟨(hb.cell (p := ⟨g + 1, 0, none⟩) (by simp)).trans h.c.1, (hb.cell (p := ⟨g + 1, 1, none⟩) (by simp)).trans h.c.2.1, (hb.cell (p := ⟨g + 1 + 1, 0, none⟩) (by simp)).trans h.c.2.2.1, (hb.cell (p := ⟨g + 1 + 1, 1, none⟩) (by simp)).trans h.c.2.2.2⟩,
   ⟨(hb.frozen (p := ⟨g + 1, 0, none⟩) (by simp)).trans h.f.1, (hb.frozen (p := ⟨g + 1, 1, none⟩) (by simp)).trans h.f.2.1, (hb.frozen (p := ⟨g + 1 + 1, 0, none⟩) (by simp)).trans h.f.2.2.1, (hb.frozen (p := ⟨g + 1 + 1, 1, none⟩) (by simp)).trans h.f.2.2.2⟩⟩
theorem At5.set {W : World} {g : Nat} {rel : ByteArray} {v : Value} (h : At5 W g rel v) (u : Value) : At5 (W.setCell ⟨g + 1 + 1, 1, none⟩ u) g rel u :=
  ⟨⟨(World.cell?_setCell_other _ _ _ _ (by simp)).trans h.c.1, (World.cell?_setCell_other _ _ _ _ (by simp)).trans h.c.2.1, (World.cell?_setCell_other _ _ _ _ (by simp)).trans h.c.2.2.1, World.cell?_setCell_same _ _ _ h.c.2.2.2⟩, by simpa using h.f⟩

theorem at5_start (w : World) (rel : ByteArray) (A : Option Addr) (n c : Nat) : At5 (((w.alloc (.cells #[.string rel, .slice A n c] 49)).alloc (.cells #[.string ⟨#[]⟩, .slice none 0 0] 53)).alloc (.cells #[.string rel, .slice none 0 0] 53)) w.heap.size rel (.slice none 0 0) :=
  ⟨⟨by simp [go_sem], by simp [go_sem], by simp [go_sem], by simp [go_sem]⟩, ⟨by simp [go_sem], by simp [go_sem], by simp [go_sem], by simp [go_sem]⟩⟩

set_option maxRecDepth 100000 in
set_option maxHeartbeats 1000000 in
theorem atom5_any (rel : ByteArray) (A : Option Addr) (n c : Nat) (l : List GTold) (w : World) (hn : n ≤ 200) (hl : SliceIs Enc.told w w.heap.size A n c l) :
    Calls Try.prog 20 #[.agg #[.string rel, .slice A n c]] w (Atom5Post rel n l w) := by
  have hlen := Lib.hid hl.1
  have hall := Lib.hid (fun t h => told_ok hl t h)
  go_enter Try.func20, Try.ntmps20
  go_wp2_with fail
  go_loopw [5, 12] (fun _ i wr => ∃ (k : Nat) (v : Value), k ≤ n ∧ i = .int .i64 k ∧ At5 wr w.heap.size rel v ∧ wr.ownsRow (w.heap.size + 3) 97 4 v k ((l.take k).flatMap GTold.cells) ∧ Below w.heap.size w wr ∧ w.heap.size + 3 ≤ wr.heap.size) (fun _ i _ => n - (intOf i).toNat)
  case atStart =>
    exact ⟨0, .slice none 0 0, by omega, rfl, at5_start w rel A n c, World.ownsRow_nil _ _ _ _, belowA (belowA (belowA (Below.refl _ _) _) _) _, by simp⟩
  case round =>
    obtain ⟨k, v, hk, rfl, h5, hown, hbr, hz⟩ := hrel
    by_cases hlt : k < n
    · obtain ⟨b, o, x, rfl, _, hx, x1, x2, x3, x4, _⟩ := (hl.below hbr).told_at hlt
      clear hl
      have H5 := Lib.hid h5
      obtain ⟨⟨d1, d2, d3, d4⟩, ⟨f1, f2, f3, f4⟩⟩ := h5
      have z1 : w.heap.size + 1 < wr.heap.size := by omega
      have z2 : w.heap.size + 1 + 1 < wr.heap.size := by omega
      obtain ⟨v2, w2, hrun, hown2, hb2⟩ := run_push (P := Try.prog) (wr.alloc (.cells #[.string x.x, .int .i64 x.v.k, .int .i64 x.v.n, .string x.v.s] 78)) (wr.heap.size + 1) (by simp) (ty := 51) Try.underlying51 term5_info rfl (by omega) (hown.alloc _)
        x.cells rfl (by intro u hu; simp [GTold.cells] at hu; rcases hu with rfl | rfl | rfl | rfl <;> rfl) (by simp [maxLen]; omega) (by omega) (by simp; omega)
      obtain ⟨A2, c2, rfl⟩ := own_form hown2
      have hq : Below (w.heap.size + 3) wr (wr.alloc (.cells #[.string x.x, .int .i64 x.v.k, .int .i64 x.v.n, .string x.v.s] 78)) := (Below.refl _ _).alloc hz _
      have H7 := Lib.hid ((H5.out.next hq).next hb2)
      obtain ⟨⟨e1, e2, e3, e4⟩, ⟨f1', f2', f3', f4'⟩⟩ := H7.out
      have hsz2 := hb2.size
      simp only [World.size_alloc] at hsz2
      have HRun := Lib.hid hrun
      clear hrun
      go_wp2_with (at_builtin; refine wpList_append_run rfl _ _ _ rfl _ _ rfl rfl HRun ?_)
      go_roundw
      case rel => exact ⟨k + 1, _, by omega, by go_num, H7.out.set _, own_set (by rw [List.take_add_one, hx.out, List.flatMap_append]; simpa using hown2) _ _ (by omega) _, ((belowA hbr _).trans (hb2.mono (by omega))).setCell (by simp; omega) _, by simp; omega⟩
      case measure => simp [intOf]; omega
    · obtain ⟨A2, c2, rfl⟩ := own_form hown
      have H5 := Lib.hid h5
      obtain ⟨⟨d1, d2, d3, d4⟩, ⟨f1, f2, f3, f4⟩⟩ := h5
      have hkn : k = n := by omega
      subst hkn
      go_wp2_with fail
      exact bodyPost_ret (v := .agg #[.string rel, .slice A2 k c2]) (by simp [results, Try.results20, go_sem, d1, d2]) rfl ⟨A2, c2, rfl, by
        have hlk : l.take k = l := List.take_of_length_le (by have := hlen.out; omega)
        rw [hlk] at hown
        exact SliceIs.of_flat (E := Enc.told) GTold.cells (fun _ => rfl) (own_set (own_set hown _ _ (by omega) _) _ _ (by omega) _) hlen.out (by simp [reachN]; omega) (fun t ht => ⟨rfl, hall.out t ht⟩), (hbr.setCell (by simp) _).setCell (by simp) _⟩
end Go.Proofs.Ytggbfpjpkfhaeaa
