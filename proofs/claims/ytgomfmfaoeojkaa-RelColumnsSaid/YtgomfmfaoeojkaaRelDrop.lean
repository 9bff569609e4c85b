/- Drop: a tuple is taken out. -/
import Derived.Test.YtgomfmfaoeojkaaRelAdd
namespace Go.Proofs.Ytgomfmfaoeojkaa
open Go.RowKit

def DropPost (S : List Nat) (p : Nat) (rb : Option Nat) (ar : Int) (b : Bool) (L : List (List GV)) (w : World) (e : Ending) (w' : World) : Prop :=
  e = .returned (.bool b) ∧ RelAt w' S p rb ar L ∧ Out (p :: rb.toList) w w'

theorem rel_del {w W w2 : World} {S : List Nat} {p : Nat} {rb : Option Nat} {ar : Int} {L : List (List GV)} (h : RelAt w S p rb ar L) {A : Option Addr} {c : Nat} {xs : List Value}
    (h1 : w.heap[p]? = some (.cells #[.int .i64 ar, .slice A L.length c] 77 (0, 0))) (h2 : w.ownsRow 0 24 1 (.slice A L.length c) L.length xs) (h3 : (Value.slice A L.length c).ownBlock = rb)
    (h4 : ∀ (i : Nat) (t : List GV), L[i]? = some t → ∃ (B : Option Addr) (n d : Nat), xs[i]? = some (Value.slice B n d) ∧ SliceFar Enc.val w S B n d t)
    {t : List GV} (hm : t ∈ L) (hbW : Below w.heap.size w W) {A' : Option Addr} {c' : Nat}
    (hI : w2.ownsRow 0 24 1 (.slice A' (L.length - 1) c') (L.length - 1) (xs.take (posL L t) ++ xs.drop (posL L t + 1)))
    (hO : Out (Value.slice A L.length c).ownBlock.toList W w2) (hrow : (Value.slice A' (L.length - 1) c').ownBlock = (Value.slice A L.length c).ownBlock) :
    RelAt (w2.setCell ⟨p, 1, none⟩ (.slice A' (L.length - 1) c')) S p rb ar (delL L t) ∧ Out (p :: rb.toList) w (w2.setCell ⟨p, 1, none⟩ (.slice A' (L.length - 1) c')) := by
  rw [h3] at hO hrow
  have hpl : p < w.heap.size := (Array.getElem?_eq_some_iff.1 h1).1
  have hprb : ∀ b, rb = some b → b ≠ p := fun b hb => (h.rS b hb).2
  have o1 : Out rb.toList w w2 := (Out.of_below hbW rb.toList).trans hO (fun b hb _ => hb)
  have oS : Out [p] w2 (w2.setCell ⟨p, 1, none⟩ (.slice A' (L.length - 1) c')) := set_out w2 p 1 _
  have o2 : Out (p :: rb.toList) w (w2.setCell ⟨p, 1, none⟩ (.slice A' (L.length - 1) c')) := (o1.mono (fun b hb _ => List.mem_cons_of_mem _ hb)).trans oS (fun b hb _ => by simp at hb; simp [hb])
  have hp2 : w2.heap[p]? = some (.cells #[.int .i64 ar, .slice A L.length c] 77 (0, 0)) := (o1.block p hpl (fun hb => hprb p (by simpa using hb) rfl)).trans h1
  have hd := del_pos h.sorted hm
  have hpos : posL L t < L.length := (List.getElem?_eq_some_iff.1 ((mem_pos h.sorted t).1 hm)).1
  have hxl : xs.length = L.length := by have := h2.1; omega
  have hlenD : (delL L t).length = L.length - 1 := by rw [hd]; simp; omega
  have hlen := h.len
  refine ⟨⟨⟨A', c', xs.take (posL L t) ++ xs.drop (posL L t + 1), ?_, ?_, ?_, ?_⟩, h.pS, h.rS, sorted_del h.sorted t, by omega, fun u hu => h.right u (mem_del.1 hu).1⟩, o2⟩
  · rw [hlenD]; exact set_one hp2
  · rw [hlenD]; exact own_out' hI oS (fun b hb hbp => by rw [hrow] at hb; exact hprb b hb (by simpa using hbp))
  · rw [hlenD]; exact hrow
  · intro i u hi
    have far : ∀ (k : Nat) (v : List GV), L[k]? = some v → ∃ (B : Option Addr) (n d : Nat), xs[k]? = some (Value.slice B n d) ∧ SliceFar Enc.val (w2.setCell ⟨p, 1, none⟩ (.slice A' (L.length - 1) c')) S B n d v := by
      intro k v hk
      obtain ⟨B, n, d, hx, hf⟩ := h4 k v hk
      refine ⟨B, n, d, hx, hf.out o2 ?_ (fun b hb _ => hb)⟩
      intro b hb _
      simp at hb
      rcases hb with rfl | hb
      · exact h.pS
      · exact (h.rS b hb).1
    rw [hd] at hi
    rcases Nat.lt_or_ge i (posL L t) with hlt | hge
    · rw [List.getElem?_append_left (by rw [List.length_take]; omega), List.getElem?_take, if_pos hlt] at hi
      obtain ⟨B, n, d, hx, hf⟩ := far i u hi
      refine ⟨B, n, d, ?_, hf⟩
      rw [List.getElem?_append_left (by rw [List.length_take]; omega), List.getElem?_take, if_pos hlt]; exact hx
    · rw [List.getElem?_append_right (by rw [List.length_take]; omega), List.length_take, Nat.min_eq_left (by omega), List.getElem?_drop] at hi
      obtain ⟨B, n, d, hx, hf⟩ := far _ u hi
      refine ⟨B, n, d, ?_, hf⟩
      rw [List.getElem?_append_right (by rw [List.length_take]; omega), List.length_take, Nat.min_eq_left (by omega), List.getElem?_drop]; exact hx

set_option maxRecDepth 100000 in
set_option maxHeartbeats 1000000 in
theorem drop_any {w : World} {S : List Nat} {p : Nat} {rb : Option Nat} {ar : Int} {L : List (List GV)} (h : RelAt w S p rb ar L) (A : Option Addr) (n d : Nat) (t : List GV) (ht : SliceIs Enc.val w w.heap.size A n d t) :
    Calls Try.prog 16 #[relP p, .slice A n d] w (DropPost S p rb ar (decide (t ∈ L)) (delL L t) w) := by
  have HF := Lib.hid (find_any h A n d t ht)
  by_cases hm : t ∈ L
  · obtain ⟨A', c, xs, h1, h2, h3, h4⟩ := h.ex
    have hlen := h.len
    have hpl : p < w.heap.size := (Array.getElem?_eq_some_iff.1 h1).1
    have hpos : posL L t < L.length := (List.getElem?_eq_some_iff.1 ((mem_pos h.sorted t).1 hm)).1
    have hxl : xs.length = L.length := by have := h2.1; omega
    have hone : ∀ x ∈ xs, x.oneCell' = true := by
      intro x hx
      obtain ⟨i, hi, rfl⟩ := List.mem_iff_getElem.1 hx
      obtain ⟨B, m, e, hx, -⟩ := h4 i L[i] (List.getElem?_eq_getElem (by omega))
      rw [List.getElem?_eq_getElem hi] at hx
      injection hx with hx
      rw [hx]; rfl
    have HD := Lib.hid (fun (W : World) (hb : Below w.heap.size w W) => delete_any A' L.length c (posL L t) xs W (by omega) hpos (own_out' h2 (Out.of_below hb []) (fun b _ hb => by cases hb)) hone)
    have H0 := Lib.hid (fun (W : World) (hb : Below w.heap.size w W) => (hb.block p hpl).trans h1)
    have H2 : Hid (∀ (W w2 : World), Below w.heap.size w W → Out (Value.slice A' L.length c).ownBlock.toList W w2 → w2.heap[p]? = some (.cells #[.int .i64 ar, .slice A' L.length c] 77 (0, 0))) := by
      intro W w2 hb ho
      have := hb.size
      exact (ho.block p (by omega) (fun hb => by rw [h3] at hb; exact (h.rS p (by simpa using hb)).2 rfl)).trans ((hb.block p hpl).trans h1)
    have HL := Lib.hid (fun (W w2 : World) (hb : Below w.heap.size w W) => @rel_del w W w2 S p rb ar L h A' c xs h1 h2 h3 h4 t hm hb)
    clear h h1 h2 h3 h4 hone ht
    unfold relP at HF ⊢
    go_enter Try.func16, Try.ntmps16
    go_wp2_with fail
    refine HF.out.mono ?_
    rintro e w1 ⟨rfl, hq⟩
    have c1 : w1.cell? ⟨p, 1, none⟩ = some (.slice A' L.length c) := (cell_of_row _ _ 1 _ _ _ (H0.out w1 hq)).trans rfl
    simp only [hm, decide_true]
    go_wp2_with fail
    refine (HD.out w1 hq).mono ?_
    rintro e w4 ⟨A4, c4, rfl, hown4, hout4, hnew4⟩
    have hh4 := H2.out _ w4 hq hout4
    have c4c : w4.cell? ⟨p, 1, none⟩ = some (.slice A' L.length c) := (cell_of_row _ _ 1 _ _ _ hh4).trans rfl
    have f4 : w4.frozen? ⟨p, 1, none⟩ = false := frozen_of_row _ _ _ _ _ hh4
    go_wp2_with fail
    go_ret
    exact ⟨by simp [hm], HL.out _ w4 hq hown4 hout4 hnew4⟩
  · have hD := Lib.hid (del_not hm)
    have HP := Lib.hid (fun (w' : World) (hb : Below w.heap.size w w') => h.on hb)
    clear h ht
    unfold relP at HF ⊢
    go_enter Try.func16, Try.ntmps16
    go_wp2_with fail
    refine HF.out.mono ?_
    rintro e w1 ⟨rfl, hq⟩
    simp only [hm, decide_false]
    go_wp2_with fail
    go_ret
    exact ⟨by simp [hm], by rw [hD.out]; exact HP.out _ hq, Out.of_below hq _⟩
end Go.Proofs.Ytgomfmfaoeojkaa
