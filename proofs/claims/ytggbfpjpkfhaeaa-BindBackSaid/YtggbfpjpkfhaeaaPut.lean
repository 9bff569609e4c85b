/- term.put: the variables of terms, each once. -/
import Derived.Test.YtggbfpjpkfhaeaaHas
namespace Go.Proofs.Ytggbfpjpkfhaeaa
open Go.RowKit

def put1 (acc : List ByteArray) (t : GTold) : List ByteArray := if t.x.toList.isEmpty || decide (t.x ∈ acc) then acc else acc ++ [t.x]
def putL (acc : List ByteArray) (l : List GTold) : List ByteArray := l.foldl put1 acc
theorem putL_take {l : List GTold} {k : Nat} {t : GTold} {acc : List ByteArray} (hx : l[k]? = some t) : putL acc (l.take (k + 1)) = put1 (putL acc (l.take k)) t := by
  rw [List.take_add_one, hx]; simp [putL, List.foldl_append]
theorem putL_mem {l : List GTold} {s : ByteArray} (h : s ∈ putL [] l) : ∃ t ∈ l, t.x = s := by
  have : ∀ (l : List GTold) (acc : List ByteArray), s ∈ putL acc l → s ∈ acc ∨ ∃ t ∈ l, t.x = s := by
    intro l
    induction l with
    | nil => intro acc h; exact .inl h
    | cons t l ih =>
      intro acc h
      rcases ih (put1 acc t) h with h | ⟨u, hu, e⟩
      · unfold put1 at h
        split at h
        · exact .inl h
        · rcases List.mem_append.1 h with h | h
          · exact .inl h
          · simp at h; exact .inr ⟨t, List.mem_cons_self, h.symm⟩
      · exact .inr ⟨u, List.mem_cons_of_mem _ hu, e⟩
  rcases this l [] h with h | h
  · cases h
  · exact h
theorem putL_len (l : List GTold) (k : Nat) : (putL [] (l.take k)).length ≤ k := by
  induction k with
  | zero => simp [putL]
  | succ k ih =>
    cases hx : l[k]? with
    | none => rw [List.take_add_one, hx]; simp only [Option.toList_none, List.append_nil]; omega
    | some t =>
      rw [putL_take hx]
      unfold put1
      split
      · omega
      · simp only [List.length_append, List.length_cons, List.length_nil]; omega
def strC (s : ByteArray) : List Value := [.string s]
theorem str_info : (Try.prog.info? 9).map (fun i => (i.zero, i.size, i.bytes)) = some (some (.string ⟨#[]⟩), 1, 16) := by kernel_rfl
def TextsPost (L : List ByteArray) (w : World) (e : Ending) (w' : World) : Prop := ∃ A m c, e = .returned (.slice A m c) ∧ SliceIs Enc.str w' w'.heap.size A m c L ∧ w'.ownsRow w.heap.size 9 1 (.slice A m c) m (L.flatMap strC) ∧ Below w.heap.size w w'

set_option maxRecDepth 100000 in
set_option maxHeartbeats 1000000 in
theorem put_any (A : Option Addr) (n c : Nat) (l : List GTold) (w : World) (hn2 : n ≤ 1000) (hl : SliceIs Enc.told w w.heap.size A n c l) :
    Calls Try.prog 50 #[.slice none 0 0, .slice A n c] w (TextsPost (putL [] l) w) := by
  have hn := hl.bound
  have hlen := Lib.hid hl.1
  have Htold := Lib.hid (fun t h => told_ok hl t h)
  go_enter Try.func50, Try.ntmps50
  go_wp2
  go_loopw [0, 6, 9] (fun v _ i wr => ∃ (k m c' : Nat) (A' : Option Addr) (L : List ByteArray), k ≤ n ∧ i = .int .i64 k ∧ v = .slice A' m c' ∧ Hid (putL [] (l.take k) = L) ∧ m ≤ k ∧ SliceIs Enc.str wr wr.heap.size A' m c' L ∧ wr.ownsRow w.heap.size 9 1 (.slice A' m c') m (L.flatMap strC) ∧ Below w.heap.size w wr) (fun _ _ i _ => n - (intOf i).toNat)
  case atStart => exact ⟨0, 0, 0, none, [], by omega, rfl, rfl, rfl, by omega, SliceIs.nil, World.ownsRow_nil _ _ _ _, Below.refl _ _⟩
  case round =>
    obtain ⟨k, m, c', A', L, hk, rfl, rfl, hL, hmk, hs, hown, hbr⟩ := hrel
    by_cases hlt : k < n
    · obtain ⟨b, o, x, rfl, _, hx, x1, x2, x3, x4, hxs, _⟩ := (hl.below hbr).told_at hlt
      clear hl
      have hbx := belowA hbr (.cells #[.string x.x, .int .i64 x.v.k, .int .i64 x.v.n, .string x.v.s] 78)
      have hC := Lib.hid (contains_any A' m c' L x.x (wr.alloc (.cells #[.string x.x, .int .i64 x.v.k, .int .i64 x.v.n, .string x.v.s] 78)) (hs.keep (belowA (Below.refl _ _) _)))
      have HE : Hid (putL [] (l.take (k + 1)) = put1 L x) := by
        show putL [] (l.take (k + 1)) = put1 L x
        rw [putL_take hx.out, hL.out]
      cases he : x.x.toList.isEmpty with
      | true =>
        have HT : Hid (putL [] (l.take (k + 1)) = L) := by rw [HE.out]; simp [put1, he, Hid]
        have he' : (!x.x.toList.isEmpty) = false := by simp [he]
        go_wp2_with fail
        go_roundw
        case rel => exact ⟨k + 1, m, c', A', L, by omega, by go_num, rfl, HT, by omega, hs.keep (belowA (Below.refl _ _) _), hown.alloc _, hbx⟩
        case measure => simp [intOf]; omega
      | false =>
        have he' : (!x.x.toList.isEmpty) = true := by simp [he]
        cases hm : decide (x.x ∈ L) with
        | true =>
          have HT : Hid (putL [] (l.take (k + 1)) = L) := by rw [HE.out]; simp only [put1, he, hm, Bool.false_or, if_true]; exact trivial
          have hC := hC.out
          rw [hm] at hC
          have hC := Lib.hid hC
          clear hm
          go_wp2_with fail
          refine hC.out.mono ?_
          rintro e w1 ⟨rfl, hb1⟩
          go_wp2_with fail
          go_roundw
          case rel => exact ⟨k + 1, m, c', A', L, by omega, by go_num, rfl, HT, by omega, (hs.keep (belowA (Below.refl _ _) _)).keep hb1, own_below (hown.alloc _) hb1, below_next hbx hb1⟩
          case measure => simp [intOf]; omega
        | false =>
          have HT : Hid (putL [] (l.take (k + 1)) = L ++ [x.x]) := by rw [HE.out]; simp only [put1, he, hm, Bool.false_or, Bool.false_eq_true, if_false]; exact trivial
          have HLs : Hid (∀ s ∈ L, s.size ≤ reachN) := fun s h => by
            rw [← hL.out] at h
            obtain ⟨t, ht, e⟩ := putL_mem h
            exact e ▸ (Htold.out t (List.mem_of_mem_take ht)).1
          have Hlm := Lib.hid hs.1
          have Hxs := Lib.hid hxs
          have hC := hC.out
          rw [hm] at hC
          have hC := Lib.hid hC
          clear hm
          go_wp2_with fail
          refine hC.out.mono ?_
          rintro e w1 ⟨rfl, hb1⟩
          obtain ⟨hc, hf⟩ := bcell hb1
          have hz := hb1.size
          have Hb1 := Lib.hid hb1
          simp only [World.size_alloc, Nat.add_one_le_iff] at hz hc hf
          obtain ⟨v2, w3, hrun, hown2, hb3⟩ := run_push (P := Try.prog) w1 w1.heap.size rfl (ty := 22) Try.underlying22 str_info rfl (by omega) (own_below (hown.alloc _) hb1)
            (strC x.x) rfl (by intro u hu; simp [strC] at hu; subst hu; rfl) (by simp [maxLen]; omega) (by omega) (by have := hbr.size; omega)
          obtain ⟨A2, c2, rfl⟩ := own_form hown2
          have HRun := Lib.hid hrun
          clear hrun
          go_wp2_with (at_builtin; refine wpList_append_run rfl _ _ _ rfl _ _ rfl rfl HRun ?_)
          go_roundw
          case rel => exact ⟨k + 1, m + 1, c2, A2, L ++ [x.x], by omega, by go_num, rfl, HT, by omega,
            SliceIs.of_flat (E := Enc.str) strC (fun _ => rfl) (by simpa [strC, Enc.str] using hown2) (by have := Hlm.out; simp; omega) (by simp [reachN]; omega) (fun y hy => ⟨rfl, by
              rcases List.mem_append.1 hy with h | h
              · exact HLs.out y h
              · simp at h; rw [h]; exact Hxs.out⟩), by simpa [strC] using hown2, (below_next hbx Hb1.out).trans hb3⟩
          case measure => simp [intOf]; omega
    · have hkn : k = n := by omega
      subst hkn
      go_wp2
      go_ret
      have e : putL [] l = L := by rw [← hL.out, List.take_of_length_le (by have := hlen.out; omega)]
      exact ⟨A', m, c', rfl, by rw [e]; exact hs, by rw [e]; exact hown, hbr⟩
end Go.Proofs.Ytggbfpjpkfhaeaa
