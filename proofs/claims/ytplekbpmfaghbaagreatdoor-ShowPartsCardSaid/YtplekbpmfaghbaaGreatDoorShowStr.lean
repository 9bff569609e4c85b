/- strings.Join over a row of the caller's own; a text put behind such a row. -/
import Derived.Test.YtplekbpmfaghbaaGreatDoorShowLaw
import Derived.Test.YtplekbpmfaghbaaGreatDoorLexW
namespace Go.Proofs.YtplekbpmfaghbaaGreatDoor
open Go.RowKit

theorem str_info : (Tryz.prog.info? 9).map (fun i => (i.zero, i.size, i.bytes)) = some (some (.string ⟨#[]⟩), 1, 16) := by kernel_rfl
theorem str_push {w W : World} {v : Value} {n : Nat} {xs : List Value} (x : ByteArray) (hn : n ≤ 1000000) (hb : Below w.heap.size w W) (hown : W.ownsRow w.heap.size 9 1 v n xs) :
    ∃ v' w', (∀ ty, (Builtin.append_ #[81, 81] ty #[v, .slice (some ⟨W.heap.size, 0, none⟩) 1 1]).run Tryz.prog (W.alloc (.cells #[.string x] 9)) = .ok v' w') ∧
      w'.ownsRow w.heap.size 9 1 v' (n + 1) (xs ++ [.string x]) ∧ Below w.heap.size w w' := by
  obtain ⟨v', w', h1, h2, h3⟩ := run_push (P := Tryz.prog) W W.heap.size rfl (base := w.heap.size) (t := 81) (ty := 81) Tryz.underlying81 str_info rfl (by decide) hown [.string x] rfl (by simp [Value.oneCell'])
    (by simp [maxLen]; omega) (by omega) hb.size
  exact ⟨v', w', fun _ => h1, h2, hb.trans h3⟩
theorem ba_app (a b : ByteArray) : (a ++ b).toList = a.toList ++ b.toList := by
  simp only [ByteArray.toList_eq, ByteArray.data_append, Array.toList_append]
theorem bytes_list (l : List UInt8) : (bytes l).toList = l := toList_mk _
theorem bytes_size (l : List UInt8) : (bytes l).size = l.length := rfl
theorem bytes_app (a b : List UInt8) : bytes a ++ bytes b = bytes (a ++ b) := by
  unfold bytes
  rw [ByteArray.mk_append_mk]
theorem bytes_of (s : ByteArray) : bytes s.toList = s := bytes_back s
def JoinPost (l : List UInt8) (w : World) (e : Ending) (w' : World) : Prop := e = .returned (.string (bytes l)) ∧ Below w.heap.size w w'
theorem sjoin_any {base : Nat} (A : Option Addr) (n c : Nat) (L : List (List UInt8)) (w : World) (hn : L.length = n) (hlen : (Lib.join L sep2).length ≤ 140737488355328) (hN : n ≤ 1000000) (ho : w.ownsRow base 9 1 (.slice A n c) n (L.map fun l => .string (bytes l))) :
    Calls Tryz.prog 112 #[.slice A n c, .string ⟨#[44, 32]⟩] w (JoinPost (Lib.join L sep2) w) := by
  subst hn
  have hx : (L.map bytes).map (·.data.toList) = L := by
    rw [List.map_map]
    exact (List.map_congr_left (fun l _ => rfl)).trans (List.map_id L)
  rcases ho.2 with ⟨h, h0⟩ | ⟨g, cap, cur, h, hgb, hh, hnc, hcm, hcs, htk⟩
  · have e : L = [] := List.eq_nil_of_length_eq_zero h0
    subst e
    refine (Tryz.strings_Join_none A c _ w).mono ?_
    rintro e w' ⟨rfl, rfl⟩
    exact ⟨rfl, Below.refl _ _⟩
  · simp only [Value.slice.injEq] at h
    obtain ⟨rfl, _, rfl⟩ := h
    have := Tryz.strings_Join g 0 c (L.map bytes) ⟨#[44, 32]⟩ w (by
      intro j x hj
      rw [Nat.zero_add, cell_of_row _ _ j _ _ _ hh, ← Array.getElem?_toList]
      have hjl2 : j < L.length := by have := (List.getElem?_eq_some_iff.1 hj).1; simpa using this
      have h2 := congrArg (fun l => l[j]?) htk
      simp only [List.getElem?_take, if_pos (show j < L.length * 1 by omega)] at h2
      rw [h2, List.getElem?_map]
      rw [List.getElem?_map] at hj
      obtain ⟨v, hv, rfl⟩ := Option.map_eq_some_iff.1 hj
      rw [hv]; rfl) (Array.getElem?_eq_some_iff.1 hh).1 (by simp; omega) (by simpa using hnc) (by rw [hx]; exact hlen)
    rw [hx] at this
    simp only [List.length_map] at this
    exact this
end Go.Proofs.YtplekbpmfaghbaaGreatDoor
