/- corollaryref04.All: the document's tokens of any text. -/
import Derived.Test.YtiffmiabhapfnaaGreatDoorLexR2
import Derived.Deep.RegionHeld3
namespace Go.Proofs.YtiffmiabhapfnaaGreatDoor
open Go.RowKit

def RefAllPost (s : ByteArray) (w : World) (e : Ending) (w' : World) : Prop := Below w.heap.size w w' ∧
  ((4000 < s.size ∧ e = .returned (.tuple #[.slice none 0 0, .int .i64 4000, .int .i64 3])) ∨
   (s.size ≤ 4000 ∧ ((∃ p : Nat, (lexS s.toList).2 = some p ∧ e = .returned (.tuple #[.slice none 0 0, .int .i64 p, .int .i64 2])) ∨
    ((lexS s.toList).2 = none ∧ ∃ A c, e = .returned (.tuple #[.slice A (lexS s.toList).1.length c, .int .i64 0, .int .i64 0]) ∧ SliceIs Enc.tok w' w'.heap.size A (lexS s.toList).1.length c (lexS s.toList).1))))
set_option maxRecDepth 100000 in
set_option maxHeartbeats 1000000 in
theorem refAll_any (s : ByteArray) (w : World) : Calls Tryz.prog 49 #[.string s] w (RefAllPost s w) := by
  obtain ⟨P, HP⟩ : ∃ P : Ending → World → Prop, Hid (P = RefAllPost s w) := ⟨_, rfl⟩
  rw [← HP.out]
  by_cases h4 : 4000 < s.size
  · have z0 : (4000 : Int) < (s.size : Int) := by omega
    have HE : Hid (∀ w', Below w.heap.size w w' → P (.returned (.tuple #[.slice none 0 0, .int .i64 4000, .int .i64 3])) w') := fun w' hb => by rw [HP.out]; exact ⟨hb, .inl ⟨h4, rfl⟩⟩
    clear h4 HP
    go_enter Tryz.func49, Tryz.ntmps49
    go_wp2_with fail
    exact bodyPost_ret (v := .tuple #[.slice none 0 0, .int .i64 4000, .int .i64 3]) (by simp [results, Tryz.results49, go_sem]) rfl (HE.out _ (Below.refl _ _))
  have HL := Lib.hid (refList_any s (by omega))
  have z0 : ¬ (4000 : Int) < (s.size : Int) := by omega
  have HE1 : Hid (∀ w' (p : Nat), Below w.heap.size w w' → (lexS s.toList).2 = some p → P (.returned (.tuple #[.slice none 0 0, .int .i64 p, .int .i64 2])) w') := fun w' p hb hp => by rw [HP.out]; exact ⟨hb, .inr ⟨by omega, .inl ⟨p, hp, rfl⟩⟩⟩
  have HE2 : Hid (∀ w' A c, Below w.heap.size w w' → (lexS s.toList).2 = none → SliceIs Enc.tok w' w'.heap.size A (lexS s.toList).1.length c (lexS s.toList).1 → P (.returned (.tuple #[.slice A (lexS s.toList).1.length c, .int .i64 0, .int .i64 0])) w') := fun w' A c hb hp hA => by rw [HP.out]; exact ⟨hb, .inr ⟨by omega, .inr ⟨hp, A, c, rfl, hA⟩⟩⟩
  clear HP
  go_enter Tryz.func49, Tryz.ntmps49
  go_wp2_with fail
  refine (HL.out w).mono ?_
  rintro e w1 ⟨hb, A, c, hA, -, ⟨hn, rfl⟩ | ⟨p, hp, rfl⟩⟩
  · have HA := Lib.hid hA
    have Hn := Lib.hid hn
    clear hA hn
    go_wp2_with fail
    exact bodyPost_ret (v := .tuple #[.slice A (lexS s.toList).1.length c, .int .i64 0, .int .i64 0]) (by simp [results, Tryz.results49, go_sem]) rfl (HE2.out _ A c hb Hn.out HA.out)
  · have Hn := Lib.hid hp
    have p0 : (0 : Int) ≤ (p : Int) := by omega
    clear hA hp
    go_wp2_with fail
    exact bodyPost_ret (v := .tuple #[.slice none 0 0, .int .i64 p, .int .i64 2]) (by simp [results, Tryz.results49, go_sem]) rfl (HE1.out _ p hb Hn.out)

end Go.Proofs.YtiffmiabhapfnaaGreatDoor
