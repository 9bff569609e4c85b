/- value.Mix, Hash and the document's: at every value. -/
import Derived.Test.YtgomfmfaoeojkaaDoorVTexts
import Derived.Laws.BitsAllLaws
import Derived.Laws.IdiomStrings
namespace Go.Proofs.YtgomfmfaoeojkaaDoor
open Go.RowKit

/-- one byte more -/
def stepM (h b : Nat) : Nat := (h ^^^ b) * 16777619 % 4294967296
def mixN (h : Nat) (l : List UInt8) : Nat := l.foldl (fun h b => stepM h b.toNat) h
theorem mixN_snoc (h : Nat) (l : List UInt8) (b : UInt8) : mixN h (l ++ [b]) = stepM (mixN h l) b.toNat := by
  unfold mixN; rw [List.foldl_append, List.foldl_cons, List.foldl_nil]
theorem step_i (a b : Nat) (ha : a < 4294967296) (hb : b < 256) : bits .xor .u32 (a : Int) ((b : Int) % 4294967296) * 16777619 % 4294967296 = ((stepM a b : Nat) : Int) := by
  rw [show ((b : Int) % 4294967296) = ((b : Nat) : Int) by omega, u32_xor_nat a b ha (by omega)]
  simp only [stepM, Int.natCast_emod, Int.natCast_mul, Int.cast_ofNat_Int]
theorem step_lt (a b : Nat) : stepM a b < 4294967296 := Nat.mod_lt _ (by omega)
theorem mixN_lt {h : Nat} (hh : h < 4294967296) (l : List UInt8) : mixN h l < 4294967296 := by
  induction l generalizing h with
  | nil => exact hh
  | cons b l ih => exact ih (step_lt _ _)

theorem textOf_len (v : GV) (hv : v.ok) : (textOf v).length ≤ 140737488351232 := by
  unfold textOf
  have h1 : v.s.size ≤ 140737488351232 := hv.2.2
  have h2 := (fits_iff _).1 hv.2.1
  split
  · split
    · rw [ByteArray.toList_eq]; exact h1
    · have := Lib.itoa_length_le v.n h2.1 h2.2
      omega
  · simp
theorem toList_mk (l : List UInt8) : (⟨l.toArray⟩ : ByteArray).toList = l := by rw [ByteArray.toList_eq]

set_option maxRecDepth 100000 in
set_option maxHeartbeats 1000000 in
theorem refMixG_any (s : ByteArray) (hs : s.size ≤ 140737488355328) (h : Nat) (hh : h < 4294967296) (w : World) :
    Calls Tryd.prog 37 #[.int .u32 h, .string s] w (fun e w' => e = .returned (.int .u32 (mixN h s.toList)) ∧ w' = w) := by
  have hln : s.toList.length = s.size := by rw [ByteArray.toList_eq]; rfl
  go_enter Tryd.func37, Tryd.ntmps37
  go_wp2_with fail
  go_loop [0, 5] (fun x i => ∃ k a : Nat, k ≤ s.size ∧ a < 4294967296 ∧ x = .int .u32 a ∧ i = .int .i64 k ∧ Hid (mixN h (s.toList.take k) = a)) (fun _ i => s.size - (intOf i).toNat)
  case atStart => exact ⟨0, h, by omega, hh, rfl, rfl, rfl⟩
  case round =>
    obtain ⟨k, a, hk, ha, rfl, rfl, hm⟩ := hrel
    by_cases hlt : k < s.size
    · have i0 : (0 : Int) ≤ (k : Int) := by omega
      have i1 : (k : Int) < (s.size : Int) := by omega
      go_wp2_with fail
      refine ⟨⟨k + 1, stepM a (s[k]'hlt).toNat, by omega, step_lt _ _, ?_, by go_num, ?_⟩, by simp [intOf]; omega⟩
      · rw [step_i a _ ha (UInt8.toNat_lt _)]
      · show _ = _
        rw [List.take_add_one, show s.toList[k]? = some (s[k]'hlt) by rw [ByteArray.toList_eq]; simp [ByteArray.getElem_eq_getElem_data]]
        simp only [Option.toList]
        rw [mixN_snoc, hm.out]
    · have i1 : ¬ (k : Int) < (s.size : Int) := by omega
      have he : a = mixN h s.toList := by rw [← hm.out, List.take_of_length_le (by omega)]
      subst he
      clear hm
      go_wp2_with fail
      go_ret
      exact ⟨rfl, rfl⟩
set_option maxRecDepth 100000 in
set_option maxHeartbeats 1000000 in
theorem mixG_any (b n c : Nat) (l : List UInt8) (hn : l.length = n) (hnn : n ≤ 140737488355328) (h : Nat) (hh : h < 4294967296) (w : World) (hl : ∀ j (hj : j < l.length), w.cell? ⟨b, j, none⟩ = some (.int .u8 l[j].toNat)) :
    Calls Tryd.prog 36 #[.int .u32 h, .slice (some ⟨b, 0, none⟩) n c] w (fun e w' => e = .returned (.int .u32 (mixN h l)) ∧ w' = w) := by
  subst hn
  go_enter Tryd.func36, Tryd.ntmps36
  go_wp2_with fail
  go_loop [0, 6, 9] (fun x _ i => ∃ k a : Nat, k ≤ l.length ∧ a < 4294967296 ∧ x = .int .u32 a ∧ i = .int .i64 k ∧ Hid (mixN h (l.take k) = a)) (fun _ _ i => l.length - (intOf i).toNat)
  case atStart => exact ⟨0, h, by omega, hh, rfl, rfl, rfl⟩
  case round =>
    obtain ⟨k, a, hk, ha, rfl, rfl, hm⟩ := hrel
    by_cases hlt : k < l.length
    · have hc := hl k hlt
      have i0 : (0 : Int) ≤ (k : Int) := by omega
      have i1 : (k : Int) < (l.length : Int) := by omega
      clear hl
      go_wp2_with fail
      refine ⟨⟨k + 1, stepM a (l[k]'hlt).toNat, by omega, step_lt _ _, ?_, by go_num, ?_⟩, by simp [intOf]; omega⟩
      · rw [step_i a _ ha (UInt8.toNat_lt _)]
      · show _ = _
        rw [List.take_add_one, List.getElem?_eq_getElem hlt]
        simp only [Option.toList]
        rw [mixN_snoc, hm.out]
    · have i1 : ¬ (k : Int) < (l.length : Int) := by omega
      have he : a = mixN h l := by rw [← hm.out, List.take_of_length_le (by omega)]
      subst he
      clear hm
      go_wp2_with fail
      go_ret
      exact ⟨rfl, rfl⟩

theorem refMix_any (s : ByteArray) (hs : s.size ≤ 140737488351232) (h : Nat) (hh : h < 4294967296) (w : World) :
    Calls Tryd.prog 37 #[.int .u32 h, .string s] w (fun e w' => e = .returned (.int .u32 (mixN h s.toList)) ∧ w' = w) := refMixG_any s (by omega) h hh w
theorem mix_any (b n c : Nat) (l : List UInt8) (hn : l.length = n) (hnn : n ≤ 140737488351232) (h : Nat) (hh : h < 4294967296) (w : World) (hl : ∀ j (hj : j < l.length), w.cell? ⟨b, j, none⟩ = some (.int .u8 l[j].toNat)) :
    Calls Tryd.prog 36 #[.int .u32 h, .slice (some ⟨b, 0, none⟩) n c] w (fun e w' => e = .returned (.int .u32 (mixN h l)) ∧ w' = w) := mixG_any b n c l hn (by omega) h hh w hl
end Go.Proofs.YtgomfmfaoeojkaaDoor
