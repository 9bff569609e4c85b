/- slices.Delete of one element at []api.Tuple, after the shelf's worked text for []int. -/
import Derived.Test.YtgomfmfaoeojkaaInsert
import Derived.Lib.SliceRun
set_option linter.unusedVariables false
namespace Go.Proofs.Ytgomfmfaoeojkaa
open Go.RowKit Go.Lib

def DelPost (n i : Nat) (v : Value) (xs : List Value) (w : World) (e : Ending) (w' : World) : Prop :=
  ∃ A c, e = .returned (.slice A (n - 1) c) ∧ w'.ownsRow 0 24 1 (.slice A (n - 1) c) (n - 1) (xs.take i ++ xs.drop (i + 1)) ∧ Out v.ownBlock.toList w w' ∧ (Value.slice A (n - 1) c).ownBlock = v.ownBlock

set_option maxHeartbeats 4000000 in
set_option maxRecDepth 1000000 in
theorem delete_at (A : Option Addr) (n c i k : Nat) (hk : k = i + 1) (xs : List Value) (w : World) (hn : n ≤ 1000000) (hi : i < n) (hown : w.ownsRow 0 24 1 (.slice A n c) n xs) (h1 : ∀ x ∈ xs, x.oneCell' = true) :
    Calls Try.prog 43 #[.slice A n c, .int .i64 i, .int .i64 k] w (DelPost n i (.slice A n c) xs w) := by
  have hxl : xs.length = n := by have := hown.1; omega
  rcases hown.2 with ⟨hnil, hn0⟩ | ⟨g, cap, cur, hsl, hg0, hh, hnc, hcm, hcs, htk⟩
  · omega
  simp only [Value.slice.injEq] at hsl
  obtain ⟨rfl, _, rfl⟩ := hsl
  rw [Nat.mul_one] at hcs htk
  have hcap : c ≤ 9223372036854775807 := by have := hcm; unfold maxLen at this; omega
  have hcells : ∀ j v, xs[j]? = some v → w.cell? ⟨g, j, none⟩ = some v := by
    intro j v hj
    have hjn : j < n := by have := (List.getElem?_eq_some_iff.1 hj).1; omega
    rw [cell_of_row _ _ j _ _ _ hh, ← Array.getElem?_toList]
    have := congrArg (fun l => l[j]?) htk
    simp only [List.getElem?_take, if_pos hjn] at this
    rw [this]; exact hj
  have hsome : ∀ j, j < c → (w.cell? ⟨g, j, none⟩).isSome = true := by
    intro j hj
    rw [cell_of_row _ _ j _ _ _ hh, Array.getElem?_eq_getElem (by omega)]; rfl
  have hfz : ∀ j, w.frozen? ⟨g, j, none⟩ = false := fun j => frozen_of_row _ _ _ _ _ hh
  obtain ⟨i0, hi0, hz0, hz1, hz2⟩ := info_parts tup_info
  obtain ⟨news, hnews⟩ : ∃ news, news = xs.drop (i + 1) := ⟨_, rfl⟩
  have hlen : news.length = n - (i + 1) := by rw [hnews, List.length_drop, hxl]
  obtain ⟨A, hA, hsrc⟩ : ∃ A : Addr, (if c = i + 1 then some (⟨g, 0, none⟩ : Addr) else some ⟨g, i + 1, none⟩) = some A ∧ Hid (∀ t u, news[t]? = some u → w.drew.cell? (A.add t) = some u) := by
    by_cases h : c = i + 1
    · refine ⟨⟨g, 0, none⟩, by simp [h], fun t u hu => ?_⟩
      have h0 : news.length = 0 := by rw [hlen]; omega
      rw [List.length_eq_zero_iff.1 h0] at hu
      simp at hu
    · refine ⟨⟨g, i + 1, none⟩, by simp [h], fun t u hu => ?_⟩
      rw [Addr.add_lit]
      rw [hnews, List.getElem?_drop] at hu
      exact hcells (i + 1 + t) u hu
  have s1 : Hid (news.length = (n - (i + 1)) * 1) := by rw [Nat.mul_one]; exact hlen
  have s2 : Hid (∀ u ∈ news, u.oneCell' = true) := by
    intro u hu; rw [hnews] at hu; exact h1 u (List.mem_of_mem_drop hu)
  have s3 : Hid (∀ t, t < news.length → (w.drew.cell? ⟨g, 0 + i * 1 + t, none⟩).isSome = true ∧ w.drew.frozen? ⟨g, 0 + i * 1 + t, none⟩ = false) := by
    intro t ht
    rw [hlen] at ht
    exact ⟨hsome _ (by omega), hfz _⟩
  obtain ⟨W1, hW1⟩ : ∃ W1, W1 = w.drew.setCells g (0 + i * 1) news := ⟨_, rfl⟩
  obtain ⟨cur1, hc1, hs1⟩ := setCells_heap (e := 24) g news (0 + i * 1) w.drew cur hh
  have hc1 : W1.heap[g]? = some (.cells cur1 24 (0, 0)) := by rw [hW1]; exact hc1
  have hcl : ∀ ty, (Builtin.clear_ #[22] ty #[.slice (some ⟨g, i + (n - (i + 1)), none⟩) (n - (i + (n - (i + 1)))) (c - (i + (n - (i + 1))))]).run Try.prog W1 = .ok (.tuple #[]) (W1.setCells g (i + (n - (i + 1))) (List.replicate (n - (i + (n - (i + 1)))) (.slice none 0 0))) :=
    fun ty => Lib.run_clear_slice W1 _ _ ty _ Try.underlying22 Try.zeroValue24 rfl rfl g (i + (n - (i + 1))) _ _ (by omega) (fun t ht => by rw [cell_of_row _ _ _ _ _ _ hc1, Array.getElem?_eq_getElem (by omega)]; rfl) (fun t ht => frozen_of_row _ _ _ _ _ hc1)
  have hout : Out [g] w (W1.setCells g (i + (n - (i + 1))) (List.replicate (n - (i + (n - (i + 1)))) (.slice none 0 0))) := by
    rw [hW1]
    exact ((Out.of_below (Below.drew (Below.refl _ _)) [g]).trans (setCells_out g _ _ _) (fun b hb _ => hb)).trans (setCells_out g _ _ _) (fun b hb _ => hb)
  obtain ⟨cur2, hc2, hs2⟩ := setCells_heap (e := 24) g (List.replicate (n - (i + (n - (i + 1)))) (.slice none 0 0)) (i + (n - (i + 1))) W1 cur1 hc1
  have hfin : (W1.setCells g (i + (n - (i + 1))) (List.replicate (n - (i + (n - (i + 1)))) (.slice none 0 0))).ownsRow 0 24 1 (.slice (some ⟨g, 0, none⟩) (n - 1) c) (n - 1) (xs.take i ++ xs.drop (i + 1)) := by
    refine own_of_cells hc2 (Nat.zero_le _) (by omega) hcm (by rw [hs2, hs1]; exact hcs) (by simp; omega) ?_
    intro j v hj
    have hjl : j < n - 1 := by have := (List.getElem?_eq_some_iff.1 hj).1; simp at this; omega
    rw [World.cell?_setCells_out g _ _ _ _ (fun _ _ => by show j < i + (n - (i + 1)) ∨ _; omega), hW1]
    by_cases hji : j < i
    · rw [World.cell?_setCells_out g _ _ _ _ (fun _ _ => by show j < 0 + i * 1 ∨ _; omega)]
      rw [List.getElem?_append_left (by rw [List.length_take]; omega), List.getElem?_take, if_pos hji] at hj
      exact hcells j v hj
    · rw [List.getElem?_append_right (by rw [List.length_take]; omega), List.length_take, Nat.min_eq_left (by omega)] at hj
      have hk : j - i < news.length := by rw [hlen]; omega
      have := World.cell?_setCells_in g news (0 + i * 1) w.drew (fun q hq => hsome _ (by omega)) (j - i) hk
      rw [show 0 + i * 1 + (j - i) = j by omega] at this
      rw [this]
      have e : news[j - i]? = some v := by rw [hnews]; exact hj
      rw [List.getElem?_eq_getElem hk] at e
      exact e
  have hW : Hid (W1 = w.drew.setCells g (0 + i * 1) news) := hW1
  have hic : i ≤ c := by omega
  have hjc : i + 1 ≤ c := by omega
  have HF := Lib.hid (And.intro hfin hout)
  have e3 : i + (n - k) = n - 1 := by omega
  have E3 := Lib.hid e3
  rw [← hk] at s1 hA hcl HF
  have hik : i < k := by omega
  have hkn : k ≤ n := by omega
  have hkc : k ≤ c := by omega
  have hki : ¬ (c = i) := by omega
  have hne : ((i : Int) == (k : Int)) = false := by simp; omega
  have Hk := Lib.hid hk
  clear hk hjc hW1 hc1 hc2 hs1 hs2 hh htk hnews hlen hcells hsome hfz hfin hout hxl hown h1 e3
  go_enter Try.func43, Try.ntmps43
  go_wp2_with fail
  go_region_law (refine step_append_room rfl (.tmp 22) (.tmp 25) 22 rfl 24 i0 1 Try.underlying22 hi0 hz1 g 0 i c (by simp [Act.eval, Act.put]) A (n - k) (c - k) news (by simp [Act.eval, Act.put]) s1.out hsrc.out s2.out (by omega) s3.out ?_; rw [← hW.out])
  go_wp2
  go_ret
  refine ⟨some ⟨g, 0, none⟩, c, ?_, (by have h := HF.out.1; rw [show List.drop k xs = List.drop (i + 1) xs by rw [Hk.out]] at h; exact h), by simpa [Value.ownBlock] using HF.out.2, rfl⟩
  show Ending.returned (.slice (some ⟨g, 0, none⟩) (i + (n - k)) c) = _
  rw [E3.out]
theorem delete_any (A : Option Addr) (n c i : Nat) (xs : List Value) (w : World) (hn : n ≤ 1000000) (hi : i < n) (hown : w.ownsRow 0 24 1 (.slice A n c) n xs) (h1 : ∀ x ∈ xs, x.oneCell' = true) :
    Calls Try.prog 43 #[.slice A n c, .int .i64 i, .int .i64 ((i : Int) + 1)] w (DelPost n i (.slice A n c) xs w) :=
  delete_at A n c i (i + 1) rfl xs w hn hi hown h1
end Go.Proofs.Ytgomfmfaoeojkaa
