/- Tuples: Kinds, Join (Grow, Concat at values), Shard, and the document's Shard. -/
import Derived.Test.YtgomfmfaoeojkaaDoorTupT
import Derived.Lib.AppendZerosOnto
import Derived.Lib.Walk
namespace Go.Proofs.YtgomfmfaoeojkaaDoor
open Go.RowKit

/-! ### kinds -/
theorem kind_info : (Tryd.prog.info? 28).map (fun i => (i.zero, i.size, i.bytes)) = some (some (.int .i64 0), 1, 8) := by kernel_rfl
theorem kind_push {w W : World} {v : Value} {n : Nat} {xs : List Value} (x : Int) (hn : n ≤ 1000000) (hb : Below w.heap.size w W) (hown : W.ownsRow w.heap.size 28 1 v n xs) :
    ∃ v' w', (∀ ty, (Builtin.append_ #[26, 26] ty #[v, .slice (some ⟨W.heap.size, 0, none⟩) 1 1]).run Tryd.prog (W.alloc (.cells #[.int .i64 x] 28)) = .ok v' w') ∧
      w'.ownsRow w.heap.size 28 1 v' (n + 1) (xs ++ [.int .i64 x]) ∧ Below w.heap.size w w' := by
  obtain ⟨v', w', h1, h2, h3⟩ := run_push (P := Tryd.prog) W W.heap.size rfl (base := w.heap.size) (t := 26) (ty := 26) Tryd.underlying26 kind_info rfl (by decide) hown [.int .i64 x] rfl (by simp [Value.oneCell'])
    (by simp [maxLen]; omega) (by omega) hb.size
  exact ⟨v', w', fun _ => h1, h2, hb.trans h3⟩
def KindsPost (t : List GV) (w : World) (e : Ending) (w' : World) : Prop := ∃ A c, e = .returned (.slice A t.length c) ∧ SliceIs Enc.int w' w'.heap.size A t.length c (t.map GV.k) ∧ Below w.heap.size w w'

set_option maxRecDepth 100000 in
set_option maxHeartbeats 2000000 in
theorem kinds_any (A : Option Addr) (n c : Nat) (t : List GV) (w : World) (ht : SliceIs Enc.val w w.heap.size A n c t) (hn6 : n ≤ 1000) : Calls Tryd.prog 10 #[.slice A n c] w (KindsPost t w) := by
  have hlen := Lib.hid ht.1
  have HT := Lib.hid ht
  have Hok := Lib.hid (vals_ok ht)
  obtain ⟨w1, hmk, hown, hb1⟩ := run_mk (P := Tryd.prog) w (base := w.heap.size) Tryd.underlying26 kind_info n (by omega) (by simp [maxLen]; omega) (Nat.le_refl _)
  have HO := Lib.hid hown
  clear ht hown
  go_enter Tryd.func10, Tryd.ntmps10
  go_wp2_with fail
  go_loopw [3, 5, 11] (fun v _ i wr => ∃ k A' c', k ≤ n ∧ v = .slice A' k c' ∧ i = .int .i64 k ∧ Hid (wr.ownsRow w.heap.size 28 1 (.slice A' k c') k ((t.take k).map fun x => .int .i64 x.k)) ∧ Below w.heap.size w wr) (fun _ _ i _ => n - (intOf i).toNat)
  case atStart => exact ⟨0, _, _, by omega, rfl, rfl, HO.out, hb1⟩
  case round =>
    obtain ⟨k, A', c', hk, rfl, rfl, how, hbr⟩ := hrel
    have i0 : (0 : Int) ≤ (k : Int) := by omega
    by_cases hlt : k < n
    · have i1 : (k : Int) < (n : Int) := by omega
      obtain ⟨b, o, x, rfl, _, hx, x1, x2, x3, hxo⟩ := (HT.out.below hbr).val_at hlt
      have HS : Hid ((t.take (k + 1)).map (fun x => Value.int .i64 x.k) = (t.take k).map (fun x => .int .i64 x.k) ++ [.int .i64 x.k]) := by
        show _ = _
        rw [List.take_add_one, hx.out]; simp
      have hbw := belowA hbr (.cells #[.int .i64 x.k, .int .i64 x.n, .string x.s] 30)
      obtain ⟨v', w', hrun, hown', hb'⟩ := kind_push x.k (by omega) hbw (how.out.alloc _)
      obtain ⟨A2, c2, rfl⟩ := own_form hown'
      rw [← HS.out] at hown'
      rw [World.size_alloc] at hrun
      have HRun := Lib.hid hrun
      have HO2 := Lib.hid hown'
      clear hrun hown' hx how hmk hxo
      go_wp2_with (at_builtin; refine wpList_append_run rfl _ _ _ rfl _ _ rfl rfl (HRun.out _) ?_)
      go_roundw
      case rel => exact ⟨k + 1, A2, c2, by omega, rfl, by go_num, HO2.out, hb'⟩
      case measure => simp [intOf]; omega
    · have i1 : ¬ (k : Int) < (n : Int) := by omega
      obtain rfl : k = n := by omega
      have hS : SliceIs Enc.int wr wr.heap.size A' k c' (t.map GV.k) := by
        have h1 := how.out
        rw [List.take_of_length_le (by have := hlen.out; omega)] at h1
        refine SliceIs.of_flat (E := Enc.int) (fun n => [.int .i64 n]) (fun _ => rfl) (base := w.heap.size) (e := 28) ?_ (by rw [List.length_map]; exact hlen.out) (by simp [reachN]; omega) (fun x hx => ⟨rfl, ?_⟩)
        · rw [List.flatMap_map]
          have : (t.flatMap fun a => [Value.int IntKind.i64 a.k]) = t.map fun x => Value.int .i64 x.k := by
            rw [← List.flatMap_singleton' (t.map _), List.flatMap_map]
          rw [this]; exact h1
        · obtain ⟨v, hv, rfl⟩ := List.mem_map.1 hx
          exact (Hok.out v hv).1
      have HSl := Lib.hid hS
      clear hS how hmk
      go_wp2_with fail
      go_ret
      have e := hlen.out
      subst e
      exact ⟨A', c', rfl, HSl.out, hbr⟩

/-! ### one behind the other -/
def GrowPost (w : World) (e : Ending) (w' : World) : Prop := ∃ A c, e = .returned (.slice A 0 c) ∧ w'.ownsRow w.heap.size 30 3 (.slice A 0 c) 0 [] ∧ Below w.heap.size w w'

set_option maxRecDepth 100000 in
set_option maxHeartbeats 2000000 in
theorem grow_any (n : Nat) (w : World) (hn : n ≤ 1000) : Calls Tryd.prog 56 #[.slice none 0 0, .int .i64 n] w (GrowPost w) := by
  have h1 : ¬ ((n : Int) < 0) := by omega
  by_cases h0 : n = 0
  · subst h0
    go_enter Tryd.func56, Tryd.ntmps56
    go_wp2
    go_ret
    exact ⟨none, 0, rfl, World.ownsRow_nil _ _ _ _, Below.refl _ _⟩
  · have h4 : (0 : Int) < (n : Int) := by omega
    obtain ⟨i0, hi0, hz0, hs0, hb0⟩ := info_parts val_info
    have hold : (Builtin.firstCells i0.size 0 (.slice none 0 0)).run Tryd.prog w.drew = .ok (List.toArray []) w.drew := Go.run_firstCells_none w.drew i0.size 0 0 0
    have hgn : n ≤ grownCap w n 0 30 := grownCap_ge w _ _ _
    have hgm : grownCap w n 0 30 ≤ maxLen := grownCap_le_maxLen w n 0 30 (by simp [maxLen]; omega)
    obtain ⟨cap, cur, h5, h6, h7, hrz⟩ : ∃ cap cur, n ≤ cap ∧ cap ≤ maxLen ∧ cur.size = cap * 3 ∧ ∀ ty, (Builtin.append_ #[23, 3] ty #[.slice none 0 0, .int .i64 n]).run Tryd.prog w = .ok (.slice (some ⟨w.heap.size, 0, none⟩) n cap) (w.drew.alloc (.cells cur 30)) := by
      have h := fun ty => Lib.run_append_grow_zeros w 23 3 ty 30 i0 _ .i64 .i64 Tryd.underlying23 Tryd.underlying3 hi0 hz0 none 0 0 [] hold n (by omega) (by omega) (by omega) (by omega)
          (by rw [hb0]; omega) (by rw [Nat.zero_add]; exact growslice_fits (by omega) (by rw [hb0]; omega))
      simp only [Nat.zero_add] at h
      refine ⟨_, _, hgn, hgm, ?_, h⟩
      simp only [Array.size_append, size_zeroCells, List.size_toArray, List.length_nil, Value.cells]
      simp only [List.length_cons, List.length_nil]
      omega
    have HRz := Lib.hid hrz
    clear hrz hold hgn hgm
    have c1 : (0 : Int) ≤ (cap : Int) := by omega
    go_enter Tryd.func56, Tryd.ntmps56
    go_wp2_with (at_builtin; refine Lib.wpList_append_run _ rfl _ _ _ _ rfl _ _ rfl rfl _ _ (HRz.out _) ?_)
    go_ret
    exact ⟨some ⟨w.heap.size, 0, none⟩, cap, rfl, ⟨by simp, .inr ⟨w.heap.size, cap, cur, rfl, Nat.le_refl _, (Go.heap_alloc_new w _ : (w.alloc _).heap[w.heap.size]? = some _), Nat.zero_le _, h6, h7, by simp⟩⟩, (belowA (Below.refl _ _) _).drew⟩

def sumLen (ls : List (List GV)) : Nat := (ls.map List.length).sum
theorem sumLen_take {ls : List (List GV)} {k : Nat} {l : List GV} (hx : ls[k]? = some l) : sumLen (ls.take (k + 1)) = sumLen (ls.take k) + l.length := by
  rw [List.take_add_one, hx]; simp [sumLen]
theorem sumLen_le (ls : List (List GV)) (k : Nat) : sumLen (ls.take k) ≤ sumLen ls := by
  have : sumLen ls = sumLen (ls.take k) + sumLen (ls.drop k) := by
    have h := congrArg sumLen (List.take_append_drop k ls)
    simp only [sumLen, List.map_append, List.sum_append] at h ⊢
    exact h.symm
  omega
theorem flat_take {ls : List (List GV)} {k : Nat} {l : List GV} (hx : ls[k]? = some l) : (ls.take (k + 1)).flatten = (ls.take k).flatten ++ l := by
  rw [List.take_add_one, hx]; simp
theorem flat_sum (ls : List (List GV)) : ls.flatten.length = sumLen ls := by simp [sumLen, List.length_flatten]

set_option maxRecDepth 100000 in
set_option maxHeartbeats 2000000 in
theorem concat_any (A : Option Addr) (n c : Nat) (ls : List (List GV)) (w : World) (hl : SliceIs (Enc.slice Enc.val) w w.heap.size A n c ls) (hsum : sumLen ls ≤ 1000) :
    Calls Tryd.prog 42 #[.slice A n c] w (fun e w' => ∃ A m c, e = .returned (.slice A m c) ∧ SliceIs Enc.val w' w'.heap.size A m c ls.flatten ∧ Below w.heap.size w w') := by
  have hn := hl.bound
  have hlen := Lib.hid hl.1
  have HL := Lib.hid hl
  have Hok : Hid (∀ x ∈ ls.flatten, x.ok) := by
    intro x hx
    obtain ⟨l, hl1, hx⟩ := List.mem_flatten.1 hx
    obtain ⟨i, hi, rfl⟩ := List.mem_iff_getElem.1 hl1
    obtain ⟨b, o, l', A2, m, c2, _, _, hx', _, hs⟩ := hl.slice_at (i := i) (by rw [← hl.1]; exact hi)
    have e : ls[i] = l' := by have := hx'.out; rw [List.getElem?_eq_getElem hi] at this; simpa using this
    exact vals_ok hs x (e ▸ hx)
  go_enter Tryd.func42, Tryd.ntmps42
  go_wp2_with fail
  go_loop [3, 5, 11] (fun t _ i => ∃ k : Nat, k ≤ n ∧ i = .int .i64 k ∧ t = .int .i64 (sumLen (ls.take k) : Nat)) (fun _ _ i => n - (intOf i).toNat)
  case atStart => exact ⟨0, by omega, rfl, by simp [sumLen]⟩
  case round =>
    obtain ⟨k, hk, rfl, rfl⟩ := hrel
    have hsk := sumLen_le ls k
    by_cases hlt : k < n
    · obtain ⟨b, o, l, A2, m, c2, rfl, hb, hx, hc, hs⟩ := hl.slice_at hlt
      have hml := hs.1
      have hsk1 := sumLen_le ls (k + 1)
      rw [sumLen_take hx.out] at hsk1
      have HT := Lib.hid (sumLen_take hx.out)
      have i1 : (k : Int) < (n : Int) := by omega
      clear hl
      go_wp2_with fail
      go_round
      case rel => exact ⟨k + 1, by omega, by go_num, by rw [HT.out, hml]; go_num⟩
      case measure => simp [intOf]; omega
    · have hkn : k = n := by omega
      subst hkn
      have Htot : Hid (sumLen (ls.take k) = sumLen ls) := by
        show _ = _
        rw [List.take_of_length_le (by have := hlen.out; omega)]
      go_wp2_with fail
      refine (grow_any _ w (by omega)).mono ?_
      rintro e w1 ⟨A1, c1, rfl, hown, hb1⟩
      clear hsk
      go_wp2_with fail
      go_loopw [6, 8, 27] (fun v _ i wr => ∃ (j m : Nat), j ≤ k ∧ i = .int .i64 j ∧ m = sumLen (ls.take j) ∧ wr.ownsRow w.heap.size 30 3 v m ((ls.take j).flatten.flatMap GV.cells) ∧ Below w.heap.size w wr) (fun _ _ i _ => k - (intOf i).toNat)
      case atStart => exact ⟨0, 0, by omega, rfl, by simp [sumLen], by simpa using hown, hb1⟩
      case round =>
        obtain ⟨j, m, hj, rfl, hm, hown, hbr⟩ := hrel
        by_cases hlt2 : j < k
        · obtain ⟨b, o, l, A2, m2, c2, rfl, hb, hx, hc, hs⟩ := (HL.out.below hbr).slice_at hlt2
          have hsk1 := sumLen_le ls (j + 1)
          rw [sumLen_take hx.out] at hsk1
          have hm2 := hs.1
          have HT := Lib.hid (sumLen_take hx.out)
          have HF := Lib.hid (flat_take hx.out)
          have i1 : (j : Int) < (k : Int) := by omega
          obtain ⟨v2, w3, hrun, hown2, _, hb3⟩ := run_append_slice (P := Tryd.prog) (E := Enc.val) GV.cells (fun _ => rfl) (fun h => h.1) (by intro x u hu; simp [GV.cells] at hu; rcases hu with rfl | rfl | rfl <;> rfl) wr (ty := 23) Tryd.underlying23 val_info rfl (by decide) hown hs
            (by simp [maxLen]; omega) (by omega) (by have := hbr.size; omega)
          obtain ⟨A3, c3, rfl⟩ := own_form hown2
          have HRun := Lib.hid hrun
          have Hm := Lib.hid hm
          clear hrun hm hsk1
          go_wp2_with (at_builtin; refine wpList_append_run rfl _ _ _ rfl _ _ rfl rfl HRun ?_)
          go_roundw
          case rel => exact ⟨j + 1, m + m2, by omega, by go_num, by rw [HT.out, Hm.out, hm2], by rw [HF.out, List.flatMap_append]; exact hown2, hbr.trans hb3⟩
          case measure => simp [intOf]; omega
        · have hjk : j = k := by omega
          subst hjk
          have Hown := Lib.hid hown
          obtain ⟨A3, c3, rfl⟩ := own_form hown
          have Hm := Lib.hid hm
          clear hown hm
          go_wp2_with fail
          go_ret
          have et : ls.take j = ls := List.take_of_length_le (by have := hlen.out; omega)
          have hown := Hown.out
          have hm := Hm.out
          rw [et] at hown hm
          exact ⟨A3, m, c3, rfl, SliceIs.of_flat (E := Enc.val) GV.cells (fun _ => rfl) hown (by rw [flat_sum, hm]) (by simp [reachN]; omega) (fun x hx => ⟨rfl, Hok.out x hx⟩), hbr⟩

def JoinVPost (a b : List GV) (w : World) (e : Ending) (w' : World) : Prop := ∃ A c, e = .returned (.tuple #[.slice A (a ++ b).length c, .nilIface]) ∧ SliceIs Enc.val w' w'.heap.size A (a ++ b).length c (a ++ b) ∧ Below w.heap.size w w'
def JoinNo (w : World) (e : Ending) (w' : World) : Prop := e = .returned (.tuple #[.slice none 0 0, .iface 43 (.int .i64 6)]) ∧ w' = w
set_option maxRecDepth 100000 in
theorem tjoin_no (A B : Option Addr) (n c m d : Nat) (a b : List GV) (w : World) (ha : SliceIs Enc.val w w.heap.size A n c a) (hb : SliceIs Enc.val w w.heap.size B m d b) (h : 6 < n + m) :
    Calls Tryd.prog 21 #[.slice A n c, .slice B m d] w (JoinNo w) := by
  have hn := ha.bound
  have hm := hb.bound
  have i6 : (6 : Int) < (n : Int) + (m : Int) := by omega
  clear ha hb
  go_enter Tryd.func21, Tryd.ntmps21
  go_wp2_with fail
  go_ret2
  exact ⟨rfl, rfl⟩

theorem two_tuples {w : World} {A B : Option Addr} {n c m d : Nat} {a b : List GV} (ha : SliceIs Enc.val w w.heap.size A n c a) (hb : SliceIs Enc.val w w.heap.size B m d b) :
    SliceIs (Enc.slice Enc.val) (w.alloc (.cells #[.slice A n c, .slice B m d] 23)) (w.alloc (.cells #[.slice A n c, .slice B m d] 23)).heap.size (some ⟨w.heap.size, 0, none⟩) 2 2 [a, b] := by
  have hbe : Below w.heap.size w (w.alloc (.cells #[.slice A n c, .slice B m d] 23)) := belowA (Below.refl _ _) _
  refine ⟨rfl, by omega, by simp [maxLen], by simp [reachN], .inr ⟨w.heap.size, 0, rfl, by simp, ?_⟩⟩
  have hrow := Go.heap_alloc_new w (.cells #[.slice A n c, .slice B m d] 23)
  intro i x hx
  match i, hx with
  | 0, hx =>
    simp at hx; subst hx
    refine ⟨[.slice A n c], ⟨A, n, c, rfl, (ha.below hbe).mono (by simp) (fun _ _ => rfl)⟩, ?_⟩
    intro j v hv
    match j, hv with
    | 0, hv => simp at hv; subst hv; exact (cell_of_row _ _ 0 _ _ _ hrow).trans rfl
  | 1, hx =>
    simp at hx; subst hx
    refine ⟨[.slice B m d], ⟨B, m, d, rfl, (hb.below hbe).mono (by simp) (fun _ _ => rfl)⟩, ?_⟩
    intro j v hv
    match j, hv with
    | 0, hv => simp at hv; subst hv; exact (cell_of_row _ _ 1 _ _ _ hrow).trans rfl
  | i + 2, hx => simp at hx

set_option maxRecDepth 100000 in
set_option maxHeartbeats 1000000 in
theorem tjoin_any (A B : Option Addr) (n c m d : Nat) (a b : List GV) (w : World) (ha : SliceIs Enc.val w w.heap.size A n c a) (hb : SliceIs Enc.val w w.heap.size B m d b) (h : ¬ 6 < n + m) :
    Calls Tryd.prog 21 #[.slice A n c, .slice B m d] w (JoinVPost a b w) := by
  have hn := ha.bound
  have hm := hb.bound
  have i6 : ¬ (6 : Int) < (n : Int) + (m : Int) := by omega
  have hc := concat_any (some ⟨w.heap.size, 0, none⟩) 2 2 [a, b] _ (two_tuples ha hb) (by have := ha.1; have := hb.1; simp [sumLen]; omega)
  have HC := Lib.hid hc
  clear ha hb hc
  go_enter Tryd.func21, Tryd.ntmps21
  go_wp2_with fail
  refine HC.out.mono ?_
  rintro e w1 ⟨A', q, c', rfl, hs, hb1⟩
  have HS := Lib.hid hs
  clear hs
  go_wp2_with fail
  go_ret2
  have hs := HS.out
  have e : [a, b].flatten = a ++ b := by simp
  rw [e] at hs
  obtain rfl : (a ++ b).length = q := hs.1
  exact ⟨A', c', rfl, hs, below_next (belowA (Below.refl _ _) _) hb1⟩

/-! ### whose a tuple is -/
def shardE (n : Nat) (wk : Int) (cs : List Int) : Int := if wk < 1 ∨ 16 < wk then 1 else pickE n cs
def shardV (t : List GV) (wk : Int) (cs : List Int) : Int := if shardE t.length wk cs = 0 then (hashT (pickL t cs) : Int) % wk else 0
theorem pickE_cases (n : Nat) (cs : List Int) : pickE n cs = 0 ∨ pickE n cs = 1 ∨ pickE n cs = 6 := by
  unfold pickE; split
  · split
    · exact .inr (.inr rfl)
    · exact .inl rfl
  · exact .inr (.inl rfl)
theorem pickL_le (t : List GV) (cs : List Int) : (pickL t cs).length ≤ 6 := by
  unfold pickL
  split
  · rename_i h
    unfold pickE at h
    split at h
    · split at h
      · cases h
      · rw [pickV, List.length_map]; omega
    · cases h
  · simp

set_option maxRecDepth 100000 in
set_option maxHeartbeats 2000000 in
theorem shard_any (A B : Option Addr) (n c m d : Nat) (t : List GV) (cs : List Int) (wk : Int) (w : World) (h : TabW w) (ht : SliceIs Enc.val w w.heap.size A n c t) (hc : SliceIs Enc.int w w.heap.size B m d cs) :
    Calls Tryd.prog 25 #[.slice A n c, .int .i64 wk, .slice B m d] w (RetV (.tuple #[.int .i64 (shardV t wk cs), errV 43 (shardE t.length wk cs)]) w) := by
  have HW := Lib.hid h
  have hp := pick_any A B n c m d t cs w ht hc
  have hok := pickV_ok (vals_ok ht) cs
  have hple := pickL_le t cs
  have hpok : ∀ x ∈ pickL t cs, x.ok := by
    intro x hx; unfold pickL at hx; split at hx
    · exact hok x hx
    · cases hx
  have Hpok := Lib.hid hpok
  clear h ht hc hok hpok
  have hsv : Hid (shardV t wk cs = if shardE t.length wk cs = 0 then (hashT (pickL t cs) : Int) % wk else 0) := rfl
  have hse : Hid (shardE t.length wk cs = if wk < 1 ∨ 16 < wk then 1 else pickE t.length cs) := rfl
  have hpe := Lib.hid (pickE_cases t.length cs)
  generalize shardV t wk cs = sv at hsv ⊢
  generalize shardE t.length wk cs = se at hsv hse ⊢
  generalize pickE t.length cs = pe at hp hse hpe
  generalize pickL t cs = pl at hp hsv hple Hpok
  by_cases h1 : wk < 1
  · obtain rfl : se = 1 := by rw [hse.out, if_pos (.inl h1)]
    obtain rfl : sv = 0 := by rw [hsv.out]; simp
    clear hse hsv hpe hp
    go_enter Tryd.func25, Tryd.ntmps25
    go_wp2_with fail
    go_ret2
    exact ⟨rfl, Below.refl _ _⟩
  · by_cases h16 : 16 < wk
    · obtain rfl : se = 1 := by rw [hse.out, if_pos (.inr h16)]
      obtain rfl : sv = 0 := by rw [hsv.out]; simp
      clear hse hsv hpe hp
      go_enter Tryd.func25, Tryd.ntmps25
      go_wp2_with fail
      go_ret2
      exact ⟨rfl, Below.refl _ _⟩
    · have e1 : se = pe := by rw [hse.out, if_neg (by omega)]
      subst e1
      clear hse
      have Hp := Lib.hid hp
      clear hp
      rcases hpe.out with e0 | e0 | e0
      · subst e0
        have e2 : sv = (hashT pl : Int) % wk := by rw [hsv.out, if_pos rfl]
        obtain ⟨k, rfl⟩ : ∃ k : Nat, wk = (k : Int) := ⟨wk.toNat, by omega⟩
        have hk1 : 1 ≤ k := by omega
        have hk2 : k ≤ 16 := by omega
        have hhl := hashT_lt pl
        have hh : Hid (∀ W, TabW W → ∀ A c, SliceIs Enc.val W W.heap.size A pl.length c pl → Calls Tryd.prog 15 #[.slice A pl.length c] W (RetV (.int .u32 (hashT pl)) W)) := fun W hW A c hs => tHash_any A pl.length c pl W hs hW
        generalize hashT pl = hv at e2 hhl hh
        have E2 := Lib.hid e2
        clear e2 hsv hpe
        go_enter Tryd.func25, Tryd.ntmps25
        go_wp2_with fail
        refine Hp.out.mono ?_
        rintro e w1 ⟨A', c', rfl, hown, hb1⟩
        have hsl := hown.is rfl (by simp [reachN]; omega) Hpok.out
        have HSL := Lib.hid hsl
        clear hown hsl
        simp only [errV, if_true]
        go_wp2_with fail
        refine (hh.out _ (HW.out.on hb1) _ _ HSL.out).mono ?_
        rintro e w2 ⟨rfl, hq2⟩
        have hbw := below_next hb1 hq2
        clear hq2
        go_wp2_with fail
        go_ret2
        refine ⟨?_, hbw⟩
        have b1 := Int.emod_nonneg (hv : Int) (show (k : Int) ≠ 0 by omega)
        have b2 := Int.emod_lt_of_pos (hv : Int) (show (0 : Int) < k by omega)
        show Ending.returned (.tuple #[.int .i64 (wrap64 ((hv : Int) % k)), .nilIface]) = _
        rw [E2.out]
        generalize (hv : Int) % k = q at b1 b2
        rw [show wrap64 q = q by unfold wrap64; omega]
        rfl
      · subst e0
        obtain rfl : sv = 0 := by rw [hsv.out]; simp
        clear hsv hpe
        go_enter Tryd.func25, Tryd.ntmps25
        go_wp2_with fail
        refine Hp.out.mono ?_
        rintro e w1 ⟨A', c', rfl, -, hb1⟩
        simp only [errV]
        go_wp2_with fail
        go_ret2
        exact ⟨rfl, hb1⟩
      · subst e0
        obtain rfl : sv = 0 := by rw [hsv.out]; simp
        clear hsv hpe
        go_enter Tryd.func25, Tryd.ntmps25
        go_wp2_with fail
        refine Hp.out.mono ?_
        rintro e w1 ⟨A', c', rfl, -, hb1⟩
        simp only [errV]
        go_wp2_with fail
        go_ret2
        exact ⟨rfl, hb1⟩

set_option maxRecDepth 100000 in
set_option maxHeartbeats 2000000 in
theorem refShard_any (A B : Option Addr) (n c m d : Nat) (t : List GV) (cs : List Int) (wk : Int) (w : World) (ht : SliceIs Enc.val w w.heap.size A n c t) (hc : SliceIs Enc.int w w.heap.size B m d cs) (hm6 : m ≤ 1000000) :
    Calls Tryd.prog 26 #[.slice A n c, .int .i64 wk, .slice B m d] w (RetV (.tuple #[.int .i64 (shardV t wk cs), .int .i64 (shardE t.length wk cs)]) w) := by
  have hp := refPick_any A B n c m d t cs w ht hc hm6
  have hok := pickV_ok (vals_ok ht) cs
  have hple := pickL_le t cs
  have hpok : ∀ x ∈ pickL t cs, x.ok := by
    intro x hx; unfold pickL at hx; split at hx
    · exact hok x hx
    · cases hx
  have Hpok := Lib.hid hpok
  clear ht hc hok hpok
  have hsv : Hid (shardV t wk cs = if shardE t.length wk cs = 0 then (hashT (pickL t cs) : Int) % wk else 0) := rfl
  have hse : Hid (shardE t.length wk cs = if wk < 1 ∨ 16 < wk then 1 else pickE t.length cs) := rfl
  have hpe := Lib.hid (pickE_cases t.length cs)
  generalize shardV t wk cs = sv at hsv ⊢
  generalize shardE t.length wk cs = se at hsv hse ⊢
  generalize pickE t.length cs = pe at hp hse hpe
  generalize pickL t cs = pl at hp hsv hple Hpok
  by_cases h1 : wk < 1
  · obtain rfl : se = 1 := by rw [hse.out, if_pos (.inl h1)]
    obtain rfl : sv = 0 := by rw [hsv.out]; simp
    clear hse hsv hpe hp
    go_enter Tryd.func26, Tryd.ntmps26
    go_wp2_with fail
    go_ret2
    exact ⟨rfl, Below.refl _ _⟩
  · by_cases h16 : 16 < wk
    · obtain rfl : se = 1 := by rw [hse.out, if_pos (.inr h16)]
      obtain rfl : sv = 0 := by rw [hsv.out]; simp
      clear hse hsv hpe hp
      go_enter Tryd.func26, Tryd.ntmps26
      go_wp2_with fail
      go_ret2
      exact ⟨rfl, Below.refl _ _⟩
    · have e1 : se = pe := by rw [hse.out, if_neg (by omega)]
      subst e1
      clear hse
      have Hp := Lib.hid hp
      clear hp
      rcases hpe.out with e0 | e0 | e0
      · subst e0
        have e2 : sv = (hashT pl : Int) % wk := by rw [hsv.out, if_pos rfl]
        obtain ⟨k, rfl⟩ : ∃ k : Nat, wk = (k : Int) := ⟨wk.toNat, by omega⟩
        have hk1 : 1 ≤ k := by omega
        have hk2 : k ≤ 16 := by omega
        have hhl := hashT_lt pl
        have hh : Hid (∀ W, ∀ A c, SliceIs Enc.val W W.heap.size A pl.length c pl → Calls Tryd.prog 16 #[.slice A pl.length c] W (RetV (.int .u32 (hashT pl)) W)) := fun W A c hs => refTHash_any A pl.length c pl W hs
        generalize hashT pl = hv at e2 hhl hh
        have E2 := Lib.hid e2
        clear e2 hsv hpe
        go_enter Tryd.func26, Tryd.ntmps26
        go_wp2_with fail
        refine Hp.out.mono ?_
        rintro e w1 ⟨A', c', rfl, hown, hb1⟩
        have hsl := hown.is rfl (by simp [reachN]; omega) Hpok.out
        have HSL := Lib.hid hsl
        clear hown hsl
        go_wp2_with fail
        refine (hh.out _ _ _ HSL.out).mono ?_
        rintro e w2 ⟨rfl, hq2⟩
        have hbw := below_next hb1 hq2
        clear hq2
        go_wp2_with fail
        go_ret2
        refine ⟨?_, hbw⟩
        rw [E2.out]
        rfl
      · subst e0
        obtain rfl : sv = 0 := by rw [hsv.out]; simp
        clear hsv hpe
        go_enter Tryd.func26, Tryd.ntmps26
        go_wp2_with fail
        refine Hp.out.mono ?_
        rintro e w1 ⟨A', c', rfl, -, hb1⟩
        go_wp2_with fail
        go_ret2
        exact ⟨rfl, hb1⟩
      · subst e0
        obtain rfl : sv = 0 := by rw [hsv.out]; simp
        clear hsv hpe
        go_enter Tryd.func26, Tryd.ntmps26
        go_wp2_with fail
        refine Hp.out.mono ?_
        rintro e w1 ⟨A', c', rfl, -, hb1⟩
        go_wp2_with fail
        go_ret2
        exact ⟨rfl, hb1⟩
end Go.Proofs.YtgomfmfaoeojkaaDoor
