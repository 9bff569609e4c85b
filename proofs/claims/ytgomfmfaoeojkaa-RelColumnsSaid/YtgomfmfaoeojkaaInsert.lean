/- slices.Insert at []api.Tuple: the four roads, after the worked texts of the shelf for []string, turned to this instance. -/
import Derived.Test.YtgomfmfaoeojkaaTupP
import Derived.Test.YtgomfmfaoeojkaaSans
import Derived.Lib.Walk
import Derived.Lib.JoinLaws
import Derived.Lib.AppendZeros
import Derived.Lib.AppendZerosOnto
import Derived.Lib.Overlaps
import Derived.Laws.Externs
import Derived.Laws.IdiomCopy
import Derived.Laws.NewBlocks
import Derived.Deep.RegionLaw
set_option linter.unusedVariables false
set_option linter.unusedSimpArgs false
namespace Go.Proofs.Ytgomfmfaoeojkaa
open Go.RowKit Go.Lib

section
variable {P : Program}
theorem wp_copy_runI (w : World) {o : Oper} {a : Act} {K : Act → World → Prop} {Q : Exit → Act → World → Prop} (d s : Operand) (t t' : TypeId)
    (ho : o.op = .call { callee := .builtin .copy, args := #[d, s], argTypes := #[t, t'] }) (v u : Value) (hd : a.eval d = v) (hs : a.eval s = u) {v' : Value} {w' : World}
    (hr : (Builtin.copy_ #[t, t'] o.type #[v, u]).run P w = .ok v' w') (h : K (a.put o.dst v') w') : o.wp P a w K Q := by
  unfold Oper.wp execOp
  simp only [ho, resolve, invoke, builtin, Sem.run_bind, Sem.run_pure, Result.andThen_ok, List.map_toArray, List.map_cons, List.map_nil, hd, hs, hr]
  exact h

theorem wpList_copy_runI (w : World) {ops : Array Oper} {rest : List Oper} {o : Oper} {a : Act} {Q : Exit → Act → World → Prop} (hgd : o.guard = none) (d s : Operand) (t t' : TypeId)
    (ho : o.op = .call { callee := .builtin .copy, args := #[d, s], argTypes := #[t, t'] }) (v u : Value) (hd : a.eval d = v) (hs : a.eval s = u) {v' : Value} {w' : World}
    (hr : (Builtin.copy_ #[t, t'] o.type #[v, u]).run P w = .ok v' w') (h : wpList P ops Q rest (a.put o.dst v') w') : wpList P ops Q (o :: rest) a w :=
  wpList_plain hgd fun _ hK => wp_copy_runI w d s t t' ho v u hd hs hr (hK _ _ h)

theorem step_copy_runI {ops : Array Oper} {o : Oper} {a : Act} {w : World} {K : Act → World → Prop} {Q : Exit → Act → World → Prop} {E : Prop}
    (hg : o.guard = none) (d x : Operand) (dT sT : TypeId) (hop : o.op = Op.call { callee := Callee.builtin Builtin.copy, args := #[d, x], argTypes := #[dT, sT] })
    (v u : Value) (hd : a.eval d = v) (hx : a.eval x = u) {v' : Value} {w' : World} (hr : (Builtin.copy_ #[dT, sT] o.type #[v, u]).run P w = .ok v' w') (hK : K (a.put o.dst v') w') :
    if Region.wanted o (yielded ops a.tmps) = true then Oper.wp P o a w K Q else E := by
  have hw : Region.wanted o (yielded ops a.tmps) = true := by simp [Region.wanted, hg]
  rw [if_pos hw]
  unfold Oper.wp
  simp [execOp, hop, resolve, invoke, builtin, hd, hx, hr, Result.andThen]
  exact hK

theorem drew_setCells (b : Nat) : ∀ (vs : List Value) (o : Nat) (w : World), (w.setCells b o vs).drew = w.drew.setCells b o vs
  | [], _, _ => rfl
  | v :: r, o, w => by rw [World.setCells, World.setCells, drew_setCells b r]; rfl

theorem isSome_setCells (b : Nat) (vs : List Value) (o : Nat) (w : World) (h : ∀ j, j < vs.length → (w.cell? ⟨b, o + j, none⟩).isSome = true) (k : Nat) (hk : (w.cell? ⟨b, k, none⟩).isSome = true) : ((w.setCells b o vs).cell? ⟨b, k, none⟩).isSome = true := by
  by_cases hin : o ≤ k ∧ k < o + vs.length
  · have := World.cell?_setCells_in b vs o w h (k - o) (by omega)
    rw [show o + (k - o) = k by omega] at this
    rw [this]; rfl
  · rw [World.cell?_setCells_out b vs o w ⟨b, k, none⟩ (fun _ _ => by show k < o ∨ o + vs.length ≤ k; omega)]
    exact hk
end

theorem tup_info : (Try.prog.info? 24).map (fun i => (i.zero, i.size, i.bytes)) = some (some (.slice none 0 0), 1, 24) := by kernel_rfl

set_option maxHeartbeats 4000000 in
set_option maxRecDepth 100000 in
theorem insert_shift (b off n c i vb voff m vc : Nat) (cs vs : List Value) (w : World) (hi : i < n) (hm : 0 < m) (hroom : n + m ≤ c) (hc63 : c ≤ 9223372036854775807) (hvb : vb ≠ b)
    (hcl : cs.length = n) (hvl : vs.length = m)
    (hcs : ∀ j v, cs[j]? = some v → w.cell? ⟨b, off + j, none⟩ = some v) (hsp : ∀ j, j < n + m → (w.cell? ⟨b, off + j, none⟩).isSome = true) (hfz : ∀ j, j < n + m → w.frozen? ⟨b, off + j, none⟩ = false)
    (hvs : ∀ j v, vs[j]? = some v → w.cell? ⟨vb, voff + j, none⟩ = some v) (h1c : ∀ v ∈ cs, v.oneCell' = true) (h1v : ∀ v ∈ vs, v.oneCell' = true)
    (tA tB : TypeId) (kA kB : Nat) (hsa : w.shape? vb = some (tA, kA)) (hsb : w.shape? b = some (tB, kB)) (hkB : kB ≠ 0) (hfa : w.frozen? ⟨vb, voff, none⟩ = false) (hfe : w.frozen? ⟨vb, kA, none⟩ = false) :
    Calls Try.prog 45 #[.slice (some ⟨b, off, none⟩) n c, .int .i64 i, .slice (some ⟨vb, voff, none⟩) m vc] w fun e w' =>
      e = .returned (.slice (some ⟨b, off, none⟩) (n + m) c) ∧ w' = (w.drew.setCells b (off + (i + m)) (cs.drop i)).setCells b (off + i) vs := by
  have hz1 : ¬ ((m : Int) = 0) := by omega
  have hz2 : ¬ ((i : Int) = (n : Int)) := by omega
  have hsz : (Try.prog.info? 24).map (·.size) = some 1 := by
    obtain ⟨i0, hi0, h0, h1, h2⟩ := info_parts tup_info
    rw [hi0]; simp [h1]
  have hov : ∀ lb cb, (callFunc 66 #[.slice (some ⟨vb, voff, none⟩) m vc, .slice (some ⟨b, off + (i + m), none⟩) lb cb]).run Try.prog w = .ok (.value (.bool false)) w := fun lb cb => by
    rw [run_callFunc_extern Try.func66 (by kernel_rfl) (by kernel_rfl) (by kernel_rfl) (e := Extern.SlicesOverlaps.overlaps #[22, 22] #[4]) (by kernel_rfl),
      Lib.run_overlaps_apart w 22 4 24 Try.underlying22 1 Try.sizeOf24 ⟨vb, voff, none⟩ ⟨b, off + (i + m), none⟩ m vc lb cb hvb tA tB kA kB hsa hsb hkB hfa hfe]
    rfl
  have hdl : (cs.drop i).length = n - i := by rw [List.length_drop, hcl]
  have hw1 : IntKind.i64.wrap ((i : Int) + (m : Int)) = (i : Int) + (m : Int) := by rw [IntKind.wrap_i64]; omega
  have hb1 : (0 : Int) ≤ (i : Int) + (m : Int) := by omega
  have hin : i ≤ n := by omega
  have htn : ((i : Int) + (m : Int)).toNat = i + m := by omega
  have hb2 : ¬ (c = i + m) := by omega
  have hb3 : (i : Int) ≤ (n : Int) + (m : Int) := by omega
  have hb4 : ¬ (c = i) := by omega
  have hcp1 : ∀ ty dc sc, (Builtin.copy_ #[22, 22] ty #[.slice (some ⟨b, off + (i + m), none⟩) (n + m - (i + m)) dc, .slice (some ⟨b, off + i, none⟩) (n + m - i) sc]).run Try.prog w.drew = .ok (goInt (cs.drop i).length) (w.drew.setCells b (off + (i + m)) (cs.drop i)) := fun ty dc sc =>
    run_copy_cells w.drew _ _ ty 24 b (off + (i + m)) (n + m - (i + m)) dc ⟨b, off + i, none⟩ (n + m - i) sc (cs.drop i) Try.underlying22 hsz (by rw [hdl]; simp only [Nat.min_def]; split <;> omega)
      (fun j v hj => by rw [Addr.add_lit, Nat.add_assoc]; exact hcs (i + j) v (by rwa [List.getElem?_drop] at hj))
      (fun j hj => by rw [Nat.add_assoc]; exact hsp _ (by omega)) (fun j hj => by rw [Nat.add_assoc]; exact hfz _ (by omega)) (fun v hv => h1c v (List.mem_of_mem_drop hv))
  obtain ⟨W1, hW1⟩ : ∃ W1, W1 = w.drew.setCells b (off + (i + m)) (cs.drop i) := ⟨_, rfl⟩
  have hsp1 : ∀ k, k < n + m → (W1.cell? ⟨b, off + k, none⟩).isSome = true := fun k hk => by
    rw [hW1]
    exact isSome_setCells b _ _ _ (fun j hj => by rw [Nat.add_assoc]; exact hsp _ (by omega)) _ (hsp k hk)
  have hcp2 : ∀ (W : World), (∀ x, W.cell? x = W1.cell? x) → (∀ x, W.frozen? x = W1.frozen? x) → ∀ ty dc, (Builtin.copy_ #[22, 22] ty #[.slice (some ⟨b, off + i, none⟩) (n + m - i) dc, .slice (some ⟨vb, voff, none⟩) m vc]).run Try.prog W = .ok (goInt vs.length) (W.setCells b (off + i) vs) := fun W hWc hWf ty dc =>
    run_copy_cells W _ _ ty 24 b (off + i) (n + m - i) dc ⟨vb, voff, none⟩ m vc vs Try.underlying22 hsz (by rw [hvl]; simp only [Nat.min_def]; split <;> omega)
      (fun j v hj => by
        rw [Addr.add_lit, hWc, hW1, World.cell?_setCells_out b _ _ _ _ (fun h _ => absurd h hvb)]
        exact hvs j v hj)
      (fun j hj => by rw [hWc, Nat.add_assoc]; exact hsp1 _ (by omega)) (fun j hj => by rw [hWf, hW1, World.frozen?_setCells, Nat.add_assoc]; exact hfz _ (by omega)) h1v
  rw [← hW1] at hcp1
  go_enter Try.func45, Try.ntmps45
  go_wp2_with (simp only [hov])
  go_region_law (refine step_copy_runI rfl _ _ 22 22 rfl _ _ (by simp [Act.eval, Act.put]) (by simp [Act.eval, Act.put]) (hcp1 _ _ _) ?_)
  go_wp2_with (at_builtin; refine wpList_copy_runI _ rfl _ _ 22 22 rfl _ _ rfl rfl (hcp2 _ (fun _ => rfl) (fun _ => rfl) _ _) ?_)
  go_ret
  first | exact ⟨rfl, rfl⟩ | exact ⟨rfl, by rw [hW1]⟩

set_option maxHeartbeats 4000000 in
set_option maxRecDepth 100000 in
theorem insert_end_room (b off n c vb voff m vc : Nat) (vs : List Value) (w : World) (hm : 0 < m) (hroom : n + m ≤ c) (hc63 : c ≤ 9223372036854775807)
    (hvl : vs.length = m) (hsp : ∀ j, j < m → (w.cell? ⟨b, off + n + j, none⟩).isSome = true) (hfz : ∀ j, j < m → w.frozen? ⟨b, off + n + j, none⟩ = false)
    (hvs : ∀ j v, vs[j]? = some v → w.cell? ⟨vb, voff + j, none⟩ = some v) (h1v : ∀ v ∈ vs, v.oneCell' = true) :
    Calls Try.prog 45 #[.slice (some ⟨b, off, none⟩) n c, .int .i64 n, .slice (some ⟨vb, voff, none⟩) m vc] w fun e w' =>
      e = .returned (.slice (some ⟨b, off, none⟩) (n + m) c) ∧ w' = w.setCells b (off + n) vs := by
  have hz1 : ¬ ((m : Int) = 0) := by omega
  have hsrc : Src Try.prog 1 22 (.slice (some ⟨vb, voff, none⟩) m vc) m vs w := Src.ofSlice w Try.underlying22 ⟨vb, voff, none⟩ m vc vs (by omega) (fun j u hj => by rw [Addr.add_lit]; exact hvs j u hj) h1v
  go_enter Try.func45, Try.ntmps45
  go_wp2_with (at_builtin; refine wpList_append_room1 _ rfl _ _ 22 22 rfl 24 _ _ Try.underlying22 tup_info b off n c rfl _ rfl m vs hsrc hroom (by rw [hvl]; exact hsp) (by rw [hvl]; exact hfz) ?_)
  go_ret
  exact ⟨rfl, rfl⟩

set_option maxHeartbeats 4000000 in
set_option maxRecDepth 100000 in
theorem insert_end_grow (base : Option Addr) (n c vb voff m vc : Nat) (cs vs : List Value) (w : World) (hm : 0 < m) (hnc : n ≤ c) (hroom : c < n + m) (hbig : (n + m) * 24 ≤ 140737488355328)
    (hcl : cs.length = n) (hvl : vs.length = m) (hnil : base = none → n = 0)
    (hcs : ∀ a, base = some a → ∀ j v, cs[j]? = some v → w.cell? (a.add j) = some v)
    (hvs : ∀ j v, vs[j]? = some v → w.cell? ⟨vb, voff + j, none⟩ = some v) (h1v : ∀ v ∈ vs, v.oneCell' = true) :
    Calls Try.prog 45 #[.slice base n c, .int .i64 n, .slice (some ⟨vb, voff, none⟩) m vc] w fun e w' =>
      e = .returned (.slice (some ⟨w.heap.size, 0, none⟩) (n + m) (grownCap w (n + m) c 24)) ∧
      w' = w.drew.alloc (.cells ((cs ++ vs).toArray ++ Builtin.zeroCells (Value.slice none 0 0).cells (grownCap w (n + m) c 24 - (n + m))) 24) := by
  obtain ⟨i0, hi0, hz0, hzs, hzb⟩ := info_parts tup_info
  have hz1 : ¬ ((m : Int) = 0) := by omega
  have hsrc : Src Try.prog i0.size 22 (.slice (some ⟨vb, voff, none⟩) m vc) m vs w := by
    rw [hzs]
    exact Src.ofSlice w Try.underlying22 ⟨vb, voff, none⟩ m vc vs (by omega) (fun j u hj => by rw [Addr.add_lit]; exact hvs j u hj) h1v
  have hold : (Builtin.firstCells i0.size n (.slice base n c)).run Try.prog w.drew = .ok cs.toArray w.drew := by
    rw [hzs]
    cases base with
    | none =>
      have h0 := hnil rfl
      subst h0
      rw [List.length_eq_zero_iff.1 hcl]
      exact run_firstCells_none w.drew 1 0 0 c
    | some a => exact run_firstCells_some w.drew 1 n a n c cs (by omega) (fun j v hj => hcs a rfl j v hj)
  have hrun : ∀ ty, (Builtin.append_ #[22, 22] ty #[.slice base n c, .slice (some ⟨vb, voff, none⟩) m vc]).run Try.prog w = _ := fun ty =>
    run_append_grow_src w 22 22 ty 24 i0 _ Try.underlying22 hi0 hz0 base n c cs hold _ m vs hsrc hroom (by omega) (by rw [hzb]; exact growslice_fits hroom hbig)
  go_enter Try.func45, Try.ntmps45
  cases base with
  | none =>
    have h0 := hnil rfl
    subst h0
    go_wp2_with (at_builtin; refine Lib.wpList_append_run _ rfl _ _ _ _ rfl _ _ rfl rfl _ _ (hrun _) ?_)
    go_ret
    exact ⟨rfl, rfl⟩
  | some a =>
    obtain ⟨ab, ao, asp⟩ := a
    go_wp2_with (at_builtin; refine Lib.wpList_append_run _ rfl _ _ _ _ rfl _ _ rfl rfl _ _ (hrun _) ?_)
    all_goals (go_ret; exact ⟨rfl, rfl⟩)

set_option maxHeartbeats 4000000 in
set_option maxRecDepth 100000 in
theorem insert_grow (b off n c i vb voff m vc : Nat) (cs vs : List Value) (w : World) (hi : i < n) (hm : 0 < m) (hnc : n ≤ c) (hroom : c < n + m) (hbig : (n + m) * 24 ≤ 140737488355328)
    (hcl : cs.length = n) (hvl : vs.length = m)
    (hcs : ∀ j v, cs[j]? = some v → w.cell? ⟨b, off + j, none⟩ = some v)
    (hvs : ∀ j v, vs[j]? = some v → w.cell? ⟨vb, voff + j, none⟩ = some v) (h1c : ∀ v ∈ cs, v.oneCell' = true) (h1v : ∀ v ∈ vs, v.oneCell' = true) :
    Calls Try.prog 45 #[.slice (some ⟨b, off, none⟩) n c, .int .i64 i, .slice (some ⟨vb, voff, none⟩) m vc] w fun e w' =>
      e = .returned (.slice (some ⟨w.heap.size, 0, none⟩) (n + m) (grownCap w (n + m) c 24)) ∧
      w' = (((w.alloc (.cells ((cs.take i).toArray ++ Builtin.zeroCells (Value.slice none 0 0).cells (n + m - i) ++ Builtin.zeroCells (Value.slice none 0 0).cells (grownCap w (n + m) c 24 - (n + m))) 24)).drew.setCells w.heap.size i vs).drew).setCells w.heap.size (i + m) (cs.drop i) := by
  obtain ⟨i0, hi0, hz0, hzs, hzb⟩ := info_parts tup_info
  have hz1 : ¬ ((m : Int) = 0) := by omega
  have hz2 : ¬ ((i : Int) = (n : Int)) := by omega
  have hz3 : (c : Int) < (n : Int) + (m : Int) := by omega
  have hsz : (Try.prog.info? 24).map (·.size) = some 1 := by rw [hi0]; simp [hzs]
  have hbw : b < w.heap.size := block_lt_of_cell (hcs 0 _ (List.getElem?_eq_getElem (by omega)))
  have hvw : vb < w.heap.size := block_lt_of_cell (hvs 0 _ (List.getElem?_eq_getElem (by omega)))
  have hkk : (n : Int) + (m : Int) - (i : Int) = ((n + m - i : Nat) : Int) := by omega
  have hik : i + (n + m - i) = n + m := by omega
  have hold : (Builtin.firstCells i0.size i (.slice (some ⟨b, off, none⟩) i c)).run Try.prog w.drew = .ok (cs.take i).toArray w.drew := by
    rw [hzs]
    exact run_firstCells_some w.drew 1 i ⟨b, off, none⟩ i c (cs.take i) (by rw [List.length_take]; omega) (fun j v hj => by
      rw [Addr.add_lit]
      rw [List.getElem?_take] at hj
      split at hj
      · exact hcs j v hj
      · cases hj)
  have hrz : ∀ ty, (Builtin.append_ #[22, 3] ty #[.slice (some ⟨b, off, none⟩) i c, .int .i64 ((n : Int) + (m : Int) - (i : Int))]).run Try.prog w =
      .ok (.slice (some ⟨w.heap.size, 0, none⟩) (n + m) (grownCap w (n + m) c 24)) (w.drew.alloc (.cells ((cs.take i).toArray ++ Builtin.zeroCells (Value.slice none 0 0).cells (n + m - i) ++ Builtin.zeroCells (Value.slice none 0 0).cells (grownCap w (n + m) c 24 - (n + m))) 24)) := fun ty => by
    have h := Lib.run_append_grow_zeros w 22 3 ty 24 i0 _ .i64 .i64 Try.underlying22 Try.underlying3 hi0 hz0 (some ⟨b, off, none⟩) i c (cs.take i) hold (n + m - i) (by omega) (by omega) (by omega) (by omega) (by rw [hzb]; omega) (by rw [hzb, hik]; exact growslice_fits hroom hbig)
    rw [hik] at h
    rw [hkk]
    exact h
  obtain ⟨G, hG⟩ : ∃ G, G = grownCap w (n + m) c 24 := ⟨_, rfl⟩
  obtain ⟨ROW, hROW⟩ : ∃ ROW : Array Value, ROW = (cs.take i).toArray ++ Builtin.zeroCells (Value.slice none 0 0).cells (n + m - i) ++ Builtin.zeroCells (Value.slice none 0 0).cells (G - (n + m)) := ⟨_, rfl⟩
  rw [← hG] at hrz ⊢
  rw [← hROW] at hrz ⊢
  have hRl : n + m ≤ ROW.size := by
    rw [hROW]
    simp [Builtin.zeroCells, Value.cells]
    omega
  obtain ⟨W1, hW1⟩ : ∃ W1, W1 = w.drew.alloc (.cells ROW 24) := ⟨_, rfl⟩
  rw [← hW1] at hrz
  have hN : ∀ j, j < n + m → (W1.cell? ⟨w.heap.size, j, none⟩).isSome = true := fun j hj => by
    rw [hW1, World.cell?_alloc_at (w := w.drew) ROW _ w.heap.size j rfl, Array.getElem?_eq_getElem (by omega)]; rfl
  have hNf : ∀ j, W1.frozen? ⟨w.heap.size, j, none⟩ = false := fun j => by rw [hW1]; exact World.frozen?_alloc_at (w := w.drew) ROW _ w.heap.size j rfl
  have hOb : ∀ j v, w.cell? ⟨b, j, none⟩ = some v → W1.cell? ⟨b, j, none⟩ = some v := fun j v h => by rw [hW1, World.cell?_alloc_past (w := w.drew) _ b j hbw]; exact h
  have hOv : ∀ j v, w.cell? ⟨vb, j, none⟩ = some v → W1.cell? ⟨vb, j, none⟩ = some v := fun j v h => by rw [hW1, World.cell?_alloc_past (w := w.drew) _ vb j hvw]; exact h
  have hcpA : ∀ (W : World), (∀ x, W.cell? x = W1.cell? x) → (∀ x, W.frozen? x = W1.frozen? x) → ∀ ty dc, (Builtin.copy_ #[22, 22] ty #[.slice (some ⟨w.heap.size, i, none⟩) (n + m - i) dc, .slice (some ⟨vb, voff, none⟩) m vc]).run Try.prog W = .ok (goInt vs.length) (W.setCells w.heap.size i vs) := fun W hWc hWf ty dc =>
    run_copy_cells W _ _ ty 24 w.heap.size i (n + m - i) dc ⟨vb, voff, none⟩ m vc vs Try.underlying22 hsz (by rw [hvl]; simp only [Nat.min_def]; split <;> omega)
      (fun j v hj => by rw [Addr.add_lit, hWc]; exact hOv _ v (hvs j v hj))
      (fun j hj => by rw [hWc]; exact hN _ (by omega)) (fun j hj => by rw [hWf]; exact hNf _) h1v
  have hGn : n + m ≤ G := by rw [hG]; exact grownCap_ge w _ _ _
  have hG63 : G ≤ 9223372036854775807 := by
    have := grownCap_le_maxLen w (n + m) c 24 (by unfold maxLen; omega)
    rw [← hG] at this
    unfold maxLen at this
    omega
  have hGi : ¬ (G = i) := by omega
  have hGim : ¬ (G = i + m) := by omega
  have hci : ¬ (c = i) := by omega
  have hbN : b ≠ w.heap.size := by omega
  have hdl : (cs.drop i).length = n - i := by rw [List.length_drop, hcl]
  have hcpB : ∀ (W : World), (∀ x, W.cell? x = (W1.setCells w.heap.size i vs).cell? x) → (∀ x, W.frozen? x = (W1.setCells w.heap.size i vs).frozen? x) → ∀ ty dc sc, (Builtin.copy_ #[22, 22] ty #[.slice (some ⟨w.heap.size, i + m, none⟩) (n + m - (i + m)) dc, .slice (some ⟨b, off + i, none⟩) (n - i) sc]).run Try.prog W = .ok (goInt (cs.drop i).length) (W.setCells w.heap.size (i + m) (cs.drop i)) := fun W hWc hWf ty dc sc =>
    run_copy_cells W _ _ ty 24 w.heap.size (i + m) (n + m - (i + m)) dc ⟨b, off + i, none⟩ (n - i) sc (cs.drop i) Try.underlying22 hsz (by rw [hdl]; simp only [Nat.min_def]; split <;> omega)
      (fun j v hj => by
        rw [Addr.add_lit, hWc, World.cell?_setCells_out _ _ _ _ _ (fun h _ => absurd h hbN), Nat.add_assoc]
        exact hOb _ v (hcs (i + j) v (by rwa [List.getElem?_drop] at hj)))
      (fun j hj => by rw [hWc]; exact isSome_setCells _ _ _ _ (fun t ht => hN _ (by omega)) _ (hN _ (by omega)))
      (fun j hj => by rw [hWf, World.frozen?_setCells]; exact hNf _) (fun v hv => h1c v (List.mem_of_mem_drop hv))
  subst hW1
  have hE1 : ∀ x, ((w.alloc (.cells ROW 24)).drew).cell? x = (w.drew.alloc (.cells ROW 24)).cell? x := fun x => rfl
  have hE2 : ∀ x, ((w.alloc (.cells ROW 24)).drew).frozen? x = (w.drew.alloc (.cells ROW 24)).frozen? x := fun x => rfl
  have hF1 : ∀ x, (((w.alloc (.cells ROW 24)).drew.setCells w.heap.size i vs).drew).cell? x = ((w.drew.alloc (.cells ROW 24)).setCells w.heap.size i vs).cell? x := fun x => rfl
  have hF2 : ∀ x, (((w.alloc (.cells ROW 24)).drew.setCells w.heap.size i vs).drew).frozen? x = ((w.drew.alloc (.cells ROW 24)).setCells w.heap.size i vs).frozen? x := fun x => rfl
  have hw1 : IntKind.i64.wrap ((i : Int) + (m : Int)) = (i : Int) + (m : Int) := by rw [IntKind.wrap_i64]; omega
  have hb1 : (0 : Int) ≤ (i : Int) + (m : Int) := by omega
  have hin : i ≤ n := by omega
  have htn : ((i : Int) + (m : Int)).toNat = i + m := by omega
  have hb3 : (i : Int) ≤ (n : Int) := by omega
  clear hkk hik hold hROW hG hRl
  go_enter Try.func45, Try.ntmps45
  go_wp2_with (first
    | (at_builtin; refine Lib.wpList_append_run _ rfl _ _ _ _ rfl _ _ rfl rfl _ _ (hrz _) ?_)
    | (at_builtin; refine wpList_copy_runI _ rfl _ _ 22 22 rfl _ _ rfl rfl (hcpA _ hE1 hE2 _ _) ?_)
    | (at_builtin; refine wpList_copy_runI _ rfl _ _ 22 22 rfl _ _ rfl rfl (hcpB _ (fun _ => rfl) (fun _ => rfl) _ _ _) ?_))
  go_region_law (refine step_copy_runI rfl _ _ 22 22 rfl (.slice (some ⟨w.heap.size, i + m, none⟩) (n + m - (i + m)) (G - (i + m))) (.slice (some ⟨b, off + i, none⟩) (n - i) (c - i)) (by simp [Act.eval, Act.put]) (by simp [Act.eval, Act.put]) (hcpB _ hF1 hF2 3 (G - (i + m)) (c - i)) ?_)
  go_wp2
  go_ret
  exact ⟨rfl, rfl⟩

/-! ### the four roads as one -/
theorem setCells_heap {e : TypeId} (g : Nat) : ∀ (vs : List Value) (o : Nat) (w : World) (cur : Array Value), w.heap[g]? = some (.cells cur e (0, 0)) → ∃ cur', (w.setCells g o vs).heap[g]? = some (.cells cur' e (0, 0)) ∧ cur'.size = cur.size
  | [], _, _, cur, h => ⟨cur, h, rfl⟩
  | v :: r, o, w, cur, h => by
    obtain ⟨cur', h1, h2⟩ := setCells_heap g r (o + 1) (w.setCell ⟨g, o, none⟩ v) _ (heap_setCell_same w g o cur e v h)
    exact ⟨cur', h1, by rw [h2]; simp⟩
theorem setCells_out (g : Nat) : ∀ (vs : List Value) (o : Nat) (w : World), Out [g] w (w.setCells g o vs)
  | [], _, w => Out.refl _ w
  | v :: r, o, w => by
    have h1 : Out [g] w (w.setCell ⟨g, o, none⟩ v) := ⟨rfl, rfl, rfl, by simp, fun b _ hb => heap_setCell_other w ⟨g, o, none⟩ b v (by simpa using hb)⟩
    exact h1.trans (setCells_out g r (o + 1) _) (fun b hb _ => hb)
theorem own_of_cells {w : World} {e : TypeId} {g n cap base : Nat} {cur : Array Value} {xs : List Value} (h : w.heap[g]? = some (.cells cur e (0, 0))) (hb : base ≤ g) (hn : n ≤ cap) (hc : cap ≤ maxLen) (hs : cur.size = cap) (hl : xs.length = n)
    (hx : ∀ j v, xs[j]? = some v → w.cell? ⟨g, j, none⟩ = some v) : w.ownsRow base e 1 (.slice (some ⟨g, 0, none⟩) n cap) n xs := by
  refine ⟨by rw [hl, Nat.mul_one], .inr ⟨g, cap, cur, rfl, hb, h, hn, hc, by rw [hs, Nat.mul_one], ?_⟩⟩
  apply List.ext_getElem?
  intro j
  rw [Nat.mul_one, List.getElem?_take]
  by_cases hj : j < n
  · rw [if_pos hj]
    have h1 := hx j _ (List.getElem?_eq_getElem (by omega))
    rw [cell_of_row _ _ j _ _ _ h, ← Array.getElem?_toList] at h1
    rw [h1, List.getElem?_eq_getElem (by omega)]
  · rw [if_neg hj, List.getElem?_eq_none (by omega)]

def InsPost (n i : Nat) (v u : Value) (xs : List Value) (w : World) (e : Ending) (w' : World) : Prop :=
  ∃ A c, e = .returned (.slice A (n + 1) c) ∧ w'.ownsRow 0 24 1 (.slice A (n + 1) c) (n + 1) (xs.take i ++ u :: xs.drop i) ∧ Out v.ownBlock.toList w w' ∧ (∀ b, (Value.slice A (n + 1) c).ownBlock = some b → v.ownBlock = some b ∨ w.heap.size ≤ b)

theorem ins_at {xs : List Value} {u : Value} {i j : Nat} {v : Value} (hi : i ≤ xs.length) (h : (xs.take i ++ u :: xs.drop i)[j]? = some v) : (j < i ∧ xs[j]? = some v) ∨ (j = i ∧ v = u) ∨ (i < j ∧ (xs.drop i)[j - (i + 1)]? = some v) := by
  rcases Nat.lt_or_ge j i with hj | hj
  · rw [List.getElem?_append_left (by rw [List.length_take]; omega), List.getElem?_take, if_pos hj] at h
    exact .inl ⟨hj, h⟩
  · rw [List.getElem?_append_right (by rw [List.length_take]; omega), List.length_take, Nat.min_eq_left hi] at h
    rcases Nat.eq_or_lt_of_le hj with e | hj
    · subst e; simp at h; exact .inr (.inl ⟨rfl, h.symm⟩)
    · obtain ⟨k, rfl⟩ : ∃ k, j = i + 1 + k := ⟨j - (i + 1), by omega⟩
      rw [show i + 1 + k - i = k + 1 by omega, List.getElem?_cons_succ] at h
      exact .inr (.inr ⟨by omega, by rw [show i + 1 + k - (i + 1) = k by omega]; exact h⟩)

theorem insert_any (A : Option Addr) (n c i vb : Nat) (u : Value) (xs : List Value) (w : World) (hn : n ≤ 1000000) (hi : i ≤ n) (hown : w.ownsRow 0 24 1 (.slice A n c) n xs) (h1 : ∀ x ∈ xs, x.oneCell' = true) (h1u : u.oneCell' = true)
    (hv : w.heap[vb]? = some (.cells #[u] 24 (0, 0))) (hvb : (Value.slice A n c).ownBlock ≠ some vb) :
    Calls Try.prog 45 #[.slice A n c, .int .i64 i, .slice (some ⟨vb, 0, none⟩) 1 1] w (InsPost n i (.slice A n c) u xs w) := by
  have hxl : xs.length = n := by have := hown.1; omega
  have hvs : ∀ j v, [u][j]? = some v → w.cell? ⟨vb, 0 + j, none⟩ = some v := by
    intro j v hj
    rw [Nat.zero_add, cell_of_row _ _ j _ _ _ hv]; simpa using hj
  have h1v : ∀ v ∈ [u], v.oneCell' = true := by simpa using h1u
  have hvlt : vb < w.heap.size := (Array.getElem?_eq_some_iff.1 hv).1
  have hil : i ≤ xs.length := by omega
  rcases hown.2 with ⟨hnil, hn0⟩ | ⟨g, cap, cur, hsl, hg0, hh, hnc, hcm, hcs, htk⟩
  · -- the nil slice
    simp only [Value.slice.injEq] at hnil
    obtain ⟨rfl, _, rfl⟩ := hnil
    subst hn0
    have e : xs = [] := List.eq_nil_of_length_eq_zero hxl
    subst e
    obtain rfl : i = 0 := by omega
    refine (insert_end_grow none 0 0 vb 0 1 1 [] [u] w (by omega) (by omega) (by omega) (by omega) rfl rfl (fun _ => rfl) (fun _ h => by cases h) hvs h1v).mono ?_
    rintro e w' ⟨rfl, rfl⟩
    have hge := grownCap_ge w 1 0 24
    have hgm := grownCap_le_maxLen w 1 0 24 (by simp [maxLen])
    refine ⟨_, _, rfl, ?_, Out.of_below (belowA (Below.drew (Below.refl _ _)) _) _, ?_⟩
    · refine own_of_cells (Go.heap_alloc_new w.drew _) (Nat.zero_le _) (by simpa using hge) (by simpa using hgm) ?_ rfl ?_
      · simp only [Nat.zero_add, Array.size_append, size_zeroCells, List.size_toArray, List.length_append, List.length_nil, List.length_cons, Value.cells]
        simp; omega
      · intro j v hj
        simp at hj
        obtain ⟨rfl, rfl⟩ : j = 0 ∧ v = u := by
          cases j with
          | zero => simp at hj; exact ⟨rfl, hj.symm⟩
          | succ j => simp at hj
        refine (cell_of_row _ _ 0 _ _ _ (Go.heap_alloc_new w.drew _)).trans ?_
        rw [Array.getElem?_append_left (by simp)]; simp
    · intro b hb
      simp [Value.ownBlock] at hb
      right; subst hb; exact Nat.le_refl _
  · simp only [Value.slice.injEq] at hsl
    obtain ⟨rfl, _, rfl⟩ := hsl
    rw [Nat.mul_one] at hcs htk
    have hcells : ∀ j v, xs[j]? = some v → w.cell? ⟨g, 0 + j, none⟩ = some v := by
      intro j v hj
      have hjn : j < n := by have := (List.getElem?_eq_some_iff.1 hj).1; omega
      rw [Nat.zero_add, cell_of_row _ _ j _ _ _ hh, ← Array.getElem?_toList]
      have := congrArg (fun l => l[j]?) htk
      simp only [List.getElem?_take, if_pos hjn] at this
      rw [this]; exact hj
    have hsome : ∀ j, j < c → (w.cell? ⟨g, 0 + j, none⟩).isSome = true := by
      intro j hj
      rw [Nat.zero_add, cell_of_row _ _ j _ _ _ hh, Array.getElem?_eq_getElem (by omega)]; rfl
    have hfz : ∀ j, w.frozen? ⟨g, 0 + j, none⟩ = false := fun j => frozen_of_row _ _ _ _ _ hh
    have hne : vb ≠ g := by intro e; subst e; simp [Value.ownBlock] at hvb
    by_cases hroom : n + 1 ≤ c
    · by_cases hin : i < n
      · have hshA : w.shape? vb = some (24, 1) := by unfold World.shape?; rw [hv]; rfl
        have hshB : w.shape? g = some (24, cur.size) := by unfold World.shape?; rw [hh]
        refine (insert_shift g 0 n c i vb 0 1 1 xs [u] w hin (by omega) hroom (by have := hcm; unfold maxLen at this; omega) hne hxl rfl hcells (fun j hj => hsome j (by omega)) (fun j _ => hfz j) hvs h1 h1v _ _ _ _ hshA hshB (by omega) (frozen_of_row _ _ _ _ _ hv) (frozen_of_row _ _ _ _ _ hv)).mono ?_
        rintro e w' ⟨rfl, rfl⟩
        obtain ⟨cur1, hc1, hs1⟩ := setCells_heap (e := 24) g (xs.drop i) (0 + (i + 1)) w.drew cur hh
        obtain ⟨cur2, hc2, hs2⟩ := setCells_heap (e := 24) g [u] (0 + i) _ cur1 hc1
        have hout : Out [g] w ((w.drew.setCells g (0 + (i + 1)) (xs.drop i)).setCells g (0 + i) [u]) :=
          ((Out.of_below (Below.drew (Below.refl _ _)) [g]).trans (setCells_out g _ _ _) (fun b hb _ => hb)).trans (setCells_out g _ _ _) (fun b hb _ => hb)
        refine ⟨_, _, rfl, ?_, by simpa [Value.ownBlock] using hout, fun b hb => .inl (by simpa [Value.ownBlock] using hb)⟩
        refine own_of_cells hc2 (Nat.zero_le _) hroom hcm (by rw [hs2, hs1]; exact hcs) (by simp; omega) ?_
        intro j v hj
        have hlen1 : (xs.drop i).length = n - i := by rw [List.length_drop]; omega
        rcases ins_at hil hj with ⟨hji, hx⟩ | ⟨rfl, rfl⟩ | ⟨hji, hx⟩
        · rw [World.cell?_setCells_out g _ _ _ _ (fun _ _ => by show j < 0 + i ∨ _; omega), World.cell?_setCells_out g _ _ _ _ (fun _ _ => by show j < 0 + (i + 1) ∨ _; omega)]
          have := hcells j v hx
          rw [Nat.zero_add] at this; exact this
        · have := World.cell?_setCells_in g [v] (0 + j) (w.drew.setCells g (0 + (j + 1)) (xs.drop j)) (fun q hq => by
            simp at hq; subst hq
            rw [Nat.add_zero, cell_of_row _ _ _ _ _ _ hc1, Array.getElem?_eq_getElem (by omega)]; rfl) 0 (by simp)
          simpa using this
        · rw [World.cell?_setCells_out g _ _ _ _ (fun _ _ => by show _ ∨ 0 + i + 1 ≤ j; omega)]
          have hk : j - (i + 1) < (xs.drop i).length := (List.getElem?_eq_some_iff.1 hx).1
          have := World.cell?_setCells_in g (xs.drop i) (0 + (i + 1)) w.drew (fun q hq => by
            rw [Nat.add_assoc]; exact hsome (i + 1 + q) (by omega)) (j - (i + 1)) hk
          rw [show 0 + (i + 1) + (j - (i + 1)) = j by omega] at this
          rw [this, ← hx, List.getElem?_eq_getElem hk]
      · obtain rfl : i = n := by omega
        refine (insert_end_room g 0 i c vb 0 1 1 [u] w (by omega) hroom (by have := hcm; unfold maxLen at this; omega) rfl (fun j hj => by rw [Nat.add_assoc]; exact hsome (i + j) (by omega)) (fun j hj => by rw [Nat.add_assoc]; exact hfz _) hvs h1v).mono ?_
        rintro e w' ⟨rfl, rfl⟩
        obtain ⟨cur1, hc1, hs1⟩ := setCells_heap (e := 24) g [u] (0 + i) w cur hh
        refine ⟨_, _, rfl, ?_, by simpa [Value.ownBlock] using setCells_out g [u] (0 + i) w, fun b hb => .inl (by simpa [Value.ownBlock] using hb)⟩
        refine own_of_cells hc1 (Nat.zero_le _) hroom hcm (by rw [hs1]; exact hcs) (by simp; omega) ?_
        intro j v hj
        rcases ins_at hil hj with ⟨hji, hx⟩ | ⟨rfl, rfl⟩ | ⟨hji, hx⟩
        · rw [World.cell?_setCells_out g _ _ _ _ (fun _ _ => by show j < 0 + i ∨ _; omega)]
          have := hcells j v hx
          rw [Nat.zero_add] at this; exact this
        · have := World.cell?_setCells_in g [v] (0 + j) w (fun q hq => by simp at hq; subst hq; rw [Nat.add_zero]; exact hsome j (by omega)) 0 (by simp)
          simpa using this
        · have hk := (List.getElem?_eq_some_iff.1 hx).1
          rw [List.length_drop] at hk; omega
    · have hge := grownCap_ge w (n + 1) c 24
      have hgm := grownCap_le_maxLen w (n + 1) c 24 (by simp [maxLen]; omega)
      by_cases hin : i < n
      · refine (insert_grow g 0 n c i vb 0 1 1 xs [u] w hin (by omega) hnc (by omega) (by omega) hxl rfl hcells hvs h1 h1v).mono ?_
        rintro e w' ⟨rfl, rfl⟩
        have hR := Go.heap_alloc_new w (.cells ((xs.take i).toArray ++ Builtin.zeroCells (Value.slice none 0 0).cells (n + 1 - i) ++ Builtin.zeroCells (Value.slice none 0 0).cells (grownCap w (n + 1) c 24 - (n + 1))) 24)
        have hRs : ((xs.take i).toArray ++ Builtin.zeroCells (Value.slice none 0 0).cells (n + 1 - i) ++ Builtin.zeroCells (Value.slice none 0 0).cells (grownCap w (n + 1) c 24 - (n + 1))).size = grownCap w (n + 1) c 24 := by
          simp only [Array.size_append, size_zeroCells, List.size_toArray, List.length_take, Value.cells]
          simp; omega
        have hRt : ∀ j v, j < i → xs[j]? = some v → ((xs.take i).toArray ++ Builtin.zeroCells (Value.slice none 0 0).cells (n + 1 - i) ++ Builtin.zeroCells (Value.slice none 0 0).cells (grownCap w (n + 1) c 24 - (n + 1)))[j]? = some v := by
          intro j v hj hx
          rw [Array.getElem?_append_left (by simp; omega), Array.getElem?_append_left (by simp; omega)]
          simp [List.getElem?_take, hj, hx]
        generalize ((xs.take i).toArray ++ Builtin.zeroCells (Value.slice none 0 0).cells (n + 1 - i) ++ Builtin.zeroCells (Value.slice none 0 0).cells (grownCap w (n + 1) c 24 - (n + 1))) = ROW at hR hRs hRt ⊢
        have hR2 : ((w.alloc (.cells ROW 24)).drew).heap[w.heap.size]? = some (.cells ROW 24 (0, 0)) := hR
        obtain ⟨cur1, hc1, hs1⟩ := setCells_heap (e := 24) w.heap.size [u] i _ ROW hR2
        have hc1' : (((w.alloc (.cells ROW 24)).drew.setCells w.heap.size i [u]).drew).heap[w.heap.size]? = some (.cells cur1 24 (0, 0)) := hc1
        obtain ⟨cur2, hc2, hs2⟩ := setCells_heap (e := 24) w.heap.size (xs.drop i) (i + 1) _ cur1 hc1'
        have hout : Below w.heap.size w ((((w.alloc (.cells ROW 24)).drew.setCells w.heap.size i [u]).drew).setCells w.heap.size (i + 1) (xs.drop i)) := by
          have h1 : Out [w.heap.size] w ((((w.alloc (.cells ROW 24)).drew.setCells w.heap.size i [u]).drew).setCells w.heap.size (i + 1) (xs.drop i)) :=
            (((Out.of_below (Below.drew (belowA (Below.refl _ w) (.cells ROW 24))) [w.heap.size]).trans (setCells_out w.heap.size [u] i _) (fun b hb _ => hb)).trans (Out.of_below (Below.drew (Below.refl _ _)) [w.heap.size]) (fun b hb _ => hb)).trans (setCells_out w.heap.size (xs.drop i) (i + 1) _) (fun b hb _ => hb)
          exact h1.below (fun b hb => by simp at hb; omega) (Nat.le_refl _)
        refine ⟨_, _, rfl, ?_, Out.of_below hout _, fun b hb => .inr (by simp [Value.ownBlock] at hb; omega)⟩
        refine own_of_cells hc2 (Nat.zero_le _) hge hgm (by rw [hs2, hs1]; exact hRs) (by simp; omega) ?_
        intro j v hj
        have hlen1 : (xs.drop i).length = n - i := by rw [List.length_drop]; omega
        rcases ins_at hil hj with ⟨hji, hx⟩ | ⟨rfl, rfl⟩ | ⟨hji, hx⟩
        · rw [World.cell?_setCells_out _ _ _ _ _ (fun _ _ => by show j < i + 1 ∨ _; omega)]
          show ((w.alloc (.cells ROW 24)).drew.setCells w.heap.size i [u]).cell? _ = _
          rw [World.cell?_setCells_out _ _ _ _ _ (fun _ _ => by show j < i ∨ _; omega)]
          exact (cell_of_row _ _ j _ _ _ hR2).trans (hRt j v hji hx)
        · rw [World.cell?_setCells_out _ _ _ _ _ (fun _ _ => by show j < j + 1 ∨ _; omega)]
          have := World.cell?_setCells_in w.heap.size [v] j ((w.alloc (.cells ROW 24)).drew) (fun q hq => by
            simp at hq; subst hq
            rw [Nat.add_zero, cell_of_row _ _ _ _ _ _ hR2, Array.getElem?_eq_getElem (by omega)]; rfl) 0 (by simp)
          simpa using this
        · have hk : j - (i + 1) < (xs.drop i).length := (List.getElem?_eq_some_iff.1 hx).1
          have := World.cell?_setCells_in w.heap.size (xs.drop i) (i + 1) (((w.alloc (.cells ROW 24)).drew.setCells w.heap.size i [u]).drew) (fun q hq => by
            rw [cell_of_row _ _ _ _ _ _ hc1', Array.getElem?_eq_getElem (by omega)]; rfl) (j - (i + 1)) hk
          rw [show i + 1 + (j - (i + 1)) = j by omega] at this
          rw [this, ← hx, List.getElem?_eq_getElem hk]
      · obtain rfl : i = n := by omega
        refine (insert_end_grow (some ⟨g, 0, none⟩) i c vb 0 1 1 xs [u] w (by omega) hnc (by omega) (by omega) hxl rfl (fun h => by cases h) (fun a ha j v hj => by
          obtain rfl : a = ⟨g, 0, none⟩ := by simpa using ha.symm
          rw [Addr.add_lit]; exact hcells j v hj) hvs h1v).mono ?_
        rintro e w' ⟨rfl, rfl⟩
        refine ⟨_, _, rfl, ?_, Out.of_below (belowA (Below.drew (Below.refl _ _)) _) _, fun b hb => .inr (by simp [Value.ownBlock] at hb; omega)⟩
        refine own_of_cells (Go.heap_alloc_new w.drew _) (Nat.zero_le _) hge hgm ?_ (by simp; omega) ?_
        · simp only [Array.size_append, size_zeroCells, List.size_toArray, List.length_append, List.length_nil, List.length_cons, Value.cells]
          simp; omega
        · intro j v hj
          have hjl : j < (xs ++ [u]).length := by have := (List.getElem?_eq_some_iff.1 hj).1; simp at this ⊢; omega
          refine (cell_of_row _ _ j _ _ _ (Go.heap_alloc_new w.drew _)).trans ?_
          rw [Array.getElem?_append_left (by simpa using hjl)]
          rw [List.take_of_length_le (by omega), List.drop_of_length_le (by omega)] at hj
          simpa using hj
end Go.Proofs.Ytgomfmfaoeojkaa
