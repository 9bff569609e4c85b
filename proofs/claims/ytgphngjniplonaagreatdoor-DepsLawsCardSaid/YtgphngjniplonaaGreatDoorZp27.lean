/- My own texts DgB4, DgB5, DgB6, as far as this claim needs them. -/
import Derived.Test.YtgphngjniplonaaGreatDoorZp26
import Derived.Deep.OwnRows
import Derived.Shelf.Sort.Plain
import Derived.Shelf.Slices.Turned
import Derived.Shelf.Slices.In.SortNone
set_option linter.unusedVariables false
set_option linter.unusedSimpArgs false
set_option maxRecDepth 1000000
set_option maxHeartbeats 16000000
namespace Go.Proofs.YtgphngjniplonaaGreatDoor
open Go.RowKit
theorem edge_ext {x y : GEdge} (ha : x.a = y.a) (hb : x.b = y.b) (hn : x.n = y.n) : x = y := by
  cases x; cases y; simp_all
def cpE : List GEdge → List GEdge
  | [] => []
  | [x] => [x]
  | x :: y :: l => if x = y then cpE (y :: l) else x :: cpE (y :: l)
theorem cpE_snoc : ∀ (l : List GEdge) (y x : GEdge), cpE (l ++ [y] ++ [x]) = if y = x then cpE (l ++ [y]) else cpE (l ++ [y]) ++ [x]
  | [], y, x => by
    show cpE [y, x] = _
    by_cases h : y = x
    · simp [cpE, h]
    · simp [cpE, h]
  | [z], y, x => by
    show cpE [z, y, x] = if y = x then cpE [z, y] else cpE [z, y] ++ [x]
    by_cases h : y = x
    · subst h; by_cases h2 : z = y <;> simp [cpE, h2]
    · by_cases h2 : z = y <;> simp [cpE, h2, h]
  | z :: u :: l, y, x => by
    have ih := cpE_snoc (u :: l) y x
    show cpE (z :: u :: (l ++ [y] ++ [x])) = if y = x then cpE (z :: u :: (l ++ [y])) else cpE (z :: u :: (l ++ [y])) ++ [x]
    replace ih : cpE (u :: (l ++ [y] ++ [x])) = if y = x then cpE (u :: (l ++ [y])) else cpE (u :: (l ++ [y])) ++ [x] := ih
    unfold cpE
    by_cases h : z = u
    · rw [if_pos h, if_pos h]; exact ih
    · rw [if_neg h, if_neg h, ih]
      split <;> rfl
theorem cpE_take {L : List GEdge} {p : Nat} {x y : GEdge} (hx : L[p + 1]? = some x) (hy : L[p]? = some y) : cpE (L.take (p + 2)) = if y = x then cpE (L.take (p + 1)) else cpE (L.take (p + 1)) ++ [x] := by
  have e1 : L.take (p + 1) = L.take p ++ [y] := by rw [List.take_add_one, hy]; rfl
  have e2 : L.take (p + 2) = L.take p ++ [y] ++ [x] := by rw [show p + 2 = p + 1 + 1 from rfl, List.take_add_one, hx, e1]; rfl
  rw [e2, e1]
  exact cpE_snoc _ _ _
def Parted (L : List GEdge) (k : Nat) : Prop := ∀ (i : Nat) (x y : GEdge), i + 1 < k → L[i + 1]? = some x → L[i]? = some y → ¬ y = x
theorem cpE_parted {L : List GEdge} : ∀ {k : Nat}, k ≤ L.length → Parted L k → cpE (L.take k) = L.take k
  | 0, _, _ => by rw [List.take_zero]; rfl
  | 1, h, _ => by
    obtain ⟨x, hx⟩ : ∃ x, L[0]? = some x := ⟨_, List.getElem?_eq_getElem (by omega)⟩
    rw [show (1 : Nat) = 0 + 1 from rfl, List.take_add_one, hx]; rfl
  | k + 2, h, hp => by
    obtain ⟨x, hx⟩ : ∃ x, L[k + 1]? = some x := ⟨_, List.getElem?_eq_getElem (by omega)⟩
    obtain ⟨y, hy⟩ : ∃ y, L[k]? = some y := ⟨_, List.getElem?_eq_getElem (by omega)⟩
    rw [cpE_take hx hy, if_neg (hp k x y (by omega) hx hy), cpE_parted (k := k + 1) (by omega) (fun i a b hi => hp i a b (by omega))]
    rw [show k + 2 = k + 1 + 1 from rfl, List.take_add_one (i := k + 1), hx]; rfl
theorem cpE_mem : ∀ (L : List GEdge) (x : GEdge), x ∈ cpE L → x ∈ L
  | [], _, h => h
  | [y], _, h => h
  | y :: z :: l, x, h => by
    unfold cpE at h
    split at h
    · exact List.mem_cons_of_mem _ (cpE_mem (z :: l) x h)
    · rcases List.mem_cons.1 h with h | h
      · rw [h]; exact List.mem_cons_self ..
      · exact List.mem_cons_of_mem _ (cpE_mem (z :: l) x h)
theorem run_eql_edge (x y : GEdge) (w : World) : (binOp .eql 71 x.v y.v).run Tryz.prog w = .ok (.bool (decide (x = y))) w := by
  rw [run_eql_struct, run_equalIn_agg (ht := by kernel_rfl) (hp := by kernel_rfl)]
  obtain ⟨xa, xb, xn⟩ := x
  obtain ⟨ya, yb, yn⟩ := y
  have e : decide ((⟨xa, xb, xn⟩ : GEdge) = ⟨ya, yb, yn⟩) = (decide (xa = ya) && decide (xb = yb) && decide (xn = yn)) := by
    rw [Bool.eq_iff_iff]; simp [and_assoc]
  rw [e]
  simp [go_sem]
  by_cases h1 : xa = ya <;> by_cases h2 : xb = yb <;> by_cases h3 : xn = yn <;> simp [h1, h2, h3]
theorem run_neq_edge (x y : GEdge) (w : World) : (binOp .neq 71 x.v y.v).run Tryz.prog w = .ok (.bool (!decide (x = y))) w := by
  rw [run_neq_struct, run_equalIn_agg (ht := by kernel_rfl) (hp := by kernel_rfl)]
  obtain ⟨xa, xb, xn⟩ := x
  obtain ⟨ya, yb, yn⟩ := y
  have e : decide ((⟨xa, xb, xn⟩ : GEdge) = ⟨ya, yb, yn⟩) = (decide (xa = ya) && decide (xb = yb) && decide (xn = yn)) := by
    rw [Bool.eq_iff_iff]; simp [and_assoc]
  rw [e]
  simp [go_sem]
  by_cases h1 : xa = ya <;> by_cases h2 : xb = yb <;> by_cases h3 : xn = yn <;> simp [h1, h2, h3]
theorem rowE_cell {w : World} {g t u : Nat} {R : List GEdge} {tl : List Value} (h : w.heap[g]? = some (.cells (R.flatMap GEdge.cells ++ tl).toArray 71 (0, 0))) {x : GEdge} (hx : R[t]? = some x) (hu : u < 3) : w.cell? ⟨g, t * 3 + u, none⟩ = x.cells[u]? := by
  rw [cell_of_row _ _ _ _ _ _ h]
  simpa using flat3_get R tl t u x hx hu
theorem rowE_set {w : World} {g i : Nat} {R : List GEdge} {tl : List Value} (h : w.heap[g]? = some (.cells (R.flatMap GEdge.cells ++ tl).toArray 71 (0, 0))) {x : GEdge} (hi : i < R.length) : (((w.setCell ⟨g, i * 3, none⟩ (.int .i64 x.a)).setCell ⟨g, i * 3 + 1, none⟩ (.int .i64 x.b)).setCell ⟨g, i * 3 + 2, none⟩ (.bool x.n)).heap[g]? = some (.cells ((R.set i x).flatMap GEdge.cells ++ tl).toArray 71 (0, 0)) := by
  rw [set_cell8 (set_cell8 (set_cell8 h))]
  simp only [List.setIfInBounds_toArray]
  rw [flat3_set R tl i x hi]
def CpPost (B : Nat) (L : List GEdge) (w : World) (e : Ending) (w' : World) : Prop := ∃ A' m c', e = .returned (.slice A' m c') ∧ SliceIs Enc.edge w' w'.heap.size A' m c' L ∧ Below B w w' ∧ ∀ b ∈ blkOf A', B ≤ b
theorem compactE_any (B : Nat) (A : Option Addr) (n c : Nat) (L : List GEdge) (w : World) (hB : B ≤ w.heap.size) (hown : w.ownsRow B 71 3 (.slice A n c) n (L.flatMap GEdge.cells)) (hl : L.length = n) (hn : n ≤ 10000) (hok : ∀ x ∈ L, x.ok) :
    Calls Tryz.prog 40 #[.slice A n c] w (CpPost B (cpE L) w) := by
  have mixed : Tryz.prog.follows .mixedOrders = true := by kernel_rfl
  have hsl : SliceIs Enc.edge w w.heap.size A n c L := SliceIs.of_flat (E := Enc.edge) GEdge.cells (fun _ => rfl) hown hl (by simp [reachN]; omega) (fun x hx => ⟨rfl, hok x hx⟩)
  have HSl := Lib.hid hsl
  have HBk : Hid (∀ b ∈ blkOf A, B ≤ b) := fun b hb => (own_blk hown (by rw [← ownBlock_blk A n c] at hb; exact Option.mem_toList.1 hb)).1
  have Hl := Lib.hid hl
  have Hok := Lib.hid hok
  obtain ⟨P, HP⟩ : ∃ P : Ending → World → Prop, Hid (P = CpPost B (cpE L) w) := ⟨_, rfl⟩
  rw [← HP.out]
  have HSame : Hid (Parted L n → ∀ W, Below w.heap.size w W → P (.returned (.slice A n c)) W) := fun hp W hW => by
    rw [HP.out]
    have h1 := cpE_parted (L := L) (k := n) (by omega) hp
    rw [List.take_of_length_le (by omega)] at h1
    refine ⟨A, n, c, rfl, ?_, hW.mono hB, HBk.out⟩
    rw [h1]; exact HSl.out.keep hW
  by_cases hn2 : n < 2
  · have i0 : (n : Int) < 2 := by omega
    have HE := Lib.hid (HSame.out (fun i x y hi => by omega) w (Below.refl _ _))
    clear hown hsl hl hok
    go_enter Tryz.func40, Tryz.ntmps40
    go_wp2_with fail
    first
      | exact HE.out
      | (go_ret; exact HE.out)
  have i0 : ¬ (n : Int) < 2 := by omega
  obtain ⟨hz, hrow⟩ := hown
  rcases hrow with ⟨hv, h0⟩ | ⟨gr, cap, cur, hv, hg, hh, hnc, hcm, hcs, htk⟩
  · omega
  simp only [Value.slice.injEq] at hv
  obtain ⟨rfl, -, rfl⟩ := hv
  have hgl : gr < w.heap.size := (Array.getElem?_eq_some_iff.1 hh).1
  have hR0 : w.heap[gr]? = some (.cells (L.flatMap GEdge.cells ++ cur.toList.drop (n * 3)).toArray 71 (0, 0)) := by
    rw [hh]
    refine congrArg some (congrArg (fun x => Obj.cells x 71 (0, 0)) ?_)
    rw [← htk, List.take_append_drop]
  generalize cur.toList.drop (n * 3) = tl at hR0
  have HR0 := Lib.hid hR0
  have hcm' := Lib.hid hcm
  clear hsl hl hok hz htk hcs hh hR0 hcm
  go_enter Tryz.func40, Tryz.ntmps40
  go_wp2_with fail
  go_loopw [3, 4, 5] (fun vk _ _ wr => ∃ k q : Nat, vk = .int .i64 (k : Int) ∧ k ≤ n ∧ Hid (k = q + 1) ∧ Hid (Parted L k) ∧ Hid (Below w.heap.size w wr)) (fun vk _ _ _ => n - (intOf vk).toNat)
  case atStart => exact ⟨1, 0, by go_num, by omega, rfl, (fun i x y hi => by omega), Below.refl _ _⟩
  case round =>
    obtain ⟨k, q, rfl, hk, Hq, Hp, HB⟩ := hrel
    have k0 : (0 : Int) ≤ (k : Int) := by omega
    by_cases hlt : k < n
    · have k1 : (k : Int) < (n : Int) := by omega
      have g0 : (k : Int) - 1 = (q : Int) := by have := Hq.out; omega
      have g1 : (0 : Int) ≤ (q : Int) := by omega
      have g2 : (q : Int) < (n : Int) := by omega
      obtain ⟨x, hx⟩ : ∃ x, L[k]? = some x := ⟨_, List.getElem?_eq_getElem (by rw [Hl.out]; exact hlt)⟩
      obtain ⟨y, hy⟩ : ∃ y, L[q]? = some y := ⟨_, List.getElem?_eq_getElem (by rw [Hl.out]; omega)⟩
      have hrw := (HB.out.block gr hgl).trans HR0.out
      have x0 : wr.cell? ⟨gr, k * 3, none⟩ = some (.int .i64 x.a) := rowE_cell (u := 0) hrw hx (by omega)
      have x1 : wr.cell? ⟨gr, k * 3 + 1, none⟩ = some (.int .i64 x.b) := rowE_cell (u := 1) hrw hx (by omega)
      have x2 : wr.cell? ⟨gr, k * 3 + 2, none⟩ = some (.bool x.n) := rowE_cell (u := 2) hrw hx (by omega)
      have y0 : wr.cell? ⟨gr, q * 3, none⟩ = some (.int .i64 y.a) := rowE_cell (u := 0) hrw hy (by omega)
      have y1 : wr.cell? ⟨gr, q * 3 + 1, none⟩ = some (.int .i64 y.b) := rowE_cell (u := 1) hrw hy (by omega)
      have y2 : wr.cell? ⟨gr, q * 3 + 2, none⟩ = some (.bool y.n) := rowE_cell (u := 2) hrw hy (by omega)
      have heq : (binOp .eql 71 (.agg #[.int .i64 x.a, .int .i64 x.b, .bool x.n]) (.agg #[.int .i64 y.a, .int .i64 y.b, .bool y.n])).run Tryz.prog wr.drew = .ok (.bool (decide (x = y))) wr.drew := run_eql_edge x y wr.drew
      have HX := Lib.hid hx
      have HY := Lib.hid hy
      have HBd : Hid (Below w.heap.size w wr.drew) := Below.drew HB.out
      have HRd : Hid (wr.drew.heap[gr]? = some (.cells (L.flatMap GEdge.cells ++ tl).toArray 71 (0, 0))) := hrw
      clear hx hy hrw
      by_cases hxy : x = y
      · subst hxy
        clear heq
        go_wp2_with fail
        refine drawnS mixed _ (fun W => W = wr.drew) rfl (by kernel_rfl) rfl rfl ?_
        iterate 9
          apply seqS_op
          · rintro W rfl
            go_wp2_with fail
            exact ⟨rfl, rfl, fun d hd => by cases hd; simp only [List.getElem?_toArray, List.getElem?_cons_succ, List.getElem?_cons_zero]; rfl, rfl⟩
          simp only [Act.put, List.setIfInBounds_toArray, List.set_cons_succ, List.set_cons_zero]
        apply seqS_op (v := .bool true)
        · rintro W rfl
          go_wp2_with fail
          exact ⟨rfl, rfl, fun d hd => by cases hd; simp only [List.getElem?_toArray, List.getElem?_cons_succ, List.getElem?_cons_zero], rfl⟩
        simp only [Act.put, List.setIfInBounds_toArray, List.set_cons_succ, List.set_cons_zero]
        apply seqS_end
        rintro W rfl
        clear x0 x1 x2 y0 y1 y2
        have hcp0 : cpE (L.take (k + 1)) = L.take k := by
          have h1 := cpE_take (L := L) (p := q) (by rw [← Hq.out]; exact HX.out) HY.out
          rw [if_pos rfl, cpE_parted (k := q + 1) (by rw [Hl.out]; omega) (by rw [← Hq.out]; exact Hp.out)] at h1
          rw [Hq.out]; exact h1
        have HC0 := Lib.hid hcp0
        clear hcp0
        have b1 : (k : Int) ≤ (n : Int) := by omega
        have b2 : (n : Int) ≤ (c : Int) := by omega
        have b3 : (k : Int) ≤ (c : Int) := by omega
        obtain ⟨D0, hD0⟩ : ∃ D, D = wr.drew := ⟨_, rfl⟩
        rw [← hD0] at HBd HRd ⊢
        clear hD0
        go_wp2_with fail
        have hkn : k < n := hlt
        have HK0 := Lib.hid k0
        go_loopw [3, 5] (fun vi vq wr => ∃ (i p : Nat) (R : List GEdge), vi = .int .i64 (i : Int) ∧ vq = .int .i64 (p : Int) ∧ 1 ≤ p ∧ k + p ≤ n ∧ i + 1 ≤ k + p ∧ Hid (wr.heap[gr]? = some (.cells (R.flatMap GEdge.cells ++ tl).toArray 71 (0, 0))) ∧ Hid (R.length = n) ∧ Hid (R.take i = cpE (L.take (k + p))) ∧ Hid ((cpE (L.take (k + p))).length = i) ∧ Hid (∀ (t : Nat) (x : GEdge), k + p ≤ t + 1 → L[t]? = some x → R[t]? = some x) ∧ Hid (Below B w wr) ∧ w.heap.size ≤ wr.heap.size) (fun _ vq _ => n - k - (intOf vq).toNat)
        case atStart =>
          refine ⟨k, 1, L, rfl, by go_num, by omega, by omega, by omega, HRd, Hl.out, HC0.out.symm, ?_, (fun t x _ h => h), HBd.out.mono hB, HBd.out.size⟩
          show _ = _
          rw [HC0.out, List.length_take, Hl.out]; omega
        case round =>
          obtain ⟨i, p, R, rfl, rfl, hp1, hpn, hip, HRr, HRl, HRk, HRn, HRh, HBr, hzr⟩ := hrel
          have p0 : (0 : Int) ≤ (p : Int) := by omega
          by_cases hlp : k + p < n
          · have p1 : (p : Int) < ((n - k : Nat) : Int) := by omega
            obtain ⟨r, hr⟩ : ∃ r : Nat, (p : Int) - 1 = (r : Int) := ⟨p - 1, by omega⟩
            have r0 : (0 : Int) ≤ (r : Int) := by omega
            have r1 : (r : Int) < ((n - k : Nat) : Int) := by omega
            have hpr : p = r + 1 := by omega
            obtain ⟨u, hu⟩ : ∃ u, L[k + p]? = some u := ⟨_, List.getElem?_eq_getElem (by rw [Hl.out]; exact hlp)⟩
            obtain ⟨v, hv⟩ : ∃ v, L[k + r]? = some v := ⟨_, List.getElem?_eq_getElem (by rw [Hl.out]; omega)⟩
            have hRu := HRh.out (k + p) u (by omega) hu
            have hRv := HRh.out (k + r) v (by omega) hv
            have e1 : (k + p) * 3 = k * 3 + p * 3 := by omega
            have e2 : (k + r) * 3 = k * 3 + r * 3 := by omega
            have x0 : wr.cell? ⟨gr, k * 3 + p * 3, none⟩ = some (.int .i64 u.a) := by rw [← e1]; exact rowE_cell (u := 0) HRr.out hRu (by omega)
            have x1 : wr.cell? ⟨gr, k * 3 + p * 3 + 1, none⟩ = some (.int .i64 u.b) := by rw [← e1]; exact rowE_cell (u := 1) HRr.out hRu (by omega)
            have x2 : wr.cell? ⟨gr, k * 3 + p * 3 + 2, none⟩ = some (.bool u.n) := by rw [← e1]; exact rowE_cell (u := 2) HRr.out hRu (by omega)
            have y0 : wr.cell? ⟨gr, k * 3 + r * 3, none⟩ = some (.int .i64 v.a) := by rw [← e2]; exact rowE_cell (u := 0) HRr.out hRv (by omega)
            have y1 : wr.cell? ⟨gr, k * 3 + r * 3 + 1, none⟩ = some (.int .i64 v.b) := by rw [← e2]; exact rowE_cell (u := 1) HRr.out hRv (by omega)
            have y2 : wr.cell? ⟨gr, k * 3 + r * 3 + 2, none⟩ = some (.bool v.n) := by rw [← e2]; exact rowE_cell (u := 2) HRr.out hRv (by omega)
            have hne : (binOp .neq 71 (.agg #[.int .i64 u.a, .int .i64 u.b, .bool u.n]) (.agg #[.int .i64 v.a, .int .i64 v.b, .bool v.n])).run Tryz.prog wr.drew = .ok (.bool (!decide (u = v))) wr.drew := run_neq_edge u v wr.drew
            have hcs : cpE (L.take (k + p + 1)) = if v = u then cpE (L.take (k + p)) else cpE (L.take (k + p)) ++ [u] := by
              have h1 := cpE_take (L := L) (p := k + r) (x := u) (y := v) (by rw [show k + r + 1 = k + p by omega]; exact hu) hv
              rw [show k + r + 2 = k + p + 1 by omega, show k + r + 1 = k + p by omega] at h1
              exact h1
            have Hcs := Lib.hid hcs
            have HBd2 : Hid (Below B w wr.drew) := Below.drew HBr.out
            have HRd2 : Hid (wr.drew.heap[gr]? = some (.cells (R.flatMap GEdge.cells ++ tl).toArray 71 (0, 0))) := HRr.out
            have Hpr := Lib.hid hpr
            have HU := Lib.hid hu
            clear hu hv hRu hRv e1 e2 hcs hpr
            by_cases huv : u = v
            · subst huv
              clear hne
              have HC2 : Hid (cpE (L.take (k + (p + 1))) = cpE (L.take (k + p))) := by
                show _ = _
                rw [← Nat.add_assoc, Hcs.out, if_pos rfl]
              have HRk2 : Hid (R.take i = cpE (L.take (k + (p + 1)))) := by show _ = _; rw [HC2.out]; exact HRk.out
              have HRn2 : Hid ((cpE (L.take (k + (p + 1)))).length = i) := by show _ = _; rw [HC2.out]; exact HRn.out
              have HRh2 : Hid (∀ (t : Nat) (x : GEdge), k + (p + 1) ≤ t + 1 → L[t]? = some x → R[t]? = some x) := fun t x ht => HRh.out t x (by omega)
              go_wp2_with fail
              refine drawnS mixed _ (fun W => W = wr.drew) rfl (by kernel_rfl) rfl rfl ?_
              iterate 9
                apply seqS_op
                · rintro W rfl
                  go_wp2_with fail
                  exact ⟨rfl, rfl, fun d hd => by cases hd; simp only [List.getElem?_toArray, List.getElem?_cons_succ, List.getElem?_cons_zero]; rfl, rfl⟩
                simp only [Act.put, List.setIfInBounds_toArray, List.set_cons_succ, List.set_cons_zero]
              apply seqS_op (v := .bool false)
              · rintro W rfl
                go_wp2_with fail
                exact ⟨rfl, rfl, fun d hd => by cases hd; simp only [List.getElem?_toArray, List.getElem?_cons_succ, List.getElem?_cons_zero], rfl⟩
              simp only [Act.put, List.setIfInBounds_toArray, List.set_cons_succ, List.set_cons_zero]
              apply seqS_end
              rintro W rfl
              go_wp2_with fail
              go_roundw
              case rel => exact ⟨i, p + 1, R, rfl, by go_num, by omega, by omega, by omega, HRd2, HRl, HRk2, HRn2, HRh2, HBd2, hzr⟩
              case measure => simp [intOf]; omega
            · clear hne
              have HNE := Lib.hid huv
              have hin : i < n := by omega
              have HC2 : Hid (cpE (L.take (k + (p + 1))) = cpE (L.take (k + p)) ++ [u]) := by
                show _ = _
                rw [← Nat.add_assoc, Hcs.out, if_neg (fun h => huv h.symm)]
              have HRr3 : Hid ((((wr.drew.setCell ⟨gr, i * 3, none⟩ (.int .i64 u.a)).setCell ⟨gr, i * 3 + 1, none⟩ (.int .i64 u.b)).setCell ⟨gr, i * 3 + 2, none⟩ (.bool u.n)).heap[gr]? = some (.cells ((R.set i u).flatMap GEdge.cells ++ tl).toArray 71 (0, 0))) := rowE_set HRd2.out (by rw [HRl.out]; exact hin)
              have HRl3 : Hid ((R.set i u).length = n) := by show _ = _; rw [List.length_set]; exact HRl.out
              have HRk3 : Hid ((R.set i u).take (i + 1) = cpE (L.take (k + (p + 1)))) := by
                show _ = _
                rw [HC2.out, ← HRk.out, List.take_add_one, List.take_set_of_le (by omega), List.getElem?_set_self (by rw [HRl.out]; exact hin)]
                rfl
              have HRn3 : Hid ((cpE (L.take (k + (p + 1)))).length = i + 1) := by show _ = _; rw [HC2.out, List.length_append, HRn.out]; rfl
              have HRh3 : Hid (∀ (t : Nat) (x : GEdge), k + (p + 1) ≤ t + 1 → L[t]? = some x → (R.set i u)[t]? = some x) := fun t x ht hx => by
                rw [List.getElem?_set_ne (by omega)]
                exact HRh.out t x (by omega) hx
              have HB3 : Hid (Below B w (((wr.drew.setCell ⟨gr, i * 3, none⟩ (.int .i64 u.a)).setCell ⟨gr, i * 3 + 1, none⟩ (.int .i64 u.b)).setCell ⟨gr, i * 3 + 2, none⟩ (.bool u.n))) := ((HBd2.out.setCell (show B ≤ gr from hg) _).setCell (show B ≤ gr from hg) _).setCell (show B ≤ gr from hg) _
              have hz3 : w.heap.size ≤ (((wr.drew.setCell ⟨gr, i * 3, none⟩ (.int .i64 u.a)).setCell ⟨gr, i * 3 + 1, none⟩ (.int .i64 u.b)).setCell ⟨gr, i * 3 + 2, none⟩ (.bool u.n)).heap.size := by simpa using hzr
              have hRi : i < R.length := by rw [HRl.out]; exact hin
              have hci := List.getElem?_eq_getElem hRi
              have q0 : wr.cell? ⟨gr, i * 3, none⟩ = some (.int .i64 R[i].a) := rowE_cell (u := 0) HRr.out hci (by omega)
              have q1 : wr.cell? ⟨gr, i * 3 + 1, none⟩ = some (.int .i64 R[i].b) := rowE_cell (u := 1) HRr.out hci (by omega)
              have q2 : wr.cell? ⟨gr, i * 3 + 2, none⟩ = some (.bool R[i].n) := rowE_cell (u := 2) HRr.out hci (by omega)
              have qf : ∀ o, wr.frozen? ⟨gr, o, none⟩ = false := fun o => frozen_of_row _ _ _ _ _ HRr.out
              have qf0 := qf (i * 3)
              have qf1 := qf (i * 3 + 1)
              have qf2 := qf (i * 3 + 2)
              generalize R[i].a = ra at *
              generalize R[i].b = rb at *
              generalize R[i].n = rn at *
              have i5 : (0 : Int) ≤ (i : Int) := by omega
              have i6 : (i : Int) < (n : Int) := by omega
              clear huv hRi hci qf
              go_wp2_with fail
              refine drawnS mixed _ (fun W => W = wr.drew) rfl (by kernel_rfl) rfl rfl ?_
              iterate 9
                apply seqS_op
                · rintro W rfl
                  go_wp2_with fail
                  exact ⟨rfl, rfl, fun d hd => by cases hd; simp only [List.getElem?_toArray, List.getElem?_cons_succ, List.getElem?_cons_zero]; rfl, rfl⟩
                simp only [Act.put, List.setIfInBounds_toArray, List.set_cons_succ, List.set_cons_zero]
              apply seqS_op (v := .bool true)
              · rintro W rfl
                go_wp2_with fail
                all_goals first
                  | exact absurd (edge_ext (by assumption) (by assumption) (by assumption)) HNE.out
                  | exact ⟨rfl, rfl, fun d hd => by (cases hd; simp only [List.getElem?_toArray, List.getElem?_cons_succ, List.getElem?_cons_zero]; done), rfl⟩
              simp only [Act.put, List.setIfInBounds_toArray, List.set_cons_succ, List.set_cons_zero]
              apply seqS_end
              rintro W rfl
              go_wp2_with fail
              go_roundw
              case rel => exact ⟨i + 1, p + 1, R.set i u, by go_num, by go_num, by omega, by omega, by omega, HRr3, HRl3, HRk3, HRn3, HRh3, HB3, hz3⟩
              case measure => simp [intOf]; omega
          · have p1 : ¬ (p : Int) < ((n - k : Nat) : Int) := by omega
            have hkp : k + p = n := by omega
            have hin : i < n := by omega
            have hrw := HRr.out
            obtain ⟨Z, hcl⟩ := run_clear_edges wr 0 gr (i * 3) (n - i) (c - i) (by omega)
              (fun t ht => by
                have h1 : i + t / 3 < R.length := by rw [HRl.out]; omega
                have h2 := rowE_cell (u := t % 3) hrw (List.getElem?_eq_getElem h1) (Nat.mod_lt _ (by omega))
                have e : (i + t / 3) * 3 + t % 3 = i * 3 + t := by omega
                rw [e] at h2
                rw [h2]
                have : t % 3 = 0 ∨ t % 3 = 1 ∨ t % 3 = 2 := by omega
                rcases this with h | h | h <;> rw [h] <;> rfl)
              (fun t _ => frozen_of_row _ _ _ _ _ hrw)
            have hcl2 : ∀ ty, (Builtin.clear_ #[29] ty #[.slice (some ⟨gr, i * 3, none⟩) (n - i) (c - i)]).run Tryz.prog wr = .ok (.tuple #[]) (wr.setCells gr (i * 3) Z) := fun ty => hcl
            have HE : Hid (P (.returned (.slice (some ⟨gr, 0, none⟩) i c)) (wr.setCells gr (i * 3) Z)) := by
              show P _ _
              rw [HP.out]
              have hkept := HRk.out
              have hnum := HRn.out
              rw [hkp, List.take_of_length_le (l := L) (i := n) (by rw [Hl.out]; exact Nat.le_refl _)] at hkept hnum
              have hbl := below_cells B gr hg Z (i * 3) wr
              refine ⟨some ⟨gr, 0, none⟩, i, c, rfl, ⟨hnum, by omega, hcm'.out, by simp [reachN]; omega, .inr ⟨gr, 0, rfl, ?_, fun t x hx => ?_⟩⟩, HBr.out.trans hbl, fun b hb => by simp [blkOf] at hb; subst hb; exact hg⟩
              · have h1 := (Array.getElem?_eq_some_iff.1 hrw).1
                have h2 := hbl.size
                omega
              · have ht : t < i := by have := (List.getElem?_eq_some_iff.1 hx).1; omega
                have hRt : R[t]? = some x := by
                  have h1 : (R.take i)[t]? = some x := by rw [hkept]; exact hx
                  rw [List.getElem?_take_of_lt ht] at h1
                  exact h1
                have hxok : x.ok := Hok.out x (cpE_mem L x (List.mem_of_getElem? hx))
                refine ⟨x.cells, ⟨rfl, hxok⟩, fun u v hv => ?_⟩
                have hu : u < 3 := (List.getElem?_eq_some_iff.1 hv).1
                show World.cell? _ ⟨gr, 0 + t * 3 + u, none⟩ = some v
                rw [Nat.zero_add, World.cell?_setCells_out gr _ (i * 3) wr ⟨gr, t * 3 + u, none⟩ (fun _ _ => .inl (show t * 3 + u < i * 3 by omega)), rowE_cell hrw hRt hu, hv]
            have i5 : (0 : Int) ≤ (i : Int) := by omega
            have i6 : (i : Int) ≤ (n : Int) := by omega
            have i7 : (i : Int) ≤ (c : Int) := by omega
            clear hrw hcl HRr HRk HRn HRh HBr
            go_wp2_with fail
            first
              | exact HE.out
              | (go_ret; exact HE.out)
      · clear heq
        have HNE := Lib.hid hxy
        have Hp2 : Hid (Parted L (k + 1)) := fun i a b hi ha hb => by
          rcases Nat.lt_or_ge (i + 1) k with h | h
          · exact Hp.out i a b h ha hb
          · obtain rfl : i = q := by have := Hq.out; omega
            rw [← Hq.out, HX.out] at ha
            rw [HY.out] at hb
            injection ha with ha; injection hb with hb
            subst ha hb
            exact fun h => hxy h.symm
        have Hq2 : Hid (k + 1 = k + 1) := rfl
        clear hxy
        go_wp2_with fail
        refine drawnS mixed _ (fun W => W = wr.drew) rfl (by kernel_rfl) rfl rfl ?_
        iterate 9
          apply seqS_op
          · rintro W rfl
            go_wp2_with fail
            exact ⟨rfl, rfl, fun d hd => by cases hd; simp only [List.getElem?_toArray, List.getElem?_cons_succ, List.getElem?_cons_zero]; rfl, rfl⟩
          simp only [Act.put, List.setIfInBounds_toArray, List.set_cons_succ, List.set_cons_zero]
        apply seqS_op (v := .bool false)
        · rintro W rfl
          go_wp2_with fail
          all_goals first
            | exact absurd (edge_ext (by assumption) (by assumption) (by assumption)) HNE.out
            | exact ⟨rfl, rfl, fun d hd => by (cases hd; simp only [List.getElem?_toArray, List.getElem?_cons_succ, List.getElem?_cons_zero]; done), rfl⟩
        simp only [Act.put, List.setIfInBounds_toArray, List.set_cons_succ, List.set_cons_zero]
        apply seqS_end
        rintro W rfl
        go_wp2_with fail
        go_roundw
        case rel => exact ⟨k + 1, k, by go_num, by omega, rfl, Hp2, HBd⟩
        case measure => simp [intOf]; omega
    · have k1 : ¬ (k : Int) < (n : Int) := by omega
      obtain rfl : k = n := by omega
      have HE := Lib.hid (HSame.out Hp.out wr HB.out)
      go_wp2_with fail
      first
        | exact HE.out
        | (go_ret; exact HE.out)
end Go.Proofs.YtgphngjniplonaaGreatDoor
namespace Go.Proofs.YtgphngjniplonaaGreatDoor
open Go.RowKit
end Go.Proofs.YtgphngjniplonaaGreatDoor
namespace Go.Proofs.YtgphngjniplonaaGreatDoor
open Go.RowKit
end Go.Proofs.YtgphngjniplonaaGreatDoor

namespace Go.Proofs.YtgphngjniplonaaGreatDoor
open Go.RowKit
section
variable {N : Nat} {has : Nat → Nat → Bool} {a b : Nat}
end
end Go.Proofs.YtgphngjniplonaaGreatDoor
namespace Go.Proofs.YtgphngjniplonaaGreatDoor
open Go.RowKit
end Go.Proofs.YtgphngjniplonaaGreatDoor
namespace Go.Proofs.YtgphngjniplonaaGreatDoor
open Go.RowKit Go.Sort
end Go.Proofs.YtgphngjniplonaaGreatDoor
namespace Go.Proofs.YtgphngjniplonaaGreatDoor
open Go.RowKit
end Go.Proofs.YtgphngjniplonaaGreatDoor
namespace Go.Proofs.YtgphngjniplonaaGreatDoor
open Go.RowKit
end Go.Proofs.YtgphngjniplonaaGreatDoor
namespace Go.Proofs.YtgphngjniplonaaGreatDoor
open Go.RowKit
theorem new1_any (x : GEdge) (n : Int) (g : Nat) (w : World) (hg : w.cell? ⟨g, 0, none⟩ = some (.int .i64 n)) : Calls Tryz.prog 37 #[x.v, .pointer (some ⟨g, 0, none⟩)] w (RetBool (!withinE x n) w) := by
  have c0 := cellA (o := .cells #[.int .i64 x.a, .int .i64 x.b, .bool x.n] 71) hg
  have hbw : Below w.heap.size w (w.alloc (.cells #[.int .i64 x.a, .int .i64 x.b, .bool x.n] 71)) := belowA (Below.refl _ _) _
  have HW := Lib.hid (fun W => withinE_any x n W)
  have HB := Lib.hid hbw
  clear hg hbw
  go_enter Tryz.func37, Tryz.ntmps37
  go_wp2_with fail
  refine (HW.out _).mono ?_
  rintro e w1 ⟨rfl, hb1⟩
  have HE : Hid (Below w.heap.size w w1) := HB.out.trans (hb1.mono HB.out.size)
  clear hb1
  go_wp2_with fail
  go_ret
  exact ⟨by simp, HE.out⟩
theorem indexE3_any (gp : Nat) (p : GEdge → Bool) (A : Option Addr) (n c : Nat) (L : List GEdge) (w : World) (hl : SliceIs Enc.edge w w.heap.size A n c L)
    (hC : ∀ x ∈ L, ∀ W, Below w.heap.size w W → Calls Tryz.prog 37 #[x.v, .pointer (some ⟨gp, 0, none⟩)] W (RetBool (p x) W)) :
    Calls Tryz.prog 65 #[.slice A n c, .func (.func 37) #[] #[.pointer (some ⟨gp, 0, none⟩)]] w (FirstE p L w) := by
  have hn := hl.bound
  have hlen := Lib.hid hl.1
  have HC := Lib.hid hC
  have HL := Lib.hid hl
  clear hC hl
  go_enter Tryz.func65, Tryz.ntmps65
  go_wp2_with fail
  go_loopw [5, 8] (fun _ i wr => ∃ k : Nat, k ≤ n ∧ i = .int .i64 (k : Int) ∧ Hid (∀ y ∈ L.take k, p y = false) ∧ Hid (Below w.heap.size w wr)) (fun _ i _ => n - (intOf i).toNat)
  case atStart => exact ⟨0, by omega, rfl, (fun y hy => by simp at hy), Below.refl _ _⟩
  case round =>
    obtain ⟨k, hk, rfl, Hp, HB⟩ := hrel
    have i0 : (0 : Int) ≤ (k : Int) := by omega
    by_cases hlt : k < n
    · have i1 : (k : Int) < (n : Int) := by omega
      obtain ⟨b, o, x, rfl, -, hx, x0, x1, x2, -⟩ := (HL.out.below HB.out).edge_at hlt
      have HCx := Lib.hid (HC.out x (List.mem_of_getElem? hx.out) wr HB.out)
      cases hm : p x with
      | true =>
        rw [hm] at HCx
        have HE : Hid (∀ w2, Below wr.heap.size wr w2 → FirstE p L w (.returned (.int .i64 (k : Int))) w2) := fun w2 h2 => ⟨HB.out.trans (h2.mono HB.out.size), .inr ⟨k, x, rfl, hx.out, hm, Hp.out⟩⟩
        clear hm hx
        go_wp2_with fail
        refine HCx.out.mono ?_
        rintro e w2 ⟨rfl, hb2⟩
        have HE2 := Lib.hid (HE.out w2 hb2)
        clear hb2
        go_wp2_with fail
        go_ret
        exact HE2.out
      | false =>
        rw [hm] at HCx
        have Hp2 : Hid (∀ y ∈ L.take (k + 1), p y = false) := fun y hy => by
          rw [List.take_add_one, hx.out] at hy
          rcases List.mem_append.1 hy with hy | hy
          · exact Hp.out y hy
          · simp at hy; subst hy; exact hm
        clear hm hx
        go_wp2_with fail
        refine HCx.out.mono ?_
        rintro e w2 ⟨rfl, hb2⟩
        have HB2 : Hid (Below w.heap.size w w2) := HB.out.trans (hb2.mono HB.out.size)
        clear hb2
        go_wp2_with fail
        go_roundw
        case rel => exact ⟨k + 1, by omega, by go_num, Hp2, HB2⟩
        case measure => simp [intOf]; omega
    · have i1 : ¬ (k : Int) < (n : Int) := by omega
      have HE : Hid (FirstE p L w (.returned (.int .i64 (-1))) wr) := ⟨HB.out, .inl ⟨rfl, fun x hx => Hp.out x (by rw [List.take_of_length_le (by have := hlen.out; omega)]; exact hx)⟩⟩
      go_wp2_with fail
      go_ret
      exact HE.out
theorem containsE3_any (gp : Nat) (p : GEdge → Bool) (r : Bool) (A : Option Addr) (n c : Nat) (L : List GEdge) (w : World) (hl : SliceIs Enc.edge w w.heap.size A n c L) (hr : L.any p = r)
    (hC : ∀ x ∈ L, ∀ W, Below w.heap.size w W → Calls Tryz.prog 37 #[x.v, .pointer (some ⟨gp, 0, none⟩)] W (RetBool (p x) W)) :
    Calls Tryz.prog 39 #[.slice A n c, .func (.func 37) #[] #[.pointer (some ⟨gp, 0, none⟩)]] w (RetBool r w) := by
  have HIx := Lib.hid (indexE3_any gp p A n c L w hl hC)
  have HRr : Hid (∀ e w', FirstE p L w e w' → ∃ k : Int, e = .returned (.int .i64 k) ∧ decide (0 ≤ k) = r ∧ Below w.heap.size w w') := by
    rintro e w' ⟨hb, (⟨rfl, hall⟩ | ⟨k, x, rfl, hx, hp, -⟩)⟩
    · refine ⟨_, rfl, ?_, hb⟩
      rw [← hr]
      symm
      rw [show decide ((0 : Int) ≤ -1) = false from rfl, List.any_eq_false]
      exact fun x hx h2 => Bool.false_ne_true ((hall x hx).symm.trans h2)
    · refine ⟨_, rfl, ?_, hb⟩
      rw [← hr]
      symm
      rw [decide_eq_true (show (0 : Int) ≤ (k : Int) by omega), List.any_eq_true]
      exact ⟨x, List.mem_of_getElem? hx, hp⟩
  clear hl hr hC
  go_enter Tryz.func39, Tryz.ntmps39
  go_wp2_with fail
  refine HIx.out.mono ?_
  intro e w4 hh
  obtain ⟨k, rfl, hk, hb4⟩ := HRr.out e w4 hh
  have Hk := Lib.hid hk
  clear hh hk
  go_wp2_with fail
  go_ret
  exact ⟨by rw [← Hk.out]; rfl, hb4⟩
theorem SliceIs.set_other {w : World} {B n c g o : Nat} {A : Option Addr} {L : List GEdge} {val : Value} (h : SliceIs Enc.edge w B A n c L) (hg : ∀ b ∈ blkOf A, b ≠ g) : SliceIs Enc.edge (w.setCell ⟨g, o, none⟩ val) B A n c L := by
  obtain ⟨h1, h2, h3, h4, h5⟩ := h
  refine ⟨h1, h2, h3, h4, ?_⟩
  rcases h5 with h5 | ⟨b, o', rfl, hb, hc⟩
  · exact .inl h5
  · refine .inr ⟨b, o', rfl, hb, fun t x hx => ?_⟩
    obtain ⟨cs, hok, hcell⟩ := hc t x hx
    refine ⟨cs, hok, fun u v hv => ?_⟩
    have hb' := hg b (by simp [blkOf])
    have e : (w.setCell ⟨g, o, none⟩ val).cell? ⟨b, o' + t * Enc.edge.sz + u, none⟩ = w.cell? ⟨b, o' + t * Enc.edge.sz + u, none⟩ := World.cell?_setCell_other _ _ _ _ (fun h => by injection h with h; exact hb' h.symm)
    exact e.trans (hcell u v hv)
def NewPost (n : Int) (L : List GEdge) (w : World) (e : Ending) (w' : World) : Prop :=
  ∃ A k c, e = .returned (.tuple #[graphV n A k c, .nilIface]) ∧ SliceIs Enc.edge w' w'.heap.size A k c L ∧ Below w.heap.size w w' ∧ ∀ b ∈ blkOf A, w.heap.size ≤ b
theorem new_any (n : Int) (A : Option Addr) (m c : Nat) (l : List GEdge) (w : World) (h : SliceIs Enc.edge w w.heap.size A m c l) (hm : m ≤ 10000) (h0 : 0 ≤ n) (h1 : n ≤ 32) (hw : ∀ x ∈ l, withinE x n = true) :
    Calls Tryz.prog 14 #[.int .i64 n, .slice A m c] w (NewPost n (cpE (sortE l)) w) := by
  have i0 : ¬ n < 0 := by omega
  have i1 : ¬ (32 : Int) < n := by omega
  have hbb : Below w.heap.size w ((w.alloc (.cells #[.int .i64 n] 3)).alloc (.cells #[.int .i64 0, .slice none 0 0] 31)) := belowA (belowA (Below.refl _ _) _) _
  have hbx : ((w.alloc (.cells #[.int .i64 n] 3)).alloc (.cells #[.int .i64 0, .slice none 0 0] 31)).heap[w.heap.size]? = some (.cells #[.int .i64 n] 3 (0, 0)) := heapOld (heapNew rfl)
  have hby : ((w.alloc (.cells #[.int .i64 n] 3)).alloc (.cells #[.int .i64 0, .slice none 0 0] 31)).heap[w.heap.size + 1]? = some (.cells #[.int .i64 0, .slice none 0 0] 31 (0, 0)) := heapNew (by simp)
  have hzz : ((w.alloc (.cells #[.int .i64 n] 3)).alloc (.cells #[.int .i64 0, .slice none 0 0] 31)).heap.size = w.heap.size + 2 := by simp
  have HS := Lib.hid h
  have HB0 := Lib.hid hbb
  have HX := Lib.hid hbx
  have HY := Lib.hid hby
  have HZ := Lib.hid hzz
  have hln : l.length = m := h.1
  have Hok : Hid (∀ x ∈ l, x.ok) := fun x hx => by
    obtain ⟨i, hi, rfl⟩ := List.mem_iff_getElem.1 hx
    obtain ⟨b, o, y, -, -, hy, -, -, -, hok⟩ := h.edge_at (i := i) (by omega)
    have : l[i] = y := by have := hy.out; rw [List.getElem?_eq_getElem hi] at this; simpa using this
    rw [this]; exact hok
  have HC := Lib.hid (fun (W : World) (hW : Below ((w.alloc (.cells #[.int .i64 n] 3)).alloc (.cells #[.int .i64 0, .slice none 0 0] 31)).heap.size ((w.alloc (.cells #[.int .i64 n] 3)).alloc (.cells #[.int .i64 0, .slice none 0 0] 31)) W) =>
    containsE3_any w.heap.size (fun x => !withinE x n) false A m c l W (h.mono (hbb.trans (hW.mono hbb.size)).size (hbb.trans (hW.mono hbb.size)).block) (by rw [List.any_eq_false]; intro x hx; rw [hw x hx]; simp) (fun x hx W2 hW2 => new1_any x n w.heap.size W2 ((cell_of_row _ _ 0 _ _ _ ((hW2.block _ (by have := hW.size; simp at this ⊢; omega)).trans ((hW.block _ (by simp; omega)).trans hbx))).trans rfl)))
  clear h hbb hbx hby hzz hw
  go_enter Tryz.func14, Tryz.ntmps14
  go_wp2_with fail
  refine (HC.out _ (Below.refl _ _)).mono ?_
  rintro e w2 ⟨rfl, hb2⟩
  have hqs : Below ((w.alloc (.cells #[.int .i64 n] 3)).alloc (.cells #[.int .i64 0, .slice none 0 0] 31)).heap.size ((w.alloc (.cells #[.int .i64 n] 3)).alloc (.cells #[.int .i64 0, .slice none 0 0] 31)) w2 := hb2
  have hz2 : w.heap.size + 2 ≤ w2.heap.size := by have := hqs.size; rw [HZ.out] at this; exact this
  have HBw2 : Hid (Below w.heap.size w w2) := HB0.out.trans (hqs.mono HB0.out.size)
  have HK : Hid (∀ W, Below w2.heap.size w2 W → W.cell? ⟨w.heap.size, 0, none⟩ = some (.int .i64 n) ∧ W.heap[w.heap.size + 1]? = some (.cells #[.int .i64 0, .slice none 0 0] 31 (0, 0))) := fun W hW =>
    ⟨(cell_of_row _ _ 0 _ _ _ ((hW.block _ (by omega)).trans ((hqs.block _ (by rw [HZ.out]; omega)).trans HX.out))).trans rfl, (hW.block _ (by omega)).trans ((hqs.block _ (by rw [HZ.out]; omega)).trans HY.out)⟩
  have HLs : Hid ((sortE l).length = l.length) := List.length_mergeSort _
  have HOs : Hid (∀ x ∈ sortE l, x.ok) := fun x hx => Hok.out x (List.mem_mergeSort.1 hx)
  have k0 := (HK.out w2 (Below.refl _ _)).1
  have hl0 : l.length ≤ 10000 := by omega
  clear hb2 HC hqs
  go_wp2_with fail
  go_region_held3 (fun W => W.cell? ⟨w.heap.size, 0, none⟩ = some (.int .i64 n))
    (first
      | (refine (HK.out _ ?_).1; (repeat (first | with_reducible exact Below.refl _ _ | with_reducible assumption | with_reducible refine Below.drew ?_)); done)
      | go_keep)
    ((first
      | (go_at_call 42
         refine (values_any A m c _).mono ?_
         rintro e3 w3 ⟨rfl, hw3⟩
         have hq3 : Below w2.heap.size w2 w3 := by rw [hw3]; exact belowA (Below.drew (Below.refl _ _)) _
         have hg3 : w3.heap[w2.heap.size]? = some (.cells #[.slice A m c] 29 (0, 0)) := by rw [hw3]; exact heapNew rfl
         clear hw3)
      | (go_at_call 41
         refine (sortedE_any (w0 := w) HS.out (HBw2.out.trans (hq3.mono HBw2.out.size)) hg3 hm).mono ?_
         rintro e4 w4 ⟨A4, c4, rfl, ho4, hb4⟩
         have hq4 : Below w2.heap.size w2 w4 := hq3.trans (hb4.mono hq3.size))
      | (go_at_call 40
         refine (compactE_any w3.heap.size A4 (sortE l).length c4 (sortE l) w4 hb4.size ho4 rfl (by rw [HLs.out]; exact hl0) HOs.out).mono ?_
         rintro e5 w5 ⟨A5, m5, c5, rfl, hs5, hb5, ha5⟩
         have hq5 : Below w2.heap.size w2 w5 := hq4.trans (hb5.mono hq3.size)
         have f0 : w5.cell? ⟨w.heap.size + 1, 0, none⟩ = some (.int .i64 0) := (cell_of_row _ _ 0 _ _ _ (HK.out w5 hq5).2).trans rfl
         have f1 : w5.cell? ⟨w.heap.size + 1, 1, none⟩ = some (.slice none 0 0) := (cell_of_row _ _ 1 _ _ _ (HK.out w5 hq5).2).trans rfl
         have z0 : w5.frozen? ⟨w.heap.size + 1, 0, none⟩ = false := frozen_of_row _ _ _ _ _ (HK.out w5 hq5).2
         have z1 : w5.frozen? ⟨w.heap.size + 1, 1, none⟩ = false := frozen_of_row _ _ _ _ _ (HK.out w5 hq5).2)))
  have HE : Hid (NewPost n (cpE (sortE l)) w (.returned (.tuple #[graphV n A5 m5 c5, .nilIface])) ((w5.setCell ⟨w.heap.size + 1, 0, none⟩ (.int .i64 n)).setCell ⟨w.heap.size + 1, 1, none⟩ (.slice A5 m5 c5))) := by
    have hz := hq3.size
    have hne : ∀ b ∈ blkOf A5, b ≠ w.heap.size + 1 := fun b hb => by have := ha5 b hb; omega
    refine ⟨A5, m5, c5, rfl, ?_, ?_, fun b hb => by have := ha5 b hb; omega⟩
    rotate_left
    · exact (((HBw2.out.trans (hq5.mono HBw2.out.size)).setCell (show w.heap.size ≤ w.heap.size + 1 by omega) _).setCell (show w.heap.size ≤ w.heap.size + 1 by omega) _)
    have h1 := (hs5.set_other (o := 0) (val := .int .i64 n) hne).set_other (o := 1) (val := .slice A5 m5 c5) hne
    simpa using h1
  have g0 : ((w5.setCell ⟨w.heap.size + 1, 0, none⟩ (.int .i64 n)).setCell ⟨w.heap.size + 1, 1, none⟩ (.slice A5 m5 c5)).cell? ⟨w.heap.size + 1, 0, none⟩ = some (.int .i64 n) := by
    rw [World.cell?_setCell_other _ _ _ _ (by simp)]; exact World.cell?_setCell_same _ _ _ f0
  have g1 : ((w5.setCell ⟨w.heap.size + 1, 0, none⟩ (.int .i64 n)).setCell ⟨w.heap.size + 1, 1, none⟩ (.slice A5 m5 c5)).cell? ⟨w.heap.size + 1, 1, none⟩ = some (.slice A5 m5 c5) :=
    World.cell?_setCell_same _ _ _ ((World.cell?_setCell_other _ _ _ _ (by simp)).trans f1)
  clear hq3 hq4 hq5 hs5 hb5 ha5 ho4 hb4 hg3 f0 f1 z0 z1
  generalize (w5.setCell ⟨w.heap.size + 1, 0, none⟩ (.int .i64 n)).setCell ⟨w.heap.size + 1, 1, none⟩ (.slice A5 m5 c5) = w6 at *
  go_wp2_with fail
  refine bodyPost_ret (v := .tuple #[graphV n A5 m5 c5, .nilIface]) ?_ rfl HE.out
  rw [results_cell_tmp rfl]
  go_simp
end Go.Proofs.YtgphngjniplonaaGreatDoor
namespace Go.Proofs.YtgphngjniplonaaGreatDoor
open Go.RowKit
theorem fits_sm {x : Int} (h : 0 ≤ x ∧ x < 1000000) : fits x := by
  show (Lit.int .i64 x).wf = true
  simp [Lit.wf, IntKind.min, IntKind.max, IntKind.signed, IntKind.bits]; omega
end Go.Proofs.YtgphngjniplonaaGreatDoor

namespace Go.Proofs.YtgphngjniplonaaGreatDoor
open Go.RowKit
end Go.Proofs.YtgphngjniplonaaGreatDoor
namespace Go.Proofs.YtgphngjniplonaaGreatDoor
open Go.RowKit
end Go.Proofs.YtgphngjniplonaaGreatDoor
namespace Go.Proofs.YtgphngjniplonaaGreatDoor
theorem sortE_perm (L : List GEdge) : (sortE L).Perm L := List.mergeSort_perm _ _
theorem sortE_sorted (L : List GEdge) : (sortE L).Pairwise (fun x y => (!lessE y x) = true) := by
  unfold sortE
  apply List.pairwise_mergeSort
  · intro a b c h1 h2
    simp only [Bool.not_eq_true'] at h1 h2 ⊢
    rw [Bool.eq_false_iff]
    intro h3
    cases hab : lessE a b with
    | true => rw [lessE_trans h3 hab] at h2; cases h2
    | false =>
      have := lessE_total hab h1
      subst this
      rw [h3] at h2; cases h2
  · intro a b
    cases h1 : lessE a b with
    | false => simp
    | true =>
      cases h2 : lessE b a with
      | false => simp
      | true => have := lessE_trans h1 h2; rw [lessE_irr] at this; cases this
end Go.Proofs.YtgphngjniplonaaGreatDoor
