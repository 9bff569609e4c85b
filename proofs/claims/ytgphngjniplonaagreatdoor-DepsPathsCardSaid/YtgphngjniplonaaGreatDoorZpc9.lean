/- My own texts DgPa, DgFr, as far as this claim needs them. -/
import Derived.Test.YtgphngjniplonaaGreatDoorZpc8
set_option linter.unusedVariables false
set_option linter.unusedSimpArgs false
set_option maxRecDepth 1000000
set_option maxHeartbeats 16000000
namespace Go.Proofs.YtgphngjniplonaaGreatDoor
open Go.RowKit Go.Shelf
theorem setCells_row {g e : Nat} : ∀ (ys : List Value) (o : Nat) (W : World) (cur : Array Value), W.heap[g]? = some (.cells cur e (0, 0)) → o + ys.length ≤ cur.size →
    ∃ cur' : Array Value, (W.setCells g o ys).heap[g]? = some (.cells cur' e (0, 0)) ∧ cur'.toList = cur.toList.take o ++ ys ++ cur.toList.drop (o + ys.length)
  | [], o, W, cur, h, _ => ⟨cur, h, by simp⟩
  | y :: ys, o, W, cur, h, hl => by
    have h1 : (W.setCell ⟨g, o, none⟩ y).heap[g]? = some (.cells (cur.setIfInBounds o y) e (0, 0)) := by
      simp [World.setCell, Array.getElem?_modify, h]
    simp only [List.length_cons] at hl
    obtain ⟨cur', h2, h3⟩ := setCells_row ys (o + 1) (W.setCell ⟨g, o, none⟩ y) _ h1 (by simp; omega)
    refine ⟨cur', h2, ?_⟩
    rw [h3, Array.toList_setIfInBounds]
    have e1 : (cur.toList.set o y).take (o + 1) = cur.toList.take o ++ [y] := by
      rw [List.take_add_one, List.take_set_of_le (Nat.le_refl _)]
      simp only [List.getElem?_set_self', List.getElem?_eq_getElem (show o < cur.toList.length by simp; omega)]
      rfl
    have e2 : (cur.toList.set o y).drop (o + 1 + ys.length) = cur.toList.drop (o + (y :: ys).length) := by
      rw [List.drop_set_of_lt (by omega)]
      simp only [List.length_cons]
      congr 1
      omega
    rw [e1, e2]
    simp
theorem setCells_out (g : Nat) : ∀ (ys : List Value) (o : Nat) (W : World), Out [g] W (W.setCells g o ys)
  | [], _, _ => Out.refl _ _
  | y :: ys, o, W => (set_out W g o y).trans (setCells_out g ys (o + 1) _) (fun _ hb _ => hb)
theorem own_setCells {W : World} {B e g n cap : Nat} {xs ys : List Value} (h : W.ownsRow B e 1 (.slice (some ⟨g, 0, none⟩) n cap) n xs) (hy : ys.length = n) : (W.setCells g 0 ys).ownsRow B e 1 (.slice (some ⟨g, 0, none⟩) n cap) n ys := by
  refine ⟨by omega, .inr ?_⟩
  rcases h.2 with ⟨h0, -⟩ | ⟨g', cap', cur, hv, h1, h2, h3, h4, h5, h6⟩
  · injection h0 with h0 _ _; cases h0
  · injection hv with e1 _ e2
    injection e1 with e1
    injection e1 with e1 _ _
    subst e1 e2
    obtain ⟨cur', q1, q2⟩ := setCells_row ys 0 W cur h2 (by omega)
    refine ⟨g, cap, cur', rfl, h1, q1, h3, h4, ?_, ?_⟩
    · have := congrArg List.length q2
      simp at this
      omega
    · rw [q2]
      simp only [List.take_zero, List.nil_append]
      exact List.take_left' (by omega)
theorem WS.mem {n : Int} {l : List GEdge} {a : Int} {ps : List (List Nat)} (h : WS n l a ps (ps.length + 1) []) (y : Nat) : y ∈ reachO n l a ↔ y ∈ outs a.toNat ps := by
  have h1 := List.mergeSort_perm (outs a.toNat ps) (fun x y => decide (x ≤ y))
  have h2 := List.pairwise_mergeSort (le := fun (x y : Nat) => decide (x ≤ y)) (by intro a b c h1 h2; simp at *; omega) (by intro a b; simp; omega) (outs a.toNat ps)
  rw [← h.reached h1 (h2.imp (fun hh => by simpa using hh))]
  exact h1.mem_iff
def PathW (n : Int) (l : List GEdge) (a b : Int) (p : List Nat) : Prop :=
  okA n l a ∧ p ≠ [] ∧ IsWay (hasN l) a.toNat p ∧ ((wayEnd a.toNat p : Nat) : Int) = b ∧ 0 ≤ b ∧ b < n ∧ p = greedy n.toNat (hasN l) b.toNat (farN n.toNat (hasN l) a.toNat b.toNat) a.toNat
theorem WS.path {n : Int} {l : List GEdge} {a : Int} {ps : List (List Nat)} (h : WS n l a ps (ps.length + 1) []) {q : List Nat} {y : Nat} (hp : q ++ [y] ∈ ps) : PathW n l a (y : Int) (q ++ [y]) := by
  rcases h with ⟨hk, h⟩ | ⟨hk, rfl, -, -⟩
  · have hk2 := hk
    obtain ⟨N, A, rfl, rfl, hAN, hN, hr⟩ := okA_nat hk
    simp only [Int.toNat_natCast] at *
    have hy : y < N := by have := h.lt _ hp; rwa [last_snoc] at this
    have hw := h.p.way _ hp
    refine ⟨hk2, hw.1, hw.2, by rw [last_snoc], by omega, by omega, ?_⟩
    simp only [Int.toNat_natCast]
    have hf := far_way (hasN_lt hr) hAN hw.1 hw.2 (last_snoc A q y)
    obtain ⟨d, hd⟩ : ∃ d, farN N (hasN l) A y = d + 1 := ⟨farN N (hasN l) A y - 1, by omega⟩
    rw [hd]
    exact path_one (hasN_lt hr) hAN hd h.p (by omega) hp (last_snoc A q y) (fun q' hq' he => h.one q' hq' _ hp (by rw [he, last_snoc]))
  · cases hp
def BackS (A : Nat) (ps : List (List Nat)) (q : List Nat) : Prop := q = [] ∨ (q ∈ ps ∧ wayEnd A q ≠ A)
theorem WS.backs {n : Int} {l : List GEdge} {a : Int} {ps : List (List Nat)} (h : WS n l a ps (ps.length + 1) []) {q : List Nat} {z : Nat} (hp : q ++ [z] ∈ ps) : BackS a.toNat ps q ∧ knGet (fmL a.toNat ps) (z : Int) = some (.int .i64 ((wayEnd a.toNat q : Nat) : Int)) := by
  rcases h with ⟨hk, h⟩ | ⟨hk, rfl, -, -⟩
  · refine ⟨?_, ?_⟩
    · rcases h.p.pre hp with h1 | h1
      · exact .inl h1
      · by_cases h0 : q = []
        · exact .inl h0
        · exact .inr ⟨h1, h.p.inner (by omega) h.one hp h0⟩
    · have := fmL_get h.b.nod hp
      rw [last_snoc, List.dropLast_concat] at this
      exact this
  · cases hp
theorem greedy_len (N : Nat) (has : Nat → Nat → Bool) (b : Nat) : ∀ (d a : Nat), (greedy N has b d a).length ≤ d
  | 0, _ => by simp [greedy]
  | 1, _ => by simp [greedy]
  | d + 2, a => by
    unfold greedy
    split
    · rename_i x _
      have := greedy_len N has b (d + 1) x
      simp only [List.length_cons]
      omega
    · simp
theorem farN_most (N : Nat) (has : Nat → Nat → Bool) (a b : Nat) : farN N has a b ≤ N := by
  unfold farN
  cases hk : (List.range N).find? fun k => stepsN N has a (k + 1) b with
  | none => simp
  | some k =>
    have := List.mem_range.1 (List.mem_of_find?_eq_some hk)
    simp
    omega
theorem PathW.len {n : Int} {l : List GEdge} {a b : Int} {p : List Nat} (h : PathW n l a b p) : p.length ≤ 32 := by
  obtain ⟨hk, -, -, -, -, -, hp⟩ := h
  obtain ⟨N, A, rfl, rfl, hAN, hN, hr⟩ := okA_nat hk
  rw [hp]
  have h1 := greedy_len ((N : Int)).toNat (hasN l) b.toNat (farN ((N : Int)).toNat (hasN l) ((A : Int)).toNat b.toNat) ((A : Int)).toNat
  have h2 := farN_most ((N : Int)).toNat (hasN l) ((A : Int)).toNat b.toNat
  simp only [Int.toNat_natCast] at *
  omega
theorem WS.find {n : Int} {l : List GEdge} {a : Int} {ps : List (List Nat)} (h : WS n l a ps (ps.length + 1) []) {y : Nat} (hy : y ∈ outs a.toNat ps) : ∃ q, q ++ [y] ∈ ps ∧ a = (a.toNat : Int) := by
  rcases h with ⟨hk, h⟩ | ⟨hk, rfl, -, -⟩
  · obtain ⟨p, hp, he⟩ := List.mem_map.1 hy
    have hne := (h.p.way p hp).1
    have hsp := List.dropLast_concat_getLast hne
    obtain ⟨q', z, rfl⟩ : ∃ q' z, p = q' ++ [z] := ⟨_, _, hsp.symm⟩
    rw [last_snoc] at he
    subst he
    have ha := hk.2.1
    exact ⟨q', hp, by omega⟩
  · cases hy
def PathP (n : Int) (l : List GEdge) (a b : Int) (w : World) (e : Ending) (w' : World) : Prop :=
  Below w.heap.size w w' ∧ (((∀ y ∈ reachO n l a, ((y : Nat) : Int) ≠ b) ∧ e = .returned (.tuple #[.slice none 0 0, .bool false])) ∨
    ∃ g c' p, PathW n l a b p ∧ b.toNat ∈ reachO n l a ∧ e = .returned (.tuple #[.slice (some ⟨g, 0, none⟩) (p.length + 1) c', .bool true]) ∧ w'.ownsRow w.heap.size 3 1 (.slice (some ⟨g, 0, none⟩) (p.length + 1) c') (p.length + 1) ((a.toNat :: p).map natC))
theorem path_any (n a b : Int) (A : Option Addr) (m c : Nat) (l : List GEdge) (w : World) (hl : SliceIs Enc.edge w w.heap.size A m c l) : Calls Tryz.prog 23 #[graphV n A m c, .int .i64 a, .int .i64 b] w (PathP n l a b w) := by
  have hb0 : Below w.heap.size w (w.alloc (.cells #[.int .i64 n, .slice A m c] 31)) := belowA (Below.refl _ _) _
  have HW := Lib.hid (walk_any n a A m c l _ (hl.keep hb0))
  have HB0 := Lib.hid hb0
  obtain ⟨P, HP⟩ : ∃ P : Ending → World → Prop, Hid (P = PathP n l a b w) := ⟨_, rfl⟩
  rw [← HP.out]
  clear hl hb0
  go_enter Tryz.func23, Tryz.ntmps23
  go_wp2_with fail
  have hz0 : w.heap.size < (w.alloc (.cells #[.int .i64 n, .slice A m c] 31)).heap.size := by simp
  generalize w.alloc (.cells #[.int .i64 n, .slice A m c] 31) = w1 at *
  refine HW.out.mono ?_
  rintro e w2 ⟨ps, Ao, co, rfl, hws, hmp, -, hb2⟩
  have hB2 : Below w.heap.size w w2 := HB0.out.trans (hb2.mono HB0.out.size)
  have hzb : w1.heap.size + 1 < w2.heap.size := hmp.lt
  generalize w1.heap.size + 1 = bm at *
  have HB2 := Lib.hid hB2
  have HWS := Lib.hid hws
  have HMp := Lib.hid hmp
  clear hb2 hB2 HW hws
  by_cases hin : ∃ y ∈ outs a.toNat ps, ((y : Nat) : Int) = b
  · obtain ⟨y, hy, rfl⟩ := hin
    obtain ⟨q, hq, ha⟩ := HWS.out.find hy
    obtain ⟨hbs, hkn⟩ := HWS.out.backs hq
    have hPW := HWS.out.path hq
    have hlen := hPW.len
    have HPW := Lib.hid hPW
    have hmem : Hid (((y : Nat) : Int).toNat ∈ reachO n l a) := by show _ ∈ _; rw [HWS.out.mem]; simpa using hy
    have hlk := HMp.out.lookup_ok (P := Tryz.prog) Tryz.underlying124 Tryz.underlying3 (z := .int .i64 0) (zero_int w2) ((y : Nat) : Int)
    rw [hkn] at hlk
    have hw3 : (w2.alloc (.cells #[.int .i64 ((y : Nat) : Int)] 3)).heap[w2.heap.size]? = some (.cells #[.int .i64 ((y : Nat) : Int)] 3 (0, 0)) := heapNew rfl
    have hb3 : Below w2.heap.size w2 (w2.alloc (.cells #[.int .i64 ((y : Nat) : Int)] 3)) := belowA (Below.refl _ _) _
    have hlk2 := (HMp.out.alloc (.cells #[.int .i64 ((y : Nat) : Int)] 3)).lookup (P := Tryz.prog) Tryz.underlying124 Tryz.underlying3 (z := .int .i64 0) (zero_int _) ((y : Nat) : Int)
    rw [hkn] at hlk2
    have hown3 : (w2.alloc (.cells #[.int .i64 ((y : Nat) : Int)] 3)).ownsRow w2.heap.size 3 1 (.slice (some ⟨w2.heap.size, 0, none⟩) 1 1) 1 ([y].map natC) :=
      ⟨rfl, .inr ⟨w2.heap.size, 1, _, rfl, Nat.le_refl _, hw3, Nat.le_refl _, by simp [maxLen], rfl, rfl⟩⟩
    obtain ⟨A0, hA0⟩ : ∃ A0, Hid (A0 = a.toNat) := ⟨_, rfl⟩
    have HA : Hid (a = (A0 : Int)) := by show _ = _; rw [hA0.out]; exact ha
    have HLk : Hid (∀ W q' z, Below w2.heap.size w2 W → q' ++ [z] ∈ ps → BackS A0 ps q' ∧ (Instr.lookup 124 (.map (some bm)) (.int .i64 ((z : Nat) : Int)) false).run Tryz.prog W = .ok (.int .i64 ((wayEnd A0 q' : Nat) : Int)) W) := fun W q' z hW hz => by
      obtain ⟨h1, h2⟩ := HWS.out.backs hz
      rw [hA0.out]
      refine ⟨h1, ?_⟩
      have h3 := (HMp.out.below hW HMp.out.lt).lookup (P := Tryz.prog) Tryz.underlying124 Tryz.underlying3 (z := .int .i64 0) (zero_int W) ((z : Nat) : Int)
      rw [h2] at h3
      exact h3
    have HFin : Hid (∀ W g c', Below w.heap.size w W → W.ownsRow w.heap.size 3 1 (.slice (some ⟨g, 0, none⟩) (q.length + 2) c') (q.length + 2) ((A0 :: (q ++ [y])).map natC) → P (.returned (.tuple #[.slice (some ⟨g, 0, none⟩) (q.length + 2) c', .bool true])) W) := fun W g c' h1 h2 => by
      have e : (q ++ [y]).length + 1 = q.length + 2 := by simp
      rw [HP.out]
      refine ⟨h1, .inr ⟨g, c', q ++ [y], HPW.out, hmem.out, by rw [e], ?_⟩⟩
      rw [e, ← hA0.out]
      exact h2
    have hq32 : q.length ≤ 32 := by simp at hlen; omega
    rw [← hA0.out] at hlk hlk2 hbs
    have HB3 := Lib.hid hb3
    have HO3 := Lib.hid hown3
    have HBs := Lib.hid hbs
    obtain ⟨k0, Hk0⟩ : ∃ k0 : Int, Hid (k0 = ((wayEnd A0 q : Nat) : Int)) := ⟨_, rfl⟩
    rw [← Hk0.out] at hlk hlk2
    clear hq hkn hPW hlen hb3 hown3 hbs hw3 hy hmem HPW ha
    go_wp2_with fail
    clear hlk hlk2
    generalize w2.alloc (.cells #[.int .i64 ((y : Nat) : Int)] 3) = w3 at *
    go_loopg [12, 13] q.length (fun gk v12 v13 W => ∃ (g co : Nat) (os q' : List Nat) (kv : Int), gk = q'.length ∧ v12 = .slice (some ⟨g, 0, none⟩) os.length co ∧ v13 = .int .i64 kv ∧ Hid (kv = ((wayEnd A0 q' : Nat) : Int)) ∧ Hid (BackS A0 ps q') ∧ Hid (os ++ (A0 :: q').reverse = (A0 :: (q ++ [y])).reverse) ∧ Hid (W.ownsRow w2.heap.size 3 1 (.slice (some ⟨g, 0, none⟩) os.length co) os.length (os.map natC)) ∧ Hid (Below w2.heap.size w2 W))
    case atStart => exact ⟨w2.heap.size, 1, [y], q, k0, rfl, rfl, rfl, Hk0, HBs, by show _ = _; simp, HO3, HB3⟩
    case round =>
      obtain ⟨g, co, os, q', kv, hgk, rfl, rfl, HKv, HBq, HEq, HOw, HBw⟩ := hrel
      have hle : os.length + (q'.length + 1) = q.length + 2 := by
        have := congrArg List.length HEq.out
        simpa using this
      have hbx : Below wr.heap.size wr (wr.alloc (.cells #[.int .i64 kv] 3)) := belowA (Below.refl _ _) _
      have hzw := HBw.out.size
      obtain ⟨v', X, u1, u2, u3, u4⟩ := run_push_at (P := Tryz.prog) (ty := 0) (wr.alloc (.cells #[.int .i64 kv] 3)) (base := w2.heap.size) (t := 58) Tryz.underlying58 int_info1 rfl (by decide) (own_below HOw.out hbx) wr.heap.size [.int .i64 kv] rfl (heapNew rfl) (by intro u hu; rw [List.mem_singleton.1 hu]; rfl) (by simp only [maxLen]; omega) (by omega) (by simp; omega)
      obtain ⟨A', c', rfl⟩ := own_form u2
      have hA' : ∃ g', A' = some ⟨g', 0, none⟩ := by
        rcases u2.2 with ⟨h0, h1⟩ | ⟨g', cap, cur, hv, -⟩
        · omega
        · injection hv with h0 _ _; exact ⟨g', h0⟩
      obtain ⟨g', rfl⟩ := hA'
      have hkk : (os ++ [wayEnd A0 q']).map natC = os.map natC ++ [.int .i64 kv] := by rw [List.map_append, HKv.out]; rfl
      have HO5 : Hid (X.ownsRow w2.heap.size 3 1 (.slice (some ⟨g', 0, none⟩) (os.length + 1) c') (os.length + 1) ((os ++ [wayEnd A0 q']).map natC)) := by show World.ownsRow _ _ _ _ _ _ _; rw [hkk]; exact u2
      have HB5 : Hid (Below w2.heap.size w2 X) := (HBw.out.trans (hbx.mono hzw)).trans u4
      have HRun : Hid (∀ ty, (Builtin.append_ #[58, 58] ty #[.slice (some ⟨g, 0, none⟩) os.length co, .slice (some ⟨wr.heap.size, 0, none⟩) 1 1]).run Tryz.prog (wr.alloc (.cells #[.int .i64 kv] 3)) = .ok (.slice (some ⟨g', 0, none⟩) (os.length + 1) c') X) := fun _ => u1
      obtain ⟨ol, Hol⟩ : ∃ ol, Hid (ol = os.length) := ⟨_, rfl⟩
      rw [← Hol.out] at HO5 HRun ⊢
      clear u1 u2 u3 u4 hbx hkk
      by_cases hq0 : q' = []
      · have he1 : (kv == a) = true := by
          rw [HKv.out, HA.out, hq0]
          show (((A0 : Nat) : Int) == (A0 : Int)) = true
          simp
        have hEq2 : os ++ [A0] = (A0 :: (q ++ [y])).reverse := by
          have := HEq.out
          rw [hq0] at this
          simpa using this
        have hw0 : wayEnd A0 q' = A0 := by rw [hq0]; rfl
        have hol2 : ol + 1 = q.length + 2 := by rw [Hol.out]; rw [hq0] at hle; simp at hle; omega
        have hO6 := HO5.out
        rw [hw0, hEq2, hol2] at hO6
        have hcells : ∀ j, j < ((A0 :: (q ++ [y])).reverse.map (fun x : Nat => (x : Int))).length → X.cell? ⟨g', 0 + j, none⟩ = some (.int .i64 (((A0 :: (q ++ [y])).reverse.map (fun x : Nat => (x : Int))).getD j 0)) := fun j hj => by
          rcases hO6.2 with ⟨h0, -⟩ | ⟨g2, cap, cur, hv, h1, h2, h3, h4, h5, h6⟩
          · cases h0
          · injection hv with e1 _ _
            injection e1 with e1
            injection e1 with e1 _ _
            subst e1
            rw [Nat.zero_add, cell_of_row _ _ _ _ _ _ h2]
            have hj2 : j < q.length + 2 := by simpa using hj
            have h7 : (cur.toList.take (q.length + 2 * 1))[j]? = ((A0 :: (q ++ [y])).reverse.map natC)[j]? := by
              have := h6
              simp only [Nat.mul_one] at this ⊢
              rw [this]
            simp only [Nat.mul_one] at h7
            rw [List.getElem?_take, if_pos hj2] at h7
            rw [← Array.getElem?_toList, h7, List.getElem?_map, List.getD_eq_getElem?_getD, List.getElem?_map]
            have hj3 : j < (A0 :: (q ++ [y])).reverse.length := by simpa using hj
            rw [List.getElem?_eq_getElem hj3]
            rfl
        have hfro : ∀ j, j < q.length + 2 → X.frozen? ⟨g', 0 + j, none⟩ = false := fun j _ => by
          rcases hO6.2 with ⟨h0, -⟩ | ⟨g2, cap, cur, hv, h1, h2, -⟩
          · cases h0
          · injection hv with e1 _ _
            injection e1 with e1
            injection e1 with e1 _ _
            subst e1
            exact frozen_of_row _ _ _ _ _ h2
        have HRev := Lib.hid (Tryz.slices_Reverse_int_cells g' 0 (q.length + 2) c' ((A0 :: (q ++ [y])).reverse.map (fun x : Nat => (x : Int))) X (by simp) (by omega) hcells hfro)
        have HO6 := Lib.hid hO6
        have HF2 : Hid (∀ (W : World) (k : Nat), W = (X.drewN k).setCells g' 0 ((((A0 :: (q ++ [y])).reverse.map (fun x : Nat => (x : Int))).take (q.length + 2)).reverse.map (Value.int .i64)) → P (.returned (.tuple #[.slice (some ⟨g', 0, none⟩) (q.length + 2) c', .bool true])) W) := fun W k hW => by
          have hys : (((A0 :: (q ++ [y])).reverse.map (fun x : Nat => (x : Int))).take (q.length + 2)).reverse.map (Value.int .i64) = (A0 :: (q ++ [y])).map natC := by
            rw [List.take_of_length_le (by simp), ← List.map_reverse, List.reverse_reverse, List.map_map]
            rfl
          rw [hys] at hW
          have h1 := own_setCells (W := X.drewN k) (ys := (A0 :: (q ++ [y])).map natC) HO6.out (by simp)
          have h2 := setCells_out g' ((A0 :: (q ++ [y])).map natC) 0 (X.drewN k)
          have h3 : Below w2.heap.size w2 (X.drewN k) := HB5.out.trans (below_drewN X k _)
          rw [← hW] at h1 h2
          refine HFin.out W g' c' (HB2.out.trans ((h3.trans (h2.below (fun b hb => ?_) h3.size)).mono HB2.out.size)) ?_
          · simp at hb
            subst hb
            exact (own_blk HO6.out rfl).1
          · refine ⟨h1.1, ?_⟩
            rcases h1.2 with h0 | ⟨g2, cap, cur, hv, h4, h5⟩
            · exact .inl h0
            · exact .inr ⟨g2, cap, cur, hv, Nat.le_trans HB2.out.size h4, h5⟩
        clear hcells hfro hO6 hEq2 hw0 hq0 HEq HBq HKv HO5 HOw HBw
        rw [hol2] at HRun
        go_wp2_with (at_builtin; refine wpList_append_run (o := ⟨some 39, _, _, _, _, _⟩) rfl _ _ _ rfl _ _ rfl rfl (HRun.out _) ?_)
        refine HRev.out.mono ?_
        rintro e w9 ⟨rfl, k9, hw9⟩
        have HE := Lib.hid (HF2.out w9 k9 hw9)
        clear hw9 HF2 HRev HRun HO6
        go_wp2_with fail
        first | exact HE.out | (go_ret; exact HE.out) | (go_ret2; exact HE.out)
      · obtain ⟨q2, z, rfl⟩ : ∃ q2 z, q' = q2 ++ [z] := ⟨_, _, (List.dropLast_concat_getLast hq0).symm⟩
        have hbq : q2 ++ [z] ∈ ps ∧ wayEnd A0 (q2 ++ [z]) ≠ A0 := by
          rcases HBq.out with h | h
          · exact absurd h hq0
          · exact h
        rw [last_snoc] at hbq
        have hkz : kv = ((z : Nat) : Int) := by rw [HKv.out, last_snoc]
        subst hkz
        obtain ⟨hb2, hlk5⟩ := HLk.out X q2 z HB5.out hbq.1
        obtain ⟨k5, Hk5⟩ : ∃ k5 : Int, Hid (k5 = ((wayEnd A0 q2 : Nat) : Int)) := ⟨_, rfl⟩
        rw [← Hk5.out] at hlk5
        have he1 : (((z : Nat) : Int) == a) = false := by
          rw [HA.out, beq_eq_false_iff_ne]
          intro e
          exact hbq.2 (by omega)
        have HB6 := Lib.hid hb2
        have HEq2 : Hid ((os ++ [z]) ++ (A0 :: q2).reverse = (A0 :: (q ++ [y])).reverse) := by
          show _ = _
          rw [← HEq.out]
          simp
        have HO6 : Hid (X.ownsRow w2.heap.size 3 1 (.slice (some ⟨g', 0, none⟩) (os ++ [z]).length c') (os ++ [z]).length ((os ++ [z]).map natC)) := by
          have h := HO5.out
          rw [last_snoc, Hol.out] at h
          show World.ownsRow _ _ _ _ _ _ _
          rw [show (os ++ [z]).length = os.length + 1 by simp]
          exact h
        have hlo : (os ++ [z]).length = ol + 1 := by rw [Hol.out]; simp
        have hgk2 : q2.length < gk := by rw [hgk]; simp
        clear hbq hb2 HEq HBq HKv HO5 HOw HBw hq0 hle
        go_wp2_with (at_builtin; refine wpList_append_run (o := ⟨some 39, _, _, _, _, _⟩) rfl _ _ _ rfl _ _ rfl rfl (HRun.out _) ?_)
        go_roundg q2.length
        case rel => exact ⟨g', c', os ++ [z], q2, k5, rfl, by rw [hlo], rfl, Hk5, HB6, HEq2, HO6, HB5⟩
        case measure => exact hgk2
  · have hno : ∀ y ∈ reachO n l a, ((y : Nat) : Int) ≠ b := fun y hy e => hin ⟨y, (HWS.out.mem y).1 hy, e⟩
    have hlk := HMp.out.lookup_ok (P := Tryz.prog) Tryz.underlying124 Tryz.underlying3 (z := .int .i64 0) (zero_int w2) b
    rw [fmL_not (fun y hy e => hin ⟨y, hy, e⟩)] at hlk
    have HE : Hid (P (.returned (.tuple #[.slice none 0 0, .bool false])) w2) := by
      show P _ _
      rw [HP.out]
      exact ⟨HB2.out, .inl ⟨hno, rfl⟩⟩
    clear hno hin
    go_wp2_with fail
    first | exact HE.out | (go_ret; exact HE.out) | (go_ret2; exact HE.out)
end Go.Proofs.YtgphngjniplonaaGreatDoor

namespace Go.Proofs.YtgphngjniplonaaGreatDoor
open Go.RowKit
open Classical in
noncomputable def farI (N : Nat) (l : List GEdge) (a b : Int) : Nat := if (0 ≤ a ∧ a < (N : Int)) ∧ (0 ≤ b ∧ b < (N : Int)) then farN N (hasN l) a.toNat b.toNat else 0
theorem farI_le (N : Nat) (l : List GEdge) (a b : Int) : farI N l a b ≤ N := by
  unfold farI
  split
  · exact farN_most _ _ _ _
  · omega
theorem refFarO_any (N : Nat) (hN : N ≤ 1000) (A : Option Addr) (m c : Nat) (a b : Int) (hab : ¬ ((0 ≤ a ∧ a < (N : Int)) ∧ (0 ≤ b ∧ b < (N : Int)))) (w : World) :
    Calls Tryz.prog 50 #[.agg #[.int .i64 (N : Int), .slice A m c], .int .i64 a, .int .i64 b] w (RetInt 0 w) := by
  have hmk := run_make_row' (P := Tryz.prog) 156 4 (.bool false) 1 Tryz.underlying156 info_bool rfl .i64 .i64 N (by omega) (by omega) (w.alloc (.cells #[.int .i64 (N : Int), .slice A m c] 35))
  rw [rowB_made] at hmk
  have hyu : undef = Value.tuple #[] := rfl
  have cg0 : (w.alloc (.cells #[.int .i64 (N : Int), .slice A m c] 35)).cell? ⟨w.heap.size, 0, none⟩ = some (.int .i64 (N : Int)) := (cell_of_row _ _ 0 _ _ _ (heapNew (w := w) rfl)).trans rfl
  have cg1 : ((w.alloc (.cells #[.int .i64 (N : Int), .slice A m c] 35)).alloc (.cells (rowB (fun _ => false) N) 4)).cell? ⟨w.heap.size, 0, none⟩ = some (.int .i64 (N : Int)) := cellA cg0
  have HB : Hid (Below w.heap.size w ((w.alloc (.cells #[.int .i64 (N : Int), .slice A m c] 35)).alloc (.cells (rowB (fun _ => false) N) 4))) := belowA (belowA (Below.refl _ _) _) _
  by_cases a0 : a < 0
  · clear hab
    go_enter Tryz.func50, Tryz.ntmps50
    go_wp2_with fail
    go_ret
    exact ⟨rfl, HB.out⟩
  by_cases a1 : (N : Int) ≤ a
  · have a2 : ¬ a < (N : Int) := by omega
    clear hab
    go_enter Tryz.func50, Tryz.ntmps50
    go_wp2_with fail
    go_ret
    exact ⟨rfl, HB.out⟩
  by_cases b0 : b < 0
  · have a2 : a < (N : Int) := by omega
    clear hab
    go_enter Tryz.func50, Tryz.ntmps50
    go_wp2_with fail
    go_ret
    exact ⟨rfl, HB.out⟩
  · have a2 : a < (N : Int) := by omega
    have b1 : (N : Int) ≤ b := by omega
    have b2 : ¬ b < (N : Int) := by omega
    clear hab
    go_enter Tryz.func50, Tryz.ntmps50
    go_wp2_with fail
    go_ret
    exact ⟨rfl, HB.out⟩
theorem refFarI_any (N : Nat) (hN : N ≤ 1000) (A : Option Addr) (m c : Nat) (l : List GEdge) (a b : Int) (w : World) (h : SliceIs Enc.edge w w.heap.size A m c l) :
    Calls Tryz.prog 50 #[.agg #[.int .i64 (N : Int), .slice A m c], .int .i64 a, .int .i64 b] w (RetInt (farI N l a b : Int) w) := by
  unfold farI
  by_cases hab : (0 ≤ a ∧ a < (N : Int)) ∧ (0 ≤ b ∧ b < (N : Int))
  · rw [if_pos hab]
    have := refFar_any N hN A m c l a.toNat b.toNat (by omega) (by omega) w h
    rwa [show ((a.toNat : Nat) : Int) = a by omega, show ((b.toNat : Nat) : Int) = b by omega] at this
  · rw [if_neg hab]
    exact refFarO_any N hN A m c a b hab w
theorem nat_push {W : World} {B : Nat} {A : Option Addr} {k c : Nat} {xs : List Value} (hown : W.ownsRow B 3 1 (.slice A k c) k xs) (q : Int) (hn : k + 1 ≤ 1000000) (hB : B ≤ W.heap.size) :
    ∃ g' c' w', (∀ ty, (Builtin.append_ #[58, 58] ty #[.slice A k c, .slice (some ⟨W.heap.size, 0, none⟩) 1 1]).run Tryz.prog (W.alloc (.cells #[.int .i64 q] 3)) = .ok (.slice (some ⟨g', 0, none⟩) (k + 1) c') w') ∧
      w'.ownsRow B 3 1 (.slice (some ⟨g', 0, none⟩) (k + 1) c') (k + 1) (xs ++ [.int .i64 q]) ∧ Below B W w' := by
  have hbx : Below W.heap.size W (W.alloc (.cells #[.int .i64 q] 3)) := belowA (Below.refl _ _) _
  obtain ⟨v', X, u1, u2, u3, u4⟩ := run_push_at (P := Tryz.prog) (ty := 0) (W.alloc (.cells #[.int .i64 q] 3)) (base := B) (t := 58) Tryz.underlying58 int_info1 rfl (by decide) (own_below hown hbx) W.heap.size [.int .i64 q] rfl (heapNew rfl) (by intro u hu; rw [List.mem_singleton.1 hu]; rfl) (by simp only [maxLen]; omega) (by omega) (by simp; omega)
  obtain ⟨A', c', rfl⟩ := own_form u2
  have hA' : ∃ g', A' = some ⟨g', 0, none⟩ := by
    rcases u2.2 with ⟨h0, h1⟩ | ⟨g', cap, cur, hv, -⟩
    · omega
    · injection hv with h0 _ _; exact ⟨g', h0⟩
  obtain ⟨g', rfl⟩ := hA'
  exact ⟨g', c', X, fun _ => u1, u2, (hbx.mono hB).trans u4⟩
noncomputable def reachR (N : Nat) (l : List GEdge) (a : Int) : List Nat := (List.range N).filter (fun b : Nat => decide (0 < farI N l a (b : Int)))
def RReachedP (N : Nat) (l : List GEdge) (a : Int) (w : World) (e : Ending) (w' : World) : Prop :=
  ∃ A' c', e = .returned (.slice A' (reachR N l a).length c') ∧ w'.ownsRow w.heap.size 3 1 (.slice A' (reachR N l a).length c') (reachR N l a).length ((reachR N l a).map natC) ∧ Below w.heap.size w w'
theorem refReached_any (N : Nat) (hN : N ≤ 1000) (A : Option Addr) (m c : Nat) (l : List GEdge) (a : Int) (w : World) (h : SliceIs Enc.edge w w.heap.size A m c l) :
    Calls Tryz.prog 29 #[.agg #[.int .i64 (N : Int), .slice A m c], .int .i64 a] w (RReachedP N l a w) := by
  have hb0 : Below w.heap.size w (w.alloc (.cells #[.int .i64 (N : Int), .slice A m c] 35)) := belowA (Below.refl _ _) _
  have hr0 : (w.alloc (.cells #[.int .i64 (N : Int), .slice A m c] 35)).heap[w.heap.size]? = some (.cells #[.int .i64 (N : Int), .slice A m c] 35 (0, 0)) := heapNew rfl
  have HF : Hid (∀ W (b : Int), Below w.heap.size w W → Calls Tryz.prog 50 #[.agg #[.int .i64 (N : Int), .slice A m c], .int .i64 a, .int .i64 b] W (RetInt (farI N l a b : Int) W)) := fun W b hW => refFarI_any N hN A m c l a b W (h.keep hW)
  obtain ⟨P, HP⟩ : ∃ P : Ending → World → Prop, Hid (P = RReachedP N l a w) := ⟨_, rfl⟩
  rw [← HP.out]
  have HB0 := Lib.hid hb0
  have HR0 := Lib.hid hr0
  clear h hb0 hr0
  go_enter Tryz.func29, Tryz.ntmps29
  go_wp2_with fail
  have hz0 : w.heap.size < (w.alloc (.cells #[.int .i64 (N : Int), .slice A m c] 35)).heap.size := by simp
  generalize w.alloc (.cells #[.int .i64 (N : Int), .slice A m c] 35) = w1 at *
  go_loopw [5, 6] (fun v i wr => ∃ (k : Nat) (Ao : Option Addr) (co kl : Nat), k ≤ N ∧ i = .int .i64 (k : Int) ∧ v = .slice Ao kl co ∧ kl ≤ k ∧ Hid (kl = ((List.range k).filter (fun b : Nat => decide (0 < farI N l a (b : Int)))).length) ∧ Hid (wr.ownsRow w1.heap.size 3 1 (.slice Ao kl co) kl (((List.range k).filter (fun b : Nat => decide (0 < farI N l a (b : Int)))).map natC)) ∧ Hid (Below w1.heap.size w1 wr)) (fun _ i _ => N - (intOf i).toNat)
  case atStart => exact ⟨0, none, 0, 0, by omega, rfl, rfl, by omega, rfl, World.ownsRow_nil _ _ _ _, Below.refl _ _⟩
  case round =>
    obtain ⟨k, Ao, co, kl, hk, rfl, rfl, hkl, HKl, HOw, HB⟩ := hrel
    have i0 : (0 : Int) ≤ (k : Int) := by omega
    have hzw := HB.out.size
    have hrw := (HB.out.block _ hz0).trans HR0.out
    have c0 : wr.cell? ⟨w.heap.size, 0, none⟩ = some (.int .i64 (N : Int)) := (cell_of_row _ _ 0 _ _ _ hrw).trans rfl
    have c1 : wr.cell? ⟨w.heap.size, 1, none⟩ = some (.slice A m c) := (cell_of_row _ _ 1 _ _ _ hrw).trans rfl
    clear hrw
    by_cases hlt : k < N
    · have i1 : (k : Int) < (N : Int) := by omega
      have HC := Lib.hid (HF.out wr (k : Int) (HB0.out.trans (HB.out.mono HB0.out.size)))
      obtain ⟨fa, Hfa⟩ : ∃ fa : Nat, Hid (fa = farI N l a (k : Int)) := ⟨_, rfl⟩
      rw [← Hfa.out] at HC
      go_wp2_with fail
      refine HC.out.mono ?_
      rintro e w3 ⟨rfl, hb3⟩
      have hO3 := own_below HOw.out hb3
      have hB3 : Below w1.heap.size w1 w3 := HB.out.trans (hb3.mono hzw)
      clear c0 c1 HC
      by_cases hf : 0 < fa
      · have j1 : (0 : Int) < (fa : Int) := by omega
        obtain ⟨g', c', X, u1, u2, u4⟩ := nat_push hO3 (k : Int) (by omega) hB3.size
        have hstep : (List.range (k + 1)).filter (fun b : Nat => decide (0 < farI N l a (b : Int))) = (List.range k).filter (fun b : Nat => decide (0 < farI N l a (b : Int))) ++ [k] := by
          rw [List.range_succ, List.filter_append]
          simp [← Hfa.out, hf]
        have HRun := Lib.hid u1
        have HO5 : Hid (X.ownsRow w1.heap.size 3 1 (.slice (some ⟨g', 0, none⟩) (kl + 1) c') (kl + 1) (((List.range (k + 1)).filter (fun b : Nat => decide (0 < farI N l a (b : Int)))).map natC)) := by
          show World.ownsRow _ _ _ _ _ _ _
          rw [hstep, List.map_append]
          exact u2
        have HK5 : Hid (kl + 1 = ((List.range (k + 1)).filter (fun b : Nat => decide (0 < farI N l a (b : Int)))).length) := by show _ = _; rw [hstep, List.length_append, ← HKl.out]; rfl
        have HB5 : Hid (Below w1.heap.size w1 X) := hB3.trans u4
        clear u1 u2 u4 hb3 hO3 hB3 hstep
        go_wp2_with (at_builtin; refine wpList_append_run (o := ⟨some 21, _, _, _, _, _⟩) rfl _ _ _ rfl _ _ rfl rfl (HRun.out _) ?_)
        go_roundw
        case rel => exact ⟨k + 1, some ⟨g', 0, none⟩, c', kl + 1, by omega, by go_num, rfl, by omega, HK5, HO5, HB5⟩
        case measure => simp [intOf]; omega
      · have j1 : ¬ (0 : Int) < (fa : Int) := by omega
        have hstep : (List.range (k + 1)).filter (fun b : Nat => decide (0 < farI N l a (b : Int))) = (List.range k).filter (fun b : Nat => decide (0 < farI N l a (b : Int))) := by
          rw [List.range_succ, List.filter_append]
          simp [← Hfa.out, hf]
        have HO5 : Hid (w3.ownsRow w1.heap.size 3 1 (.slice Ao kl co) kl (((List.range (k + 1)).filter (fun b : Nat => decide (0 < farI N l a (b : Int)))).map natC)) := by show World.ownsRow _ _ _ _ _ _ _; rw [hstep]; exact hO3
        have HK5 : Hid (kl = ((List.range (k + 1)).filter (fun b : Nat => decide (0 < farI N l a (b : Int)))).length) := by show _ = _; rw [hstep]; exact HKl.out
        have HB5 : Hid (Below w1.heap.size w1 w3) := hB3
        clear hb3 hO3 hB3 hstep
        go_wp2_with fail
        go_roundw
        case rel => exact ⟨k + 1, Ao, co, kl, by omega, by go_num, rfl, by omega, HK5, HO5, HB5⟩
        case measure => simp [intOf]; omega
    · have i1 : ¬ (k : Int) < (N : Int) := by omega
      obtain rfl : k = N := by omega
      have HE : Hid (P (.returned (.slice Ao kl co)) wr) := by
        show P _ _
        rw [HP.out]
        refine ⟨Ao, co, ?_, ?_, HB0.out.trans (HB.out.mono HB0.out.size)⟩
        · show _ = Ending.returned (.slice Ao (reachR k l a).length co)
          unfold reachR
          rw [← HKl.out]
        · have h := HOw.out
          unfold reachR
          rw [← HKl.out]
          refine ⟨h.1, ?_⟩
          rcases h.2 with h0 | ⟨g, cap, cur, hv, h4, h5⟩
          · exact .inl h0
          · exact .inr ⟨g, cap, cur, hv, by omega, h5⟩
      clear HOw HKl
      go_wp2_with fail
      first | exact HE.out | (go_ret; exact HE.out)
end Go.Proofs.YtgphngjniplonaaGreatDoor
