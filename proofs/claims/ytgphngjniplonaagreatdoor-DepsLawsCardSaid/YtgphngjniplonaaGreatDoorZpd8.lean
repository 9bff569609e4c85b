/- My own texts DgPa, DgFr, DgRp, DgPp, DgPq, MapP, as far as this claim needs them. -/
import Derived.Test.YtgphngjniplonaaGreatDoorZpd7
import Derived.WideKeyPair
import Derived.WideKeyEntry
set_option linter.unusedVariables false
set_option linter.unusedSimpArgs false
set_option maxRecDepth 1000000
set_option maxHeartbeats 16000000
namespace Go.Proofs.YtgphngjniplonaaGreatDoor
open Go.RowKit Go.Shelf
theorem setCells_row {g e : Nat} : ∀ (ys : List Value) (o : Nat) (W : World) (cur : Array Value), W.heap[g]? = some (.cells cur e (0, 0)) → o + ys.length ≤ cur.size →
    ∃ cur' : Array Value, (W.setCells g o ys).heap[g]? = some (.cells cur' e (0, 0)) ∧ cur'.toList = cur.toList.take o ++ ys ++ cur.toList.drop (o + ys.length)
  | [], o, W, cur, h, _ => ⟨cur, h, by simp⟩
  | y :: ys, o, W, cur, h, hl => by
    have h1 : (W.setCell ⟨g, o, none⟩ y).heap[g]? = some (.cells (cur.setIfInBounds o y) e (0, 0)) := by
      simp [World.setCell, Array.getElem?_modify, h]
    simp only [List.length_cons] at hl
    obtain ⟨cur', h2, h3⟩ := setCells_row ys (o + 1) (W.setCell ⟨g, o, none⟩ y) _ h1 (by simp; omega)
    refine ⟨cur', h2, ?_⟩
    rw [h3, Array.toList_setIfInBounds]
    have e1 : (cur.toList.set o y).take (o + 1) = cur.toList.take o ++ [y] := by
      rw [List.take_add_one, List.take_set_of_le (Nat.le_refl _)]
      simp only [List.getElem?_set_self', List.getElem?_eq_getElem (show o < cur.toList.length by simp; omega)]
      rfl
    have e2 : (cur.toList.set o y).drop (o + 1 + ys.length) = cur.toList.drop (o + (y :: ys).length) := by
      rw [List.drop_set_of_lt (by omega)]
      simp only [List.length_cons]
      congr 1
      omega
    rw [e1, e2]
    simp
theorem setCells_out (g : Nat) : ∀ (ys : List Value) (o : Nat) (W : World), Out [g] W (W.setCells g o ys)
  | [], _, _ => Out.refl _ _
  | y :: ys, o, W => (set_out W g o y).trans (setCells_out g ys (o + 1) _) (fun _ hb _ => hb)
theorem own_setCells {W : World} {B e g n cap : Nat} {xs ys : List Value} (h : W.ownsRow B e 1 (.slice (some ⟨g, 0, none⟩) n cap) n xs) (hy : ys.length = n) : (W.setCells g 0 ys).ownsRow B e 1 (.slice (some ⟨g, 0, none⟩) n cap) n ys := by
  refine ⟨by omega, .inr ?_⟩
  rcases h.2 with ⟨h0, -⟩ | ⟨g', cap', cur, hv, h1, h2, h3, h4, h5, h6⟩
  · injection h0 with h0 _ _; cases h0
  · injection hv with e1 _ e2
    injection e1 with e1
    injection e1 with e1 _ _
    subst e1 e2
    obtain ⟨cur', q1, q2⟩ := setCells_row ys 0 W cur h2 (by omega)
    refine ⟨g, cap, cur', rfl, h1, q1, h3, h4, ?_, ?_⟩
    · have := congrArg List.length q2
      simp at this
      omega
    · rw [q2]
      simp only [List.take_zero, List.nil_append]
      exact List.take_left' (by omega)
theorem WS.mem {n : Int} {l : List GEdge} {a : Int} {ps : List (List Nat)} (h : WS n l a ps (ps.length + 1) []) (y : Nat) : y ∈ reachO n l a ↔ y ∈ outs a.toNat ps := by
  have h1 := List.mergeSort_perm (outs a.toNat ps) (fun x y => decide (x ≤ y))
  have h2 := List.pairwise_mergeSort (le := fun (x y : Nat) => decide (x ≤ y)) (by intro a b c h1 h2; simp at *; omega) (by intro a b; simp; omega) (outs a.toNat ps)
  rw [← h.reached h1 (h2.imp (fun hh => by simpa using hh))]
  exact h1.mem_iff
def PathW (n : Int) (l : List GEdge) (a b : Int) (p : List Nat) : Prop :=
  okA n l a ∧ p ≠ [] ∧ IsWay (hasN l) a.toNat p ∧ ((wayEnd a.toNat p : Nat) : Int) = b ∧ 0 ≤ b ∧ b < n ∧ p = greedy n.toNat (hasN l) b.toNat (farN n.toNat (hasN l) a.toNat b.toNat) a.toNat
theorem WS.path {n : Int} {l : List GEdge} {a : Int} {ps : List (List Nat)} (h : WS n l a ps (ps.length + 1) []) {q : List Nat} {y : Nat} (hp : q ++ [y] ∈ ps) : PathW n l a (y : Int) (q ++ [y]) := by
  rcases h with ⟨hk, h⟩ | ⟨hk, rfl, -, -⟩
  · have hk2 := hk
    obtain ⟨N, A, rfl, rfl, hAN, hN, hr⟩ := okA_nat hk
    simp only [Int.toNat_natCast] at *
    have hy : y < N := by have := h.lt _ hp; rwa [last_snoc] at this
    have hw := h.p.way _ hp
    refine ⟨hk2, hw.1, hw.2, by rw [last_snoc], by omega, by omega, ?_⟩
    simp only [Int.toNat_natCast]
    have hf := far_way (hasN_lt hr) hAN hw.1 hw.2 (last_snoc A q y)
    obtain ⟨d, hd⟩ : ∃ d, farN N (hasN l) A y = d + 1 := ⟨farN N (hasN l) A y - 1, by omega⟩
    rw [hd]
    exact path_one (hasN_lt hr) hAN hd h.p (by omega) hp (last_snoc A q y) (fun q' hq' he => h.one q' hq' _ hp (by rw [he, last_snoc]))
  · cases hp
def BackS (A : Nat) (ps : List (List Nat)) (q : List Nat) : Prop := q = [] ∨ (q ∈ ps ∧ wayEnd A q ≠ A)
theorem WS.backs {n : Int} {l : List GEdge} {a : Int} {ps : List (List Nat)} (h : WS n l a ps (ps.length + 1) []) {q : List Nat} {z : Nat} (hp : q ++ [z] ∈ ps) : BackS a.toNat ps q ∧ knGet (fmL a.toNat ps) (z : Int) = some (.int .i64 ((wayEnd a.toNat q : Nat) : Int)) := by
  rcases h with ⟨hk, h⟩ | ⟨hk, rfl, -, -⟩
  · refine ⟨?_, ?_⟩
    · rcases h.p.pre hp with h1 | h1
      · exact .inl h1
      · by_cases h0 : q = []
        · exact .inl h0
        · exact .inr ⟨h1, h.p.inner (by omega) h.one hp h0⟩
    · have := fmL_get h.b.nod hp
      rw [last_snoc, List.dropLast_concat] at this
      exact this
  · cases hp
theorem greedy_len (N : Nat) (has : Nat → Nat → Bool) (b : Nat) : ∀ (d a : Nat), (greedy N has b d a).length ≤ d
  | 0, _ => by simp [greedy]
  | 1, _ => by simp [greedy]
  | d + 2, a => by
    unfold greedy
    split
    · rename_i x _
      have := greedy_len N has b (d + 1) x
      simp only [List.length_cons]
      omega
    · simp
theorem farN_most (N : Nat) (has : Nat → Nat → Bool) (a b : Nat) : farN N has a b ≤ N := by
  unfold farN
  cases hk : (List.range N).find? fun k => stepsN N has a (k + 1) b with
  | none => simp
  | some k =>
    have := List.mem_range.1 (List.mem_of_find?_eq_some hk)
    simp
    omega
theorem PathW.len {n : Int} {l : List GEdge} {a b : Int} {p : List Nat} (h : PathW n l a b p) : p.length ≤ 32 := by
  obtain ⟨hk, -, -, -, -, -, hp⟩ := h
  obtain ⟨N, A, rfl, rfl, hAN, hN, hr⟩ := okA_nat hk
  rw [hp]
  have h1 := greedy_len ((N : Int)).toNat (hasN l) b.toNat (farN ((N : Int)).toNat (hasN l) ((A : Int)).toNat b.toNat) ((A : Int)).toNat
  have h2 := farN_most ((N : Int)).toNat (hasN l) ((A : Int)).toNat b.toNat
  simp only [Int.toNat_natCast] at *
  omega
theorem WS.find {n : Int} {l : List GEdge} {a : Int} {ps : List (List Nat)} (h : WS n l a ps (ps.length + 1) []) {y : Nat} (hy : y ∈ outs a.toNat ps) : ∃ q, q ++ [y] ∈ ps ∧ a = (a.toNat : Int) := by
  rcases h with ⟨hk, h⟩ | ⟨hk, rfl, -, -⟩
  · obtain ⟨p, hp, he⟩ := List.mem_map.1 hy
    have hne := (h.p.way p hp).1
    have hsp := List.dropLast_concat_getLast hne
    obtain ⟨q', z, rfl⟩ : ∃ q' z, p = q' ++ [z] := ⟨_, _, hsp.symm⟩
    rw [last_snoc] at he
    subst he
    have ha := hk.2.1
    exact ⟨q', hp, by omega⟩
  · cases hy
def PathP (n : Int) (l : List GEdge) (a b : Int) (w : World) (e : Ending) (w' : World) : Prop :=
  Below w.heap.size w w' ∧ (((∀ y ∈ reachO n l a, ((y : Nat) : Int) ≠ b) ∧ e = .returned (.tuple #[.slice none 0 0, .bool false])) ∨
    ∃ g c' p, PathW n l a b p ∧ b.toNat ∈ reachO n l a ∧ e = .returned (.tuple #[.slice (some ⟨g, 0, none⟩) (p.length + 1) c', .bool true]) ∧ w'.ownsRow w.heap.size 3 1 (.slice (some ⟨g, 0, none⟩) (p.length + 1) c') (p.length + 1) ((a.toNat :: p).map natC))
theorem path_any (n a b : Int) (A : Option Addr) (m c : Nat) (l : List GEdge) (w : World) (hl : SliceIs Enc.edge w w.heap.size A m c l) : Calls Tryz.prog 23 #[graphV n A m c, .int .i64 a, .int .i64 b] w (PathP n l a b w) := by
  have hb0 : Below w.heap.size w (w.alloc (.cells #[.int .i64 n, .slice A m c] 31)) := belowA (Below.refl _ _) _
  have HW := Lib.hid (walk_any n a A m c l _ (hl.keep hb0))
  have HB0 := Lib.hid hb0
  obtain ⟨P, HP⟩ : ∃ P : Ending → World → Prop, Hid (P = PathP n l a b w) := ⟨_, rfl⟩
  rw [← HP.out]
  clear hl hb0
  go_enter Tryz.func23, Tryz.ntmps23
  go_wp2_with fail
  have hz0 : w.heap.size < (w.alloc (.cells #[.int .i64 n, .slice A m c] 31)).heap.size := by simp
  generalize w.alloc (.cells #[.int .i64 n, .slice A m c] 31) = w1 at *
  refine HW.out.mono ?_
  rintro e w2 ⟨ps, Ao, co, rfl, hws, hmp, -, hb2⟩
  have hB2 : Below w.heap.size w w2 := HB0.out.trans (hb2.mono HB0.out.size)
  have hzb : w1.heap.size + 1 < w2.heap.size := hmp.lt
  generalize w1.heap.size + 1 = bm at *
  have HB2 := Lib.hid hB2
  have HWS := Lib.hid hws
  have HMp := Lib.hid hmp
  clear hb2 hB2 HW hws
  by_cases hin : ∃ y ∈ outs a.toNat ps, ((y : Nat) : Int) = b
  · obtain ⟨y, hy, rfl⟩ := hin
    obtain ⟨q, hq, ha⟩ := HWS.out.find hy
    obtain ⟨hbs, hkn⟩ := HWS.out.backs hq
    have hPW := HWS.out.path hq
    have hlen := hPW.len
    have HPW := Lib.hid hPW
    have hmem : Hid (((y : Nat) : Int).toNat ∈ reachO n l a) := by show _ ∈ _; rw [HWS.out.mem]; simpa using hy
    have hlk := HMp.out.lookup_ok (P := Tryz.prog) Tryz.underlying124 Tryz.underlying3 (z := .int .i64 0) (zero_int w2) ((y : Nat) : Int)
    rw [hkn] at hlk
    have hw3 : (w2.alloc (.cells #[.int .i64 ((y : Nat) : Int)] 3)).heap[w2.heap.size]? = some (.cells #[.int .i64 ((y : Nat) : Int)] 3 (0, 0)) := heapNew rfl
    have hb3 : Below w2.heap.size w2 (w2.alloc (.cells #[.int .i64 ((y : Nat) : Int)] 3)) := belowA (Below.refl _ _) _
    have hlk2 := (HMp.out.alloc (.cells #[.int .i64 ((y : Nat) : Int)] 3)).lookup (P := Tryz.prog) Tryz.underlying124 Tryz.underlying3 (z := .int .i64 0) (zero_int _) ((y : Nat) : Int)
    rw [hkn] at hlk2
    have hown3 : (w2.alloc (.cells #[.int .i64 ((y : Nat) : Int)] 3)).ownsRow w2.heap.size 3 1 (.slice (some ⟨w2.heap.size, 0, none⟩) 1 1) 1 ([y].map natC) :=
      ⟨rfl, .inr ⟨w2.heap.size, 1, _, rfl, Nat.le_refl _, hw3, Nat.le_refl _, by simp [maxLen], rfl, rfl⟩⟩
    obtain ⟨A0, hA0⟩ : ∃ A0, Hid (A0 = a.toNat) := ⟨_, rfl⟩
    have HA : Hid (a = (A0 : Int)) := by show _ = _; rw [hA0.out]; exact ha
    have HLk : Hid (∀ W q' z, Below w2.heap.size w2 W → q' ++ [z] ∈ ps → BackS A0 ps q' ∧ (Instr.lookup 124 (.map (some bm)) (.int .i64 ((z : Nat) : Int)) false).run Tryz.prog W = .ok (.int .i64 ((wayEnd A0 q' : Nat) : Int)) W) := fun W q' z hW hz => by
      obtain ⟨h1, h2⟩ := HWS.out.backs hz
      rw [hA0.out]
      refine ⟨h1, ?_⟩
      have h3 := (HMp.out.below hW HMp.out.lt).lookup (P := Tryz.prog) Tryz.underlying124 Tryz.underlying3 (z := .int .i64 0) (zero_int W) ((z : Nat) : Int)
      rw [h2] at h3
      exact h3
    have HFin : Hid (∀ W g c', Below w.heap.size w W → W.ownsRow w.heap.size 3 1 (.slice (some ⟨g, 0, none⟩) (q.length + 2) c') (q.length + 2) ((A0 :: (q ++ [y])).map natC) → P (.returned (.tuple #[.slice (some ⟨g, 0, none⟩) (q.length + 2) c', .bool true])) W) := fun W g c' h1 h2 => by
      have e : (q ++ [y]).length + 1 = q.length + 2 := by simp
      rw [HP.out]
      refine ⟨h1, .inr ⟨g, c', q ++ [y], HPW.out, hmem.out, by rw [e], ?_⟩⟩
      rw [e, ← hA0.out]
      exact h2
    have hq32 : q.length ≤ 32 := by simp at hlen; omega
    rw [← hA0.out] at hlk hlk2 hbs
    have HB3 := Lib.hid hb3
    have HO3 := Lib.hid hown3
    have HBs := Lib.hid hbs
    obtain ⟨k0, Hk0⟩ : ∃ k0 : Int, Hid (k0 = ((wayEnd A0 q : Nat) : Int)) := ⟨_, rfl⟩
    rw [← Hk0.out] at hlk hlk2
    clear hq hkn hPW hlen hb3 hown3 hbs hw3 hy hmem HPW ha
    go_wp2_with fail
    clear hlk hlk2
    generalize w2.alloc (.cells #[.int .i64 ((y : Nat) : Int)] 3) = w3 at *
    go_loopg [12, 13] q.length (fun gk v12 v13 W => ∃ (g co : Nat) (os q' : List Nat) (kv : Int), gk = q'.length ∧ v12 = .slice (some ⟨g, 0, none⟩) os.length co ∧ v13 = .int .i64 kv ∧ Hid (kv = ((wayEnd A0 q' : Nat) : Int)) ∧ Hid (BackS A0 ps q') ∧ Hid (os ++ (A0 :: q').reverse = (A0 :: (q ++ [y])).reverse) ∧ Hid (W.ownsRow w2.heap.size 3 1 (.slice (some ⟨g, 0, none⟩) os.length co) os.length (os.map natC)) ∧ Hid (Below w2.heap.size w2 W))
    case atStart => exact ⟨w2.heap.size, 1, [y], q, k0, rfl, rfl, rfl, Hk0, HBs, by show _ = _; simp, HO3, HB3⟩
    case round =>
      obtain ⟨g, co, os, q', kv, hgk, rfl, rfl, HKv, HBq, HEq, HOw, HBw⟩ := hrel
      have hle : os.length + (q'.length + 1) = q.length + 2 := by
        have := congrArg List.length HEq.out
        simpa using this
      have hbx : Below wr.heap.size wr (wr.alloc (.cells #[.int .i64 kv] 3)) := belowA (Below.refl _ _) _
      have hzw := HBw.out.size
      obtain ⟨v', X, u1, u2, u3, u4⟩ := run_push_at (P := Tryz.prog) (ty := 0) (wr.alloc (.cells #[.int .i64 kv] 3)) (base := w2.heap.size) (t := 58) Tryz.underlying58 int_info1 rfl (by decide) (own_below HOw.out hbx) wr.heap.size [.int .i64 kv] rfl (heapNew rfl) (by intro u hu; rw [List.mem_singleton.1 hu]; rfl) (by simp only [maxLen]; omega) (by omega) (by simp; omega)
      obtain ⟨A', c', rfl⟩ := own_form u2
      have hA' : ∃ g', A' = some ⟨g', 0, none⟩ := by
        rcases u2.2 with ⟨h0, h1⟩ | ⟨g', cap, cur, hv, -⟩
        · omega
        · injection hv with h0 _ _; exact ⟨g', h0⟩
      obtain ⟨g', rfl⟩ := hA'
      have hkk : (os ++ [wayEnd A0 q']).map natC = os.map natC ++ [.int .i64 kv] := by rw [List.map_append, HKv.out]; rfl
      have HO5 : Hid (X.ownsRow w2.heap.size 3 1 (.slice (some ⟨g', 0, none⟩) (os.length + 1) c') (os.length + 1) ((os ++ [wayEnd A0 q']).map natC)) := by show World.ownsRow _ _ _ _ _ _ _; rw [hkk]; exact u2
      have HB5 : Hid (Below w2.heap.size w2 X) := (HBw.out.trans (hbx.mono hzw)).trans u4
      have HRun : Hid (∀ ty, (Builtin.append_ #[58, 58] ty #[.slice (some ⟨g, 0, none⟩) os.length co, .slice (some ⟨wr.heap.size, 0, none⟩) 1 1]).run Tryz.prog (wr.alloc (.cells #[.int .i64 kv] 3)) = .ok (.slice (some ⟨g', 0, none⟩) (os.length + 1) c') X) := fun _ => u1
      obtain ⟨ol, Hol⟩ : ∃ ol, Hid (ol = os.length) := ⟨_, rfl⟩
      rw [← Hol.out] at HO5 HRun ⊢
      clear u1 u2 u3 u4 hbx hkk
      by_cases hq0 : q' = []
      · have he1 : (kv == a) = true := by
          rw [HKv.out, HA.out, hq0]
          show (((A0 : Nat) : Int) == (A0 : Int)) = true
          simp
        have hEq2 : os ++ [A0] = (A0 :: (q ++ [y])).reverse := by
          have := HEq.out
          rw [hq0] at this
          simpa using this
        have hw0 : wayEnd A0 q' = A0 := by rw [hq0]; rfl
        have hol2 : ol + 1 = q.length + 2 := by rw [Hol.out]; rw [hq0] at hle; simp at hle; omega
        have hO6 := HO5.out
        rw [hw0, hEq2, hol2] at hO6
        have hcells : ∀ j, j < ((A0 :: (q ++ [y])).reverse.map (fun x : Nat => (x : Int))).length → X.cell? ⟨g', 0 + j, none⟩ = some (.int .i64 (((A0 :: (q ++ [y])).reverse.map (fun x : Nat => (x : Int))).getD j 0)) := fun j hj => by
          rcases hO6.2 with ⟨h0, -⟩ | ⟨g2, cap, cur, hv, h1, h2, h3, h4, h5, h6⟩
          · cases h0
          · injection hv with e1 _ _
            injection e1 with e1
            injection e1 with e1 _ _
            subst e1
            rw [Nat.zero_add, cell_of_row _ _ _ _ _ _ h2]
            have hj2 : j < q.length + 2 := by simpa using hj
            have h7 : (cur.toList.take (q.length + 2 * 1))[j]? = ((A0 :: (q ++ [y])).reverse.map natC)[j]? := by
              have := h6
              simp only [Nat.mul_one] at this ⊢
              rw [this]
            simp only [Nat.mul_one] at h7
            rw [List.getElem?_take, if_pos hj2] at h7
            rw [← Array.getElem?_toList, h7, List.getElem?_map, List.getD_eq_getElem?_getD, List.getElem?_map]
            have hj3 : j < (A0 :: (q ++ [y])).reverse.length := by simpa using hj
            rw [List.getElem?_eq_getElem hj3]
            rfl
        have hfro : ∀ j, j < q.length + 2 → X.frozen? ⟨g', 0 + j, none⟩ = false := fun j _ => by
          rcases hO6.2 with ⟨h0, -⟩ | ⟨g2, cap, cur, hv, h1, h2, -⟩
          · cases h0
          · injection hv with e1 _ _
            injection e1 with e1
            injection e1 with e1 _ _
            subst e1
            exact frozen_of_row _ _ _ _ _ h2
        have HRev := Lib.hid (Tryz.slices_Reverse_int_cells g' 0 (q.length + 2) c' ((A0 :: (q ++ [y])).reverse.map (fun x : Nat => (x : Int))) X (by simp) (by omega) hcells hfro)
        have HO6 := Lib.hid hO6
        have HF2 : Hid (∀ (W : World) (k : Nat), W = (X.drewN k).setCells g' 0 ((((A0 :: (q ++ [y])).reverse.map (fun x : Nat => (x : Int))).take (q.length + 2)).reverse.map (Value.int .i64)) → P (.returned (.tuple #[.slice (some ⟨g', 0, none⟩) (q.length + 2) c', .bool true])) W) := fun W k hW => by
          have hys : (((A0 :: (q ++ [y])).reverse.map (fun x : Nat => (x : Int))).take (q.length + 2)).reverse.map (Value.int .i64) = (A0 :: (q ++ [y])).map natC := by
            rw [List.take_of_length_le (by simp), ← List.map_reverse, List.reverse_reverse, List.map_map]
            rfl
          rw [hys] at hW
          have h1 := own_setCells (W := X.drewN k) (ys := (A0 :: (q ++ [y])).map natC) HO6.out (by simp)
          have h2 := setCells_out g' ((A0 :: (q ++ [y])).map natC) 0 (X.drewN k)
          have h3 : Below w2.heap.size w2 (X.drewN k) := HB5.out.trans (below_drewN X k _)
          rw [← hW] at h1 h2
          refine HFin.out W g' c' (HB2.out.trans ((h3.trans (h2.below (fun b hb => ?_) h3.size)).mono HB2.out.size)) ?_
          · simp at hb
            subst hb
            exact (own_blk HO6.out rfl).1
          · refine ⟨h1.1, ?_⟩
            rcases h1.2 with h0 | ⟨g2, cap, cur, hv, h4, h5⟩
            · exact .inl h0
            · exact .inr ⟨g2, cap, cur, hv, Nat.le_trans HB2.out.size h4, h5⟩
        clear hcells hfro hO6 hEq2 hw0 hq0 HEq HBq HKv HO5 HOw HBw
        rw [hol2] at HRun
        go_wp2_with (at_builtin; refine wpList_append_run (o := ⟨some 39, _, _, _, _, _⟩) rfl _ _ _ rfl _ _ rfl rfl (HRun.out _) ?_)
        refine HRev.out.mono ?_
        rintro e w9 ⟨rfl, k9, hw9⟩
        have HE := Lib.hid (HF2.out w9 k9 hw9)
        clear hw9 HF2 HRev HRun HO6
        go_wp2_with fail
        first | exact HE.out | (go_ret; exact HE.out) | (go_ret2; exact HE.out)
      · obtain ⟨q2, z, rfl⟩ : ∃ q2 z, q' = q2 ++ [z] := ⟨_, _, (List.dropLast_concat_getLast hq0).symm⟩
        have hbq : q2 ++ [z] ∈ ps ∧ wayEnd A0 (q2 ++ [z]) ≠ A0 := by
          rcases HBq.out with h | h
          · exact absurd h hq0
          · exact h
        rw [last_snoc] at hbq
        have hkz : kv = ((z : Nat) : Int) := by rw [HKv.out, last_snoc]
        subst hkz
        obtain ⟨hb2, hlk5⟩ := HLk.out X q2 z HB5.out hbq.1
        obtain ⟨k5, Hk5⟩ : ∃ k5 : Int, Hid (k5 = ((wayEnd A0 q2 : Nat) : Int)) := ⟨_, rfl⟩
        rw [← Hk5.out] at hlk5
        have he1 : (((z : Nat) : Int) == a) = false := by
          rw [HA.out, beq_eq_false_iff_ne]
          intro e
          exact hbq.2 (by omega)
        have HB6 := Lib.hid hb2
        have HEq2 : Hid ((os ++ [z]) ++ (A0 :: q2).reverse = (A0 :: (q ++ [y])).reverse) := by
          show _ = _
          rw [← HEq.out]
          simp
        have HO6 : Hid (X.ownsRow w2.heap.size 3 1 (.slice (some ⟨g', 0, none⟩) (os ++ [z]).length c') (os ++ [z]).length ((os ++ [z]).map natC)) := by
          have h := HO5.out
          rw [last_snoc, Hol.out] at h
          show World.ownsRow _ _ _ _ _ _ _
          rw [show (os ++ [z]).length = os.length + 1 by simp]
          exact h
        have hlo : (os ++ [z]).length = ol + 1 := by rw [Hol.out]; simp
        have hgk2 : q2.length < gk := by rw [hgk]; simp
        clear hbq hb2 HEq HBq HKv HO5 HOw HBw hq0 hle
        go_wp2_with (at_builtin; refine wpList_append_run (o := ⟨some 39, _, _, _, _, _⟩) rfl _ _ _ rfl _ _ rfl rfl (HRun.out _) ?_)
        go_roundg q2.length
        case rel => exact ⟨g', c', os ++ [z], q2, k5, rfl, by rw [hlo], rfl, Hk5, HB6, HEq2, HO6, HB5⟩
        case measure => exact hgk2
  · have hno : ∀ y ∈ reachO n l a, ((y : Nat) : Int) ≠ b := fun y hy e => hin ⟨y, (HWS.out.mem y).1 hy, e⟩
    have hlk := HMp.out.lookup_ok (P := Tryz.prog) Tryz.underlying124 Tryz.underlying3 (z := .int .i64 0) (zero_int w2) b
    rw [fmL_not (fun y hy e => hin ⟨y, hy, e⟩)] at hlk
    have HE : Hid (P (.returned (.tuple #[.slice none 0 0, .bool false])) w2) := by
      show P _ _
      rw [HP.out]
      exact ⟨HB2.out, .inl ⟨hno, rfl⟩⟩
    clear hno hin
    go_wp2_with fail
    first | exact HE.out | (go_ret; exact HE.out) | (go_ret2; exact HE.out)
end Go.Proofs.YtgphngjniplonaaGreatDoor

namespace Go.Proofs.YtgphngjniplonaaGreatDoor
open Go.RowKit
open Classical in
noncomputable def farI (N : Nat) (l : List GEdge) (a b : Int) : Nat := if (0 ≤ a ∧ a < (N : Int)) ∧ (0 ≤ b ∧ b < (N : Int)) then farN N (hasN l) a.toNat b.toNat else 0
theorem farI_le (N : Nat) (l : List GEdge) (a b : Int) : farI N l a b ≤ N := by
  unfold farI
  split
  · exact farN_most _ _ _ _
  · omega
noncomputable def reachR (N : Nat) (l : List GEdge) (a : Int) : List Nat := (List.range N).filter (fun b : Nat => decide (0 < farI N l a (b : Int)))
end Go.Proofs.YtgphngjniplonaaGreatDoor

namespace Go.Proofs.YtgphngjniplonaaGreatDoor
open Go.RowKit
noncomputable def pathR (N : Nat) (l : List GEdge) (a b : Int) : List Nat := if farI N l a b = 0 then [] else a.toNat :: greedy N (hasN l) b.toNat (farI N l a b) a.toNat
theorem farI_in {N : Nat} {l : List GEdge} {a b : Int} (h : farI N l a b ≠ 0) : (0 ≤ a ∧ a < (N : Int)) ∧ (0 ≤ b ∧ b < (N : Int)) := by
  unfold farI at h
  split at h
  · assumption
  · exact absurd rfl h
end Go.Proofs.YtgphngjniplonaaGreatDoor

namespace Go.Proofs.YtgphngjniplonaaGreatDoor
open Go.RowKit
section
variable {N : Nat} {l : List GEdge} {a : Int} {ys : List Nat}
end
theorem reach_same {N : Nat} {l : List GEdge} (hr : rightG (N : Int) l = true) (a : Int) : reachO (N : Int) l a = reachR N l a := by
  unfold reachO reachR
  split
  · rename_i hk
    obtain ⟨-, h0, h1⟩ := hk
    rw [Int.toNat_natCast]
    refine List.filter_congr fun b hb => ?_
    have hb2 := List.mem_range.1 hb
    unfold farI
    rw [if_pos ⟨⟨h0, h1⟩, by omega, by omega⟩, Int.toNat_natCast]
  · rename_i hk
    refine (List.filter_eq_nil_iff.2 fun b hb => ?_).symm
    unfold farI
    rw [if_neg (fun h => hk ⟨hr, h.1⟩)]
    simp
theorem path_no {N : Nat} {l : List GEdge} (hr : rightG (N : Int) l = true) {a b : Int} (h : ∀ y ∈ reachO (N : Int) l a, ((y : Nat) : Int) ≠ b) : pathR N l a b = [] := by
  unfold pathR
  split
  · rfl
  · rename_i hf
    exfalso
    obtain ⟨h1, h2⟩ := farI_in hf
    refine h b.toNat ?_ (by omega)
    rw [reach_same hr]
    unfold reachR
    rw [List.mem_filter]
    refine ⟨List.mem_range.2 (by omega), ?_⟩
    rw [show ((b.toNat : Nat) : Int) = b by omega]
    simp
    omega
theorem path_yes {N : Nat} {l : List GEdge} {a b : Int} {p : List Nat} (hp : PathW (N : Int) l a b p) (hm : b.toNat ∈ reachO (N : Int) l a) : pathR N l a b = a.toNat :: p := by
  obtain ⟨hk, -, -, -, h0, h1, he⟩ := hp
  obtain ⟨hr, ha0, ha1⟩ := hk
  rw [reach_same hr] at hm
  unfold reachR at hm
  have h2 := (List.mem_filter.1 hm).2
  rw [show ((b.toNat : Nat) : Int) = b by omega] at h2
  simp only [decide_eq_true_eq] at h2
  unfold pathR
  rw [if_neg (by omega), he]
  unfold farI
  rw [if_pos ⟨⟨ha0, ha1⟩, h0, h1⟩, Int.toNat_natCast]
end Go.Proofs.YtgphngjniplonaaGreatDoor

namespace Go.Proofs.YtgphngjniplonaaGreatDoor
open Go.RowKit Go.Shelf
theorem nats_is {w : World} {base : Nat} {A : Option Addr} {n c : Nat} {l : List Nat} (h : w.ownsRow base 3 1 (.slice A n c) n (l.map natC)) (hl : l.length = n) (hn : n ≤ 1000) (hok : ∀ k ∈ l, k < 1000) : SliceIs Enc.int w w.heap.size A n c (l.map (fun x : Nat => (x : Int))) := by
  have e : l.map natC = (l.map (fun x : Nat => (x : Int))).flatMap (fun x : Int => [Value.int .i64 x]) := by
    clear h hl hn hok
    induction l with
    | nil => rfl
    | cons a r ih => simp only [List.map_cons, List.flatMap_cons, ih]; rfl
  rw [e] at h
  refine SliceIs.of_flat (E := Enc.int) (fun x : Int => [Value.int .i64 x]) (fun _ => rfl) h (by simp [hl]) (by simp [reachN]; omega) (fun q hq => ⟨rfl, ?_⟩)
  obtain ⟨k, hk, rfl⟩ := List.mem_map.1 hq
  have := hok k hk
  show (Lit.int .i64 (k : Int)).wf = true
  simp [Lit.wf, IntKind.min, IntKind.max, IntKind.signed, IntKind.bits]; omega
theorem greedy_in (N : Nat) (has : Nat → Nat → Bool) (b : Nat) (hb : b < N) : ∀ (d a y : Nat), y ∈ greedy N has b d a → y < N
  | 0, _, y, h => by simp [greedy] at h
  | 1, _, y, h => by simp [greedy] at h; omega
  | d + 2, a, y, h => by
    unfold greedy at h
    split at h
    · rename_i x hx
      rcases List.mem_cons.1 h with rfl | h
      · exact List.mem_range.1 (List.mem_of_find?_eq_some hx)
      · exact greedy_in N has b hb (d + 1) x y h
    · cases h
theorem pathR_len (N : Nat) (l : List GEdge) (a b : Int) : (pathR N l a b).length ≤ N + 1 := by
  unfold pathR
  split
  · simp
  · have h1 := greedy_len N (hasN l) b.toNat (farI N l a b) a.toNat
    have h2 := farI_le N l a b
    simp only [List.length_cons]
    omega
theorem pathR_lt {N : Nat} {l : List GEdge} {a b : Int} : ∀ y ∈ pathR N l a b, y < N := by
  intro y hy
  unfold pathR at hy
  split at hy
  · cases hy
  · rename_i hf
    obtain ⟨h1, h2⟩ := farI_in hf
    rcases List.mem_cons.1 hy with rfl | hy
    · omega
    · exact greedy_in N (hasN l) b.toNat (by omega) _ _ y hy
theorem reachR_lt {N : Nat} {l : List GEdge} {a : Int} : ∀ y ∈ reachR N l a, y < N := fun y hy => List.mem_range.1 (List.mem_filter.1 hy).1
theorem reachR_len (N : Nat) (l : List GEdge) (a : Int) : (reachR N l a).length ≤ N := by
  unfold reachR
  have := List.length_filter_le (fun b : Nat => decide (0 < farI N l a (b : Int))) (List.range N)
  simpa using this
section
variable {N : Nat} {l : List GEdge} (hr : rightG (N : Int) l = true) (hN : N ≤ 900) (A : Option Addr) (m c : Nat) (a b : Int) (w : World) (h : SliceIs Enc.edge w w.heap.size A m c l)
include hr hN h
theorem pathB_any : Calls Tryz.prog 23 #[graphV (N : Int) A m c, .int .i64 a, .int .i64 b] w (fun e w' => ∃ A' c', e = .returned (.tuple #[.slice A' (pathR N l a b).length c', .bool (decide (0 < (pathR N l a b).length))]) ∧ SliceIs Enc.int w' w'.heap.size A' (pathR N l a b).length c' ((pathR N l a b).map (fun x : Nat => (x : Int))) ∧ Below w.heap.size w w') := by
  refine (path_any (N : Int) a b A m c l w h).mono ?_
  rintro e w' ⟨hb, ⟨h1, rfl⟩ | ⟨g, c', p, h1, h2, rfl, h3⟩⟩
  · rw [path_no hr h1]
    exact ⟨none, 0, rfl, SliceIs.nil, hb⟩
  · have e := path_yes h1 h2
    have hl := pathR_len N l a b
    have hlt := pathR_lt (N := N) (l := l) (a := a) (b := b)
    rw [e] at hl hlt ⊢
    simp only [List.length_cons] at hl ⊢
    refine ⟨some ⟨g, 0, none⟩, c', by simp, nats_is h3 (by simp) (by omega) (fun k hk => by have := hlt k hk; omega), hb⟩
theorem reachB_any : Calls Tryz.prog 25 #[graphV (N : Int) A m c, .int .i64 a] w (fun e w' => ∃ A' c', e = .returned (.slice A' (reachR N l a).length c') ∧ SliceIs Enc.int w' w'.heap.size A' (reachR N l a).length c' ((reachR N l a).map (fun x : Nat => (x : Int))) ∧ Below w.heap.size w w') := by
  refine (reached_any (N : Int) a A m c l w h).mono ?_
  rintro e w' ⟨A', c', rfl, h3, hb⟩
  rw [reach_same hr] at h3 ⊢
  have := reachR_len N l a
  exact ⟨A', c', rfl, nats_is h3 rfl (by omega) (fun k hk => by have := reachR_lt k hk; omega), hb⟩
end
end Go.Proofs.YtgphngjniplonaaGreatDoor

namespace Go.Proofs.YtgphngjniplonaaGreatDoor
open Go.RowKit Go.WideMaps Go.WideElems
open Go.ChangeMaps (setBlock)
open Go.ChangeMaps (modify_eq_set)
def pairK (p q : Int) : Value := .agg #[.int .i64 p, .int .i64 q]
def fitN (x : Int) : Prop := (Lit.int .i64 x).wf = true
theorem pairK_inj {a b c d : Int} (h : pairK a b = pairK c d) : a = c ∧ b = d := by
  unfold pairK at h
  injection h with h
  simpa using h
def updP (f : Int → Int → Int) (p q v : Int) (x y : Int) : Int := if x = p ∧ y = q then v else f x y
structure MapP (w : World) (b : Nat) (f : Int → Int → Int) : Prop where
  ex : ∃ es clock, w.heap[b]? = some (.map es clock) ∧ (∀ e ∈ es.toList, ∃ p q, fitN p ∧ fitN q ∧ e.key = pairK p q ∧ e.val = .int .i64 (f p q)) ∧ (∀ p q, (∀ e ∈ es.toList, e.key ≠ pairK p q) → f p q = 0) ∧ (es.toList.map (·.key)).Nodup ∧ (es.toList.map (·.born)).Nodup ∧ ∀ e ∈ es.toList, e.born < clock
def EntAt (w : World) (b : Nat) (p q : Int) (st : Nat) : Prop := ∃ (es : Array MapEntry) (clock j : Nat) (e : MapEntry), w.heap[b]? = some (.map es clock) ∧ es.toList[j]? = some e ∧ e.born = st ∧ e.key = pairK p q
theorem MapP.made {w : World} {n : Nat} : MapP (w.alloc (.map #[] n)) w.heap.size (fun _ _ => 0) :=
  ⟨#[], n, heapNew rfl, by simp, fun _ _ _ => rfl, by simp, by simp, by simp⟩
theorem MapP.keep {w w' : World} {b : Nat} {f : Int → Int → Int} (h : MapP w b f) (hb : w'.heap[b]? = w.heap[b]?) : MapP w' b f := by
  obtain ⟨es, clock, h1, h2⟩ := h.ex
  exact ⟨es, clock, hb.trans h1, h2⟩
theorem MapP.lt {w : World} {b : Nat} {f : Int → Int → Int} (h : MapP w b f) : b < w.heap.size := by
  obtain ⟨es, clock, h1, -⟩ := h.ex
  exact (Array.getElem?_eq_some_iff.1 h1).1
theorem setBlock_out (w : World) (b : Nat) (o : Obj) : Out [b] w (setBlock w b o) :=
  ⟨rfl, rfl, rfl, by simp [setBlock], fun c hc hcb => by
    show (w.heap.setIfInBounds b o)[c]? = _
    rw [Array.getElem?_setIfInBounds_ne (by intro e; exact hcb (by simp [e]))]⟩
theorem setBlock_at {w : World} {b : Nat} (hb : b < w.heap.size) (o : Obj) : (setBlock w b o).heap[b]? = some o := by
  show (w.heap.setIfInBounds b o)[b]? = _
  rw [Array.getElem?_setIfInBounds_self_of_lt hb]
section
variable {P : Program} {w : World} {b : Nat} {f : Int → Int → Int} {t k e : TypeId}
theorem MapP.lookup (h : MapP w b f) (K : KeyLaw P k) (hk : ∀ p q, fitN p → fitN q → ∃ l, keyOf P k (pairK p q) = some l) (ht : P.underlying t = some (.map k e)) (hz : ∀ u : World, (zeroValue e).run P u = .ok (.int .i64 0) u) {p q : Int} (hp : fitN p) (hq : fitN q) :
    (Instr.lookup t (.map (some b)) (pairK p q) false).run P w = .ok (.int .i64 (f p q)) w := by
  obtain ⟨es, clock, hb, h1, h2, -⟩ := h.ex
  obtain ⟨kl, hkl⟩ := hk p q hp hq
  have hks : ∀ x ∈ es.toList, ∃ l, keyOf P k x.key = some l := fun x hx => by
    obtain ⟨p', q', a1, a2, a3, -⟩ := h1 x hx
    rw [a3]; exact hk p' q' a1 a2
  rcases K.find w hkl es.toList hks with ⟨c1, c2⟩ | ⟨j, e0, c1, c2, c3⟩
  · rw [h2 p q c2]
    simp [Instr.lookup, run_underlying ht, MapKept.run_getObj_map hb, K.check w _ hkl, c1, hz, Result.andThen]
  · obtain ⟨p', q', -, -, a3, a4⟩ := h1 e0 (List.mem_of_getElem? c2)
    obtain ⟨rfl, rfl⟩ := pairK_inj (a3.symm.trans c3)
    simp [Instr.lookup, run_underlying ht, MapKept.run_getObj_map hb, K.check w _ hkl, c1, a4, Result.andThen]
theorem MapP.entry (h : MapP w b f) (K : KeyLaw P k) (hk : ∀ p q, fitN p → fitN q → ∃ l, keyOf P k (pairK p q) = some l) (ht : P.underlying t = some (.map k e)) (hz : ∀ u : World, (zeroValue e).run P u = .ok (.int .i64 0) u) {p q : Int} (hp : fitN p) (hq : fitN q) :
    ∃ (v0 : Value) (st : Nat) (w' : World), (Instr.mapEntry t (.map (some b)) (pairK p q)).run P w = .ok (.tuple #[v0, goInt st]) w' ∧ MapP w' b f ∧ EntAt w' b p q st ∧ Out [b] w w' := by
  have hlt := h.lt
  obtain ⟨es, clock, hb, h1, h2, h3, h4, h5⟩ := h.ex
  obtain ⟨kl, hkl⟩ := hk p q hp hq
  have hks : ∀ x ∈ es.toList, ∃ l, keyOf P k x.key = some l := fun x hx => by
    obtain ⟨p', q', a1, a2, a3, -⟩ := h1 x hx
    rw [a3]; exact hk p' q' a1 a2
  rcases K.find w hkl es.toList hks with ⟨c1, c2⟩ | ⟨j, e0, c1, c2, c3⟩
  · refine ⟨.int .i64 0, clock, setBlock w b (.map (es.push ⟨pairK p q, .int .i64 0, clock⟩) (clock + 1)), ?_, ⟨_, _, setBlock_at hlt _, ?_, ?_, ?_, ?_, ?_⟩, ⟨_, _, es.size, ⟨pairK p q, .int .i64 0, clock⟩, setBlock_at hlt _, by simp, rfl, rfl⟩, setBlock_out _ _ _⟩
    · simp [Instr.mapEntry, run_underlying ht, MapKept.run_getObj_map hb, K.check w false hkl, c1, hz, MapKept.run_setObj_map _ hb, Result.andThen, setBlock]
    · intro x hx
      rw [Array.toList_push, List.mem_append, List.mem_singleton] at hx
      rcases hx with hx | rfl
      · exact h1 x hx
      · exact ⟨p, q, hp, hq, rfl, by rw [h2 p q c2]⟩
    · intro p' q' hno
      exact h2 p' q' (fun x hx => hno x (by rw [Array.toList_push]; exact List.mem_append_left _ hx))
    · rw [Array.toList_push, List.map_append, List.nodup_append]
      refine ⟨h3, by simp, fun a ha c hc e1 => ?_⟩
      rw [List.map_singleton, List.mem_singleton] at hc
      obtain ⟨x, hx, rfl⟩ := List.mem_map.1 ha
      exact c2 x hx (e1.trans hc)
    · rw [Array.toList_push, List.map_append, List.nodup_append]
      refine ⟨h4, by simp, fun a ha c hc e1 => ?_⟩
      rw [List.map_singleton, List.mem_singleton] at hc
      obtain ⟨x, hx, rfl⟩ := List.mem_map.1 ha
      have := h5 x hx
      simp only at hc
      omega
    · intro x hx
      rw [Array.toList_push, List.mem_append, List.mem_singleton] at hx
      rcases hx with hx | rfl
      · have := h5 x hx; omega
      · simp
  · have hj : es[j]? = some e0 := by simpa using c2
    have hsame : es.modify j (fun e => { e with key := pairK p q }) = es := by
      apply Array.ext'
      rw [Array.toList_modify, modify_eq_set _ _ _ _ c2]
      have : ({ e0 with key := pairK p q } : MapEntry) = e0 := by rw [← c3]
      rw [this]
      exact set_self _ _ _ c2
    refine ⟨e0.val, e0.born, setBlock w b (.map es clock), ?_, ⟨es, clock, setBlock_at hlt _, h1, h2, h3, h4, h5⟩, ⟨es, clock, j, e0, setBlock_at hlt _, c2, rfl, c3⟩, setBlock_out _ _ _⟩
    simp [Instr.mapEntry, run_underlying ht, MapKept.run_getObj_map hb, K.check w false hkl, c1, hj, c3, K.stays w hkl, hsame, MapKept.run_setObj_map _ hb, Result.andThen, setBlock]
theorem MapP.store (h : MapP w b f) {p q : Int} {st : Nat} (he : EntAt w b p q st) (v : Int) :
    ∃ w', (Instr.entryStore t (.map (some b)) (goInt st) (.int .i64 v)).run P w = .ok () w' ∧ MapP w' b (updP f p q v) ∧ Out [b] w w' := by
  have hlt := h.lt
  obtain ⟨es, clock, hb, h1, h2, h3, h4, h5⟩ := h.ex
  obtain ⟨es', clock', j, e0, hb', c2, hst, hkey⟩ := he
  rw [hb] at hb'
  injection hb' with hb'
  injection hb' with e1 e2
  subst e1 e2 hst
  have hidx : es.findIdx? (fun e => ((e.born : Nat) : Int) == ((e0.born : Nat) : Int)) = some j := by
    rw [findIdx_arr]
    exact findIdx_born h4 c2
  have hm : (es.modify j (fun e => { e with val := .int .i64 v })).toList = es.toList.set j { e0 with val := .int .i64 v } := by
    rw [Array.toList_modify, modify_eq_set _ _ _ _ c2]
  have hjl : j < es.toList.length := (List.getElem?_eq_some_iff.1 c2).1
  have hkeys : ((es.toList.set j { e0 with val := .int .i64 v }).map (·.key)) = es.toList.map (·.key) := by
    rw [List.map_set]
    exact set_self _ _ _ (by rw [List.getElem?_map, c2]; rfl)
  have hborn : ((es.toList.set j { e0 with val := .int .i64 v }).map (·.born)) = es.toList.map (·.born) := by
    rw [List.map_set]
    exact set_self _ _ _ (by rw [List.getElem?_map, c2]; rfl)
  refine ⟨setBlock w b (.map (es.modify j (fun e => { e with val := .int .i64 v })) clock), ?_, ⟨_, _, setBlock_at hlt _, ?_, ?_, ?_, ?_, ?_⟩, setBlock_out _ _ _⟩
  · simp [Instr.entryStore, MapKept.run_getObj_map hb, asInt, asIntOf, goInt, hidx, MapKept.run_setObj_map _ hb, Result.andThen, setBlock]
  · intro x hx
    rw [hm] at hx
    obtain ⟨i, hi, hxi⟩ := List.mem_iff_getElem.1 hx
    rw [List.getElem_set] at hxi
    split at hxi
    · subst hxi
      obtain ⟨p', q', a1, a2, a3, a4⟩ := h1 e0 (List.mem_of_getElem? c2)
      obtain ⟨rfl, rfl⟩ := pairK_inj (a3.symm.trans hkey)
      exact ⟨p', q', a1, a2, a3, by simp [updP]⟩
    · rename_i hne
      subst hxi
      have hil : i < es.toList.length := by simpa using hi
      obtain ⟨p', q', a1, a2, a3, a4⟩ := h1 es.toList[i] (List.getElem_mem hil)
      refine ⟨p', q', a1, a2, a3, ?_⟩
      rw [a4]
      unfold updP
      rw [if_neg]
      rintro ⟨rfl, rfl⟩
      have e1 : (es.toList.map (·.key))[i]? = some (pairK p' q') := by rw [List.getElem?_map, List.getElem?_eq_getElem hil]; exact congrArg some a3
      have e2 : (es.toList.map (·.key))[j]? = some (pairK p' q') := by rw [List.getElem?_map, c2]; simp [hkey]
      exact hne ((List.getElem?_inj (by simpa using hjl) h3).1 (by rw [e1, e2]))
  · intro p' q' hno
    unfold updP
    have hk2 : ∀ x ∈ es.toList, x.key ≠ pairK p' q' := fun x hx => by
      have hxk : x.key ∈ (es.toList.set j { e0 with val := .int .i64 v }).map (·.key) := by rw [hkeys]; exact List.mem_map.2 ⟨x, hx, rfl⟩
      obtain ⟨y, hy, hyk⟩ := List.mem_map.1 hxk
      rw [← hyk]
      exact hno y (by rw [hm]; exact hy)
    rw [if_neg]
    · exact h2 p' q' hk2
    · rintro ⟨rfl, rfl⟩
      exact hk2 e0 (List.mem_of_getElem? c2) hkey
  · rw [hm, hkeys]; exact h3
  · rw [hm, hborn]; exact h4
  · intro x hx
    rw [hm] at hx
    have : x.born ∈ es.toList.map (·.born) := by rw [← hborn]; exact List.mem_map.2 ⟨x, hx, rfl⟩
    obtain ⟨y, hy, hyb⟩ := List.mem_map.1 this
    rw [← hyb]
    exact h5 y hy
end
end Go.Proofs.YtgphngjniplonaaGreatDoor
