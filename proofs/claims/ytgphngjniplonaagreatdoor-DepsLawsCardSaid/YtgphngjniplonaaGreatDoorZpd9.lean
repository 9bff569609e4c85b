/- My own texts DgLp, DgLs, LiftDepsLaws, FactsDepsLaws, as far as this claim needs them. -/
import Derived.Test.YtgphngjniplonaaGreatDoorZpd8
set_option linter.unusedVariables false
set_option linter.unusedSimpArgs false
set_option maxRecDepth 1000000
set_option maxHeartbeats 16000000
namespace Go.Proofs.YtgphngjniplonaaGreatDoor
open Go.RowKit
theorem puts_has (L : List GEdge) (z : GEdge) : z ∈ putsE L ↔ z ∈ L := by
  have := (foldl_put L (l := []) List.Pairwise.nil).2 z
  simpa [putsE] using this
theorem puts_up (L : List GEdge) : (putsE L).Pairwise (fun x y => lessE x y = true) := (foldl_put L (l := []) List.Pairwise.nil).1
theorem puts_sort {n : Int} {l : List GEdge} (hr : rightG n l = true) : putsE (turnL l) = sortE (turnL l) := by
  refine up_same (puts_up _) (right_pairs (turned_right hr (fun _ he => rightG_mem hr he))) (fun z => ?_)
  rw [puts_has, (sortE_perm _).mem_iff]
theorem puts_turn_right {n : Int} {l : List GEdge} (hr : rightG n l = true) : rightG n (putsE (turnL l)) = true := by
  rw [puts_sort hr]
  exact turned_right hr (fun _ he => rightG_mem hr he)
theorem turn_mem {l : List GEdge} {z : GEdge} : z ∈ turnL l ↔ turnE z ∈ l := by
  unfold turnL
  rw [List.mem_map]
  constructor
  · rintro ⟨x, hx, rfl⟩
    exact hx
  · intro h
    exact ⟨turnE z, h, rfl⟩
theorem turn_twice {n : Int} {l : List GEdge} (hr : rightG n l = true) : putsE (turnL (putsE (turnL l))) = l := by
  refine up_same (puts_up _) (right_pairs hr) (fun z => ?_)
  rw [puts_has, turn_mem, puts_has, turn_mem]
  exact Iff.rfl
def cntP (l : List GEdge) (p q : Int) : Int := ((l.filter (fun e => decide (e.a = p) && decide (e.b = q))).length : Int)
theorem cntP_take {l : List GEdge} {j : Nat} {e : GEdge} (h : l[j]? = some e) : cntP (l.take (j + 1)) = updP (cntP (l.take j)) e.a e.b (cntP (l.take j) e.a e.b + 1) := by
  have h1 : l.take (j + 1) = l.take j ++ [e] := by rw [List.take_add_one, h]; rfl
  funext x y
  unfold updP cntP
  rw [h1, List.filter_append]
  by_cases hx : x = e.a ∧ y = e.b
  · obtain ⟨rfl, rfl⟩ := hx
    simp
  · rw [if_neg hx]
    have : List.filter (fun e => decide (e.a = x) && decide (e.b = y)) [e] = [] := by
      rw [List.filter_eq_nil_iff]
      intro z hz
      rw [List.mem_singleton.1 hz]
      simp only [Bool.and_eq_true, decide_eq_true_eq]
      exact fun hh => hx ⟨hh.1.symm, hh.2.symm⟩
    rw [this]
    simp
theorem cntP_le (l : List GEdge) (p q : Int) : 0 ≤ cntP l p q ∧ cntP l p q ≤ l.length := by
  unfold cntP
  have := List.length_filter_le (fun e : GEdge => decide (e.a = p) && decide (e.b = q)) l
  omega
theorem cntP_has {l : List GEdge} {p q : Int} (h : hasL l p q = true) : cntP l p q ≠ 0 := by
  unfold cntP
  unfold hasL at h
  obtain ⟨e, he, h2⟩ := List.any_eq_true.1 h
  have : e ∈ l.filter (fun e => decide (e.a = p) && decide (e.b = q)) := List.mem_filter.2 ⟨he, h2⟩
  have := List.length_pos_of_mem this
  omega
theorem way_at {has : Nat → Nat → Bool} : ∀ (p : List Nat) (a i x y : Nat), IsWay has a p → (a :: p)[i]? = some x → (a :: p)[i + 1]? = some y → has x y = true
  | [], a, i, x, y, _, _, hy => by simp at hy
  | b :: p, a, 0, x, y, h, hx, hy => by
    simp at hx hy
    subst hx hy
    exact h.1
  | b :: p, a, i + 1, x, y, h, hx, hy => way_at p b i x y h.2 (by simpa using hx) (by simpa using hy)
theorem way_last : ∀ (p : List Nat) (a : Nat), (a :: p)[p.length]? = some (wayEnd a p)
  | [], a => rfl
  | b :: p, a => by
    rw [List.length_cons, List.getElem?_cons_succ]
    exact way_last p b
def occ (L : List Nat) (b : Int) : Nat := (L.filter (fun y : Nat => decide (((y : Nat) : Int) = b))).length
theorem occ_take {L : List Nat} {j y : Nat} (h : L[j]? = some y) (b : Int) : occ (L.take (j + 1)) b = occ (L.take j) b + (if ((y : Nat) : Int) = b then 1 else 0) := by
  have h1 : L.take (j + 1) = L.take j ++ [y] := by rw [List.take_add_one, h]; rfl
  unfold occ
  rw [h1, List.filter_append, List.length_append]
  by_cases hb : ((y : Nat) : Int) = b
  · simp [hb]
  · simp [hb]
theorem occ_le (L : List Nat) (b : Int) : occ L b ≤ L.length := List.length_filter_le _ _
theorem occ_no {L : List Nat} {b : Int} (h : ∀ y ∈ L, ((y : Nat) : Int) ≠ b) : occ L b = 0 := by
  unfold occ
  rw [List.filter_eq_nil_iff.2 (fun y hy => by simpa using h y hy)]
  rfl
theorem occ_one {L : List Nat} {b : Nat} (hn : L.Nodup) (h : b ∈ L) : occ L (b : Int) = 1 := by
  induction L with
  | nil => cases h
  | cons x L ih =>
    rw [List.nodup_cons] at hn
    by_cases hx : x = b
    · subst hx
      have h0 : occ L ((x : Nat) : Int) = 0 := occ_no (fun y hy e => hn.1 (by rw [show x = y by omega]; exact hy))
      unfold occ at h0 ⊢
      rw [List.filter_cons]
      simp only [decide_true, if_true, List.length_cons]
      omega
    · have h1 := ih hn.2 (by rcases List.mem_cons.1 h with rfl | h; exact absurd rfl hx; exact h)
      unfold occ at h1 ⊢
      rw [List.filter_cons, if_neg (by simp; omega)]
      exact h1
theorem reachR_nodup (N : Nat) (l : List GEdge) (a : Int) : (reachR N l a).Nodup := List.nodup_range.filter _
theorem path_facts {N : Nat} {l : List GEdge} (hr : rightG (N : Int) l = true) (a b : Int) :
    (pathR N l a b = [] ∧ occ (reachR N l a) b = 0) ∨ (∃ p : List Nat, p ≠ [] ∧ pathR N l a b = a.toNat :: p ∧ IsWay (hasN l) a.toNat p ∧ ((wayEnd a.toNat p : Nat) : Int) = b ∧ ((a.toNat : Nat) : Int) = a ∧ occ (reachR N l a) b = 1) := by
  by_cases hf : farI N l a b = 0
  · left
    refine ⟨by unfold pathR; rw [if_pos hf], occ_no (fun y hy e => ?_)⟩
    have := (List.mem_filter.1 hy).2
    rw [e, hf] at this
    simp at this
  · right
    obtain ⟨h1, h2⟩ := farI_in hf
    obtain ⟨d, hd⟩ : ∃ d, farI N l a b = d + 1 := ⟨farI N l a b - 1, by omega⟩
    have hfn : farN N (hasN l) a.toNat b.toNat = d + 1 := by rw [← hd]; unfold farI; rw [if_pos ⟨h1, h2⟩]
    obtain ⟨g1, g2, g3⟩ := (greedy_least (hasN_lt hr) (b := b.toNat) d a.toNat (by omega) hfn).1
    have hne : greedy N (hasN l) b.toNat (d + 1) a.toNat ≠ [] := by intro e; rw [e] at g1; cases g1
    refine ⟨greedy N (hasN l) b.toNat (d + 1) a.toNat, hne, by unfold pathR; rw [if_neg hf, hd], g2, by rw [g3]; omega, by omega, ?_⟩
    have hb : b = ((b.toNat : Nat) : Int) := by omega
    rw [hb]
    refine occ_one (reachR_nodup N l a) ?_
    unfold reachR
    rw [List.mem_filter]
    refine ⟨List.mem_range.2 (by omega), ?_⟩
    rw [← hb]
    simp
    omega
end Go.Proofs.YtgphngjniplonaaGreatDoor

namespace Go.Proofs.YtgphngjniplonaaGreatDoor
open Go.RowKit Go.Shelf Go.WideMaps
theorem op_valW {P : Program} {o : Oper} {a : Act} {w w' : World} {K : Act → World → Prop} {Q : Exit → Act → World → Prop} (v : Value) (h : (execOp a.eval o).run P w = .ok (.value v) w') (hk : K (a.put o.dst v) w') : o.wp P a w K Q := by
  unfold Oper.wp
  rw [h]
  exact hk
theorem keyArr : ArrKey Tryz.prog 72 3 2 := ⟨Tryz.underlying72, by kernel_rfl, by kernel_rfl, by kernel_rfl⟩
theorem keyLaw2 : KeyLaw Tryz.prog 72 := keyArr.law
theorem keyOf2 : ∀ p q, fitN p → fitN q → ∃ l, keyOf Tryz.prog 72 (pairK p q) = some l := fun p q hp hq => ⟨_, keyOf_pair keyArr Tryz.underlying3 ⟨Tryz.prog.types.size - 1, by kernel_rfl⟩ hp hq⟩
def dlG (V0 : World) (bm g9 : Nat) (f : Int → Int → Int) (e : GEdge) (W : World) : Prop := MapP W bm f ∧ W.heap[g9]? = some (.cells #[.int .i64 e.a, .int .i64 e.b, .bool e.n] 71 (0, 0)) ∧ Below V0.heap.size V0 W
def dlF (bm g9 : Nat) (e : GEdge) (cnt : Int) (i : Nat) (v : Value) (W : World) : Prop := match i with
  | 0 => v = .map (some bm)
  | 1 => v = .pointer (some ⟨g9, 0, none⟩)
  | 2 => v = .int .i64 e.a
  | 3 => v = .pointer (some ⟨g9, 1, none⟩)
  | 4 => v = .int .i64 e.b
  | 5 => v = pairK e.a e.b
  | 6 => v = .int .i64 cnt
  | 7 => v = .int .i64 (cnt + 1)
  | 8 => ∃ v0 st, v = .tuple #[v0, goInt (st : Nat)] ∧ EntAt W bm e.a e.b st
  | 9 => ∃ st, v = goInt (st : Nat) ∧ EntAt W bm e.a e.b st
  | _ => True
def dlE (N : Nat) (l : List GEdge) (i : Nat) (v : Value) (W : World) : Prop := match i with
  | 1 => ∃ A k c, v = graphV (N : Int) A k c ∧ SliceIs Enc.edge W W.heap.size A k c (putsE (turnL l))
  | 2 => ∃ A k c, v = graphV (N : Int) A k c ∧ SliceIs Enc.edge W W.heap.size A k c l
  | 4 => ∃ A k c, v = .agg #[.int .i64 (N : Int), .slice A k c] ∧ SliceIs Enc.edge W W.heap.size A k c l
  | _ => True
theorem dlE_keep {N : Nat} {l : List GEdge} {i : Nat} {v : Value} {W W' : World} (h : dlE N l i v W) (hb : Below W.heap.size W W') : dlE N l i v W' := by
  unfold dlE at h ⊢
  split at h
  · obtain ⟨A, k, c, h1, h2⟩ := h; exact ⟨A, k, c, h1, h2.keep hb⟩
  · obtain ⟨A, k, c, h1, h2⟩ := h; exact ⟨A, k, c, h1, h2.keep hb⟩
  · obtain ⟨A, k, c, h1, h2⟩ := h; exact ⟨A, k, c, h1, h2.keep hb⟩
  · trivial
theorem turnR_any {N : Nat} {l : List GEdge} (hr : rightG (N : Int) l = true) (A : Option Addr) (m c : Nat) (w : World) (h : SliceIs Enc.edge w w.heap.size A m c l) (hm : m ≤ 10000) :
    Calls Tryz.prog 17 #[graphV (N : Int) A m c] w (fun e w' => ∃ A' k c', e = .returned (graphV (N : Int) A' k c') ∧ SliceIs Enc.edge w' w'.heap.size A' k c' (putsE (turnL l)) ∧ Below w.heap.size w w') := by
  refine (turnedAll_any (N : Int) A m c l w h hm).mono ?_
  rintro e w' ⟨A', k, c', rfl, h1, h2⟩
  unfold tN
  unfold tE at h1
  rw [if_pos hr] at h1 ⊢
  exact ⟨A', k, c', rfl, h1, h2⟩
theorem turn_len {n : Int} {l : List GEdge} (hr : rightG n l = true) : (putsE (turnL l)).length = l.length := by
  rw [puts_sort hr, (sortE_perm _).length_eq]
  unfold turnL
  rw [List.length_map]
theorem depsLaws_walk (n a b : Int) (A : Option Addr) (m c : Nat) (l : List GEdge) (w : World) (h : SliceIs Enc.edge w w.heap.size A m c l) (hP : ParW w) :
    Calls Tryz.prog 6 #[.agg #[.int .i64 n, .slice A m c], .int .i64 a, .int .i64 b] w (RetBool true w) := by
  have mixed : Tryz.prog.follows .mixedOrders = true := by kernel_rfl
  have hyu : undef = Value.tuple #[] := rfl
  have Hlen := Lib.hid (show l.length = m from h.1)
  have HA := Lib.hid (fun (W : World) (hb : Below w.heap.size w W) => alive10_any W (hP.on hb))
  have HSl0 : Hid (∀ W, Below w.heap.size w W → SliceIs Enc.edge W W.heap.size A m c l) := fun W hb => h.keep hb
  have hb1 : Below w.heap.size w (w.alloc (.cells #[.int .i64 n, .slice A m c] 31)) := belowA (Below.refl _ _) _
  have r1 : (w.alloc (.cells #[.int .i64 n, .slice A m c] 31)).heap[w.heap.size]? = some (.cells #[.int .i64 n, .slice A m c] 31 (0, 0)) := heapNew rfl
  clear h hP
  go_enter Tryz.func6, Tryz.ntmps6
  go_wp2_with fail
  generalize w.alloc (.cells #[.int .i64 n, .slice A m c] 31) = w1 at *
  refine (HA.out w1 hb1).mono ?_
  rintro e w2 ⟨rfl, hb2⟩
  replace r1 := (hb2.block _ (Array.getElem?_eq_some_iff.1 r1).1).trans r1
  replace hb1 := below_next hb1 hb2
  obtain ⟨f0, f1⟩ := facts2 r1
  have HL := Lib.hid (large_any n A m c w2)
  have HB1 := Lib.hid hb1
  clear hb2 HA hb1
  go_wp2_with fail
  refine HL.out.mono ?_
  rintro e w3 ⟨rfl, hb3⟩
  replace r1 := (hb3.block _ (Array.getElem?_eq_some_iff.1 r1).1).trans r1
  have HB3 := Lib.hid (below_next HB1.out hb3)
  clear hb3 HL HB1 f0 f1
  obtain ⟨f0, f1⟩ := facts2 r1
  cases hlg : largeB n m with
  | true =>
    clear r1 HSl0
    go_wp2_with fail
    go_ret
    exact ⟨rfl, HB3.out⟩
  | false =>
  have hlg2 : m ≤ 60 ∧ (n ≤ 12 ∨ 32 < n) := by
    unfold largeB at hlg
    simp only [Bool.or_eq_false_iff, Bool.and_eq_false_iff, decide_eq_false_iff_not] at hlg
    omega
  obtain ⟨hm60, hn12⟩ := hlg2
  have HR := Lib.hid (rightG_any n A m c l w3 (HSl0.out w3 HB3.out))
  clear hlg
  go_wp2_with fail
  refine HR.out.mono ?_
  rintro e w4 ⟨rfl, hb4⟩
  replace r1 := (hb4.block _ (Array.getElem?_eq_some_iff.1 r1).1).trans r1
  have HB4 := Lib.hid (below_next HB3.out hb4)
  clear hb4 HR HB3 f0 f1
  cases hrg : rightG n l with
  | false =>
    clear r1 HSl0
    go_wp2_with fail
    go_ret
    exact ⟨rfl, HB4.out⟩
  | true =>
  obtain ⟨N, rfl⟩ : ∃ N : Nat, n = (N : Int) := ⟨n.toNat, by
    unfold rightG at hrg
    simp only [Bool.and_eq_true, decide_eq_true_eq] at hrg
    omega⟩
  have hN32 : N ≤ 32 := by
    have h2 := hrg
    unfold rightG at h2
    simp only [Bool.and_eq_true, decide_eq_true_eq] at h2
    omega
  have HRt := Lib.hid hrg
  clear hrg hn12
  have hmm := run_makeMap (P := Tryz.prog)
  go_upto_region 6 with fail
  have hM0 : MapP (w4.alloc (.map #[] 0)) w4.heap.size (cntP (l.take 0)) := by
    have := MapP.made (w := w4) (n := 0)
    exact this
  have hbV : Below w4.heap.size w4 (w4.alloc (.map #[] 0)) := belowA (Below.refl _ _) _
  generalize w4.alloc (.map #[] 0) = V at *
  have hg0 := (Array.getElem?_eq_some_iff.1 r1).1
  have HG : Hid (∀ W, Below w4.heap.size w4 W → W.heap[w.heap.size]? = some (.cells #[.int .i64 (N : Int), .slice A m c] 31 (0, 0)) ∧ SliceIs Enc.edge W W.heap.size A m c l ∧ Below w.heap.size w W) := fun W hW =>
    ⟨(hW.block _ hg0).trans r1, HSl0.out W (below_next HB4.out hW), below_next HB4.out hW⟩
  obtain ⟨f0, f1⟩ := facts2 ((hbV.block _ hg0).trans r1)
  have HM0 := Lib.hid hM0
  have HBV := Lib.hid hbV
  clear r1 hM0 hbV hmm HB4
  go_wp2_with fail
  clear f0 f1
  go_loopw [9, 29] (fun _ i wr => ∃ j : Nat, j ≤ m ∧ i = .int .i64 (j : Int) ∧ Hid (MapP wr w4.heap.size (cntP (l.take j))) ∧ Hid (Below w4.heap.size w4 wr)) (fun _ i _ => m - (intOf i).toNat)
  case atStart => exact ⟨0, by omega, rfl, HM0, HBV⟩
  case round =>
    clear HM0 HBV
    obtain ⟨j, hj, rfl, HMj, HBj⟩ := hrel
    obtain ⟨p0, p1, p2⟩ := HG.out wr HBj.out
    by_cases hlt : j < m
    · have i1 : (j : Int) < (m : Int) := by omega
      obtain ⟨bq, o, x, rfl, hbq, hx, x0, x1, x2, hfa, hfb⟩ := p1.edge_at hlt
      have hbX : Below wr.heap.size wr (wr.alloc (.cells #[.int .i64 x.a, .int .i64 x.b, .bool x.n] 71)) := belowA (Below.refl _ _) _
      have hrX : (wr.alloc (.cells #[.int .i64 x.a, .int .i64 x.b, .bool x.n] 71)).heap[wr.heap.size]? = some (.cells #[.int .i64 x.a, .int .i64 x.b, .bool x.n] 71 (0, 0)) := heapNew rfl
      have hlw := HMj.out.lt
      have hcnt := cntP_le (l.take j) x.a x.b
      have hcl : (l.take j).length ≤ 60 := by rw [List.length_take]; omega
      have HCt := Lib.hid (cntP_take hx.out)
      have hfa2 : fitN x.a := hfa
      have hfb2 : fitN x.b := hfb
      have i0 : (0 : Int) ≤ (j : Int) := by omega
      clear p0 p1 p2 hfa hfb
      go_upto_region 9 with fail
      have HGX : Hid (dlG w4 w4.heap.size wr.heap.size (cntP (l.take j)) x (wr.alloc (.cells #[.int .i64 x.a, .int .i64 x.b, .bool x.n] 71))) := ⟨HMj.out.keep (hbX.block _ hlw), hrX, below_next HBj.out hbX⟩
      generalize wr.alloc (.cells #[.int .i64 x.a, .int .i64 x.b, .bool x.n] 71) = X at *
      obtain ⟨cnt, Hcnt⟩ : ∃ cnt, Hid (cnt = cntP (l.take j) x.a x.b) := ⟨_, rfl⟩
      rw [← Hcnt.out] at hcnt
      obtain ⟨g9, Hg9⟩ : ∃ g9, Hid (g9 = wr.heap.size) := ⟨_, rfl⟩
      rw [← Hg9.out] at HGX hrX ⊢
      clear x0 x1 x2 hbX hrX hx hbq
      refine drawnG mixed 10 123 [33, 34, 35, 36, 37, 38, 39, 40, 41, 42] (dlG w4 w4.heap.size g9 (cntP (l.take j)) x) (dlF w4.heap.size g9 x cnt) (fun i W W' => (i = 8 ∧ dlG w4 w4.heap.size g9 (cntP (l.take j)) x W') ∨ W' = W) (fun _ => none) (fun i k => !(decide (i = 9) && decide (k = 8))) rfl (by kernel_rfl) (by kernel_rfl) (by kernel_rfl) rfl ?_ ?_ ?_ ?_ ?_
      · exact ⟨HGX.out.1.keep rfl, HGX.out.2.1, HGX.out.2.2.drew⟩
      · rintro i k v W W' hik hp hF (⟨rfl, -⟩ | rfl)
        · unfold dlF at hF ⊢
          split at hF
          all_goals first | exact hF | exact absurd rfl hik | (exfalso; simp at hp) | trivial
        · exact hF
      · rintro i W W' hG (⟨-, h⟩ | rfl)
        · exact h
        · exact hG
      · intro i o2 a2 W hi ho hd hold hG hw
        have hr7 : a2.tmps[7]? = some (.map (some w4.heap.size)) := hold 7 (by kernel_rfl)
        have hr9 : a2.tmps[9]? = some (.pointer (some ⟨g9, 0, none⟩)) := hold 9 (by kernel_rfl)
        obtain ⟨q0, q1, q2⟩ := facts3 hG.2.1
        have hG9 := (Array.getElem?_eq_some_iff.1 hG.2.1).1
        have hg9w : w4.heap.size < g9 := by rw [Hg9.out]; exact hlw
        have hc0 : (0 : Int) ≤ cnt := hcnt.1
        have hc1 : cnt ≤ 60 := by omega
        have hwr : IntKind.i64.wrap (cnt + 1) = cnt + 1 := by simp [IntKind.wrap, IntKind.signed, IntKind.bits]; omega
        clear hold
        match i, hi, ho with
        | 0, _, ho =>
          injection ho with ho; subst ho
          exact .inl ⟨rfl, op_val _ (by simp [execOp, Act.eval, go_sem, hr7]) ⟨_, rfl, .inr rfl, rfl⟩⟩
        | 1, _, ho =>
          injection ho with ho; subst ho
          exact .inl ⟨rfl, op_val _ (by simp [execOp, Act.eval, go_sem, hr9]) ⟨_, rfl, .inr rfl, rfl⟩⟩
        | 2, _, ho =>
          obtain ⟨v1, h1, e1⟩ := hw 1 34 (by kernel_rfl)
          obtain rfl : v1 = .pointer (some ⟨g9, 0, none⟩) := e1
          injection ho with ho; subst ho
          exact .inl ⟨rfl, op_val _ (by simp [execOp, Act.eval, go_sem, h1, q0]) ⟨_, rfl, .inr rfl, rfl⟩⟩
        | 3, _, ho =>
          injection ho with ho; subst ho
          exact .inl ⟨rfl, op_val _ (by simp [execOp, Act.eval, go_sem, hr9]) ⟨_, rfl, .inr rfl, rfl⟩⟩
        | 4, _, ho =>
          obtain ⟨v3, h3, e3⟩ := hw 3 36 (by kernel_rfl)
          obtain rfl : v3 = .pointer (some ⟨g9, 1, none⟩) := e3
          injection ho with ho; subst ho
          exact .inl ⟨rfl, op_val _ (by simp [execOp, Act.eval, go_sem, h3, q1]) ⟨_, rfl, .inr rfl, rfl⟩⟩
        | 5, _, ho =>
          obtain ⟨v2, h2, e2⟩ := hw 2 35 (by kernel_rfl)
          obtain rfl : v2 = .int .i64 x.a := e2
          obtain ⟨v4, h4, e4⟩ := hw 4 37 (by kernel_rfl)
          obtain rfl : v4 = .int .i64 x.b := e4
          injection ho with ho; subst ho
          exact .inl ⟨rfl, op_val _ (by simp [execOp, Act.eval, go_sem, h2, h4, pairK]) ⟨_, rfl, .inr rfl, rfl⟩⟩
        | 6, _, ho =>
          obtain ⟨v0, h0, e0⟩ := hw 0 33 (by kernel_rfl)
          obtain rfl : v0 = .map (some w4.heap.size) := e0
          obtain ⟨v5, h5, e5⟩ := hw 5 38 (by kernel_rfl)
          obtain rfl : v5 = pairK x.a x.b := e5
          injection ho with ho; subst ho
          have hrun := hG.1.lookup keyLaw2 keyOf2 Tryz.underlying70 (fun u => zero_int u) hfa2 hfb2
          rw [← Hcnt.out] at hrun
          exact .inl ⟨rfl, op_val _ (by simp [execOp, Act.eval, h0, h5, hrun]) ⟨_, rfl, .inr rfl, rfl⟩⟩
        | 7, _, ho =>
          obtain ⟨v6, h6, e6⟩ := hw 6 39 (by kernel_rfl)
          obtain rfl : v6 = .int .i64 cnt := e6
          injection ho with ho; subst ho
          exact .inl ⟨rfl, op_val _ (by simp [execOp, Act.eval, go_sem, h6, hwr]) ⟨_, rfl, .inr rfl, rfl⟩⟩
        | 8, _, ho =>
          obtain ⟨v0, h0, e0⟩ := hw 0 33 (by kernel_rfl)
          obtain rfl : v0 = .map (some w4.heap.size) := e0
          obtain ⟨v5, h5, e5⟩ := hw 5 38 (by kernel_rfl)
          obtain rfl : v5 = pairK x.a x.b := e5
          injection ho with ho; subst ho
          obtain ⟨v0', st, W2, hrun, hM2, hE2, hO2⟩ := hG.1.entry keyLaw2 keyOf2 Tryz.underlying70 (fun u => zero_int u) hfa2 hfb2
          exact .inl ⟨rfl, op_valW (.tuple #[v0', goInt st]) (w' := W2) (by simp [execOp, Act.eval, h0, h5, hrun]) ⟨_, rfl, .inl ⟨rfl, hM2, (hO2.block _ hG9 (by simp; omega)).trans hG.2.1, hG.2.2.trans (hO2.below (fun b hb => by simp at hb; omega) hG.2.2.size)⟩, v0', st, rfl, hE2⟩⟩
        | 9, _, ho =>
          obtain ⟨v8, h8, v0', st, rfl, hE2⟩ := hw 8 41 (by kernel_rfl)
          injection ho with ho; subst ho
          exact .inl ⟨rfl, op_val _ (by simp [execOp, Act.eval, go_sem, h8]) ⟨_, rfl, .inr rfl, st, rfl, hE2⟩⟩
        | n_ + 10, hi, _ => omega
      · intro o2 u W ho hG hw
        have e33 : u 33 = .map (some w4.heap.size) := hw 0 33 (by decide) rfl (by kernel_rfl)
        have e40 : u 40 = .int .i64 (cnt + 1) := hw 7 40 (by decide) rfl (by kernel_rfl)
        obtain ⟨st, e42, hE2⟩ : ∃ st : Nat, u 42 = goInt st ∧ EntAt W w4.heap.size x.a x.b st := hw 9 42 (by decide) rfl (by kernel_rfl)
        obtain ⟨W2, hrun, hM2, hO2⟩ := hG.1.store (P := Tryz.prog) (t := 70) hE2 (cnt + 1)
        rw [Hcnt.out, ← HCt.out] at hM2
        have HM2 := Lib.hid hM2
        have HB2 : Hid (Below w4.heap.size w4 W2) := hG.2.2.trans (hO2.below (fun b hb => by simp at hb; omega) hG.2.2.size)
        have hop : o2.op = .entryStore 70 (.tmp 33) (.tmp 42) (.tmp 40) := by injection ho with ho; subst ho; rfl
        have hds : o2.dst = none := by injection ho with ho; subst ho; rfl
        clear ho
        simp only [List.foldl_cons, List.foldl_nil, Act.put, List.setIfInBounds_toArray, List.set_cons_zero, List.set_cons_succ]
        rw [e33, e40, e42]
        refine op_skip (w' := W2) (by simp [execOp, hop, Act.eval, hrun]) ?_
        rw [hds]
        simp only [Act.put]
        clear hw hG e33 e40 e42 hE2 hrun hM2 hO2 hop hds HCt HGX
        go_wp2_with fail
        go_roundw
        case rel => exact ⟨j + 1, by omega, by go_num, HM2, HB2⟩
        case measure => simp [intOf]; omega
    · have i1 : ¬ (j : Int) < (m : Int) := by omega
      have hjm : l.take j = l := List.take_of_length_le (by have := Hlen.out; omega)
      have HM : Hid (MapP wr w4.heap.size (cntP l)) := by have := HMj.out; rw [hjm] at this; exact this
      obtain ⟨f0, f1⟩ := facts2 p0
      have HPa := Lib.hid (pathB_any HRt.out (by omega) A m c a b wr p1)
      clear HMj hjm p0 p1 p2
      go_wp2_with fail
      refine HPa.out.mono ?_
      rintro e w5 ⟨A10, c10, rfl, hs10, hb5⟩
      have HB5 := Lib.hid (HBj.out.trans (hb5.mono HBj.out.size))
      have HM5 := Lib.hid (HM.out.keep (hb5.block _ HM.out.lt))
      have H10 := Lib.hid hs10
      clear hs10 hb5 HPa f0 f1 HM HBj
      obtain ⟨p0, p1, p2⟩ := HG.out w5 HB5.out
      obtain ⟨f0, f1⟩ := facts2 p0
      have HRe := Lib.hid (reachB_any HRt.out (by omega) A m c a w5 p1)
      clear p0 p1 p2
      go_wp2_with fail
      refine HRe.out.mono ?_
      rintro e w6 ⟨A53, c53, rfl, hs53, hb6⟩
      have HB6 := Lib.hid (HB5.out.trans (hb6.mono HB5.out.size))
      have HM6 := Lib.hid (HM5.out.keep (hb6.block _ HM5.out.lt))
      have H10b := Lib.hid (H10.out.keep hb6)
      have H53 := Lib.hid hs53
      have hkr := reachR_len N l a
      obtain ⟨kr, Hkr⟩ : ∃ kr, Hid (kr = (reachR N l a).length) := ⟨_, rfl⟩
      rw [← Hkr.out] at H53 hkr ⊢
      clear hs53 hb6 HRe f0 f1 H10 HM5 HB5
      go_wp2_with fail
      go_loopw [12, 14, 55] (fun o _ i wr => ∃ q : Nat, q ≤ kr ∧ i = .int .i64 (q : Int) ∧ o = .int .i64 (occ ((reachR N l a).take q) b : Int) ∧ wr = w6) (fun _ _ i _ => kr - (intOf i).toNat)
      case atStart => exact ⟨0, by omega, rfl, by simp [occ], rfl⟩
      case round =>
        obtain ⟨q, hq, rfl, rfl, rfl⟩ := hrel
        have i0 : (0 : Int) ≤ (q : Int) := by omega
        have hoc := occ_le ((reachR N l a).take q) b
        have hocl : ((reachR N l a).take q).length ≤ 32 := by rw [List.length_take, ← Hkr.out]; omega
        by_cases hlt : q < kr
        · have j1 : (q : Int) < (kr : Int) := by omega
          obtain ⟨bq, o, y, rfl, -, hy, y0, hfy⟩ := H53.out.int_at hlt
          obtain ⟨yn, hyn, rfl⟩ : ∃ yn, (reachR N l a)[q]? = some yn ∧ ((yn : Nat) : Int) = y := by
            have := hy.out
            rw [List.getElem?_map, Option.map_eq_some_iff] at this
            exact this
          have hot := occ_take hyn b
          obtain ⟨o0, ho0⟩ : ∃ o0, Hid (o0 = occ ((reachR N l a).take q) b) := ⟨_, rfl⟩
          rw [← ho0.out] at hot hoc ⊢
          have ho32 : (o0 : Int) ≤ 32 := by omega
          have HOt := Lib.hid hot
          clear hy hot
          by_cases hyb : ((yn : Nat) : Int) = b
          · have e1 : (((yn : Nat) : Int) == b) = true := by simp [hyb]
            have HO5 : Hid (occ ((reachR N l a).take (q + 1)) b = o0 + 1) := by show _ = _; rw [HOt.out, if_pos hyb]
            clear hyb HOt
            go_wp2_with fail
            go_roundw
            case rel => exact ⟨q + 1, by omega, by go_num, by rw [HO5.out]; go_num, trivial⟩
            case measure => simp [intOf]; omega
          · have e1 : (((yn : Nat) : Int) == b) = false := by simp [hyb]
            have HO5 : Hid (occ ((reachR N l a).take (q + 1)) b = o0) := by show _ = _; rw [HOt.out, if_neg hyb]; rfl
            clear hyb HOt
            go_wp2_with fail
            go_roundw
            case rel => exact ⟨q + 1, by omega, by go_num, by rw [HO5.out], trivial⟩
            case measure => simp [intOf]; omega
        · have j1 : ¬ (q : Int) < (kr : Int) := by omega
          have hqr : (reachR N l a).take q = reachR N l a := List.take_of_length_le (by have := Hkr.out; omega)
          rw [hqr]
          clear hqr hoc hocl
          obtain ⟨oc, Hoc⟩ : ∃ oc, Hid (oc = occ (reachR N l a) b) := ⟨_, rfl⟩
          rw [← Hoc.out]
          obtain ⟨k, Hk⟩ : ∃ k, Hid (k = (pathR N l a b).length) := ⟨_, rfl⟩
          have hk33 := pathR_len N l a b
          rw [← Hk.out] at H10b hk33 ⊢
          go_upto_region 19 with fail
          go_cut [93] (fun v W => v = .bool false ∧ W = wr)
          case first =>
            rcases path_facts HRt.out a b with ⟨q1, q2⟩ | ⟨p, q1, q2, q3, q4, q5, q6⟩
            · obtain rfl : oc = 0 := by rw [Hoc.out]; exact q2
              obtain rfl : k = 0 := by rw [Hk.out, q1]; rfl
              clear q1 q2
              go_wp2_with fail
              go_meet
              exact ⟨rfl, rfl⟩
            · obtain rfl : oc = 1 := by rw [Hoc.out]; exact q6
              obtain ⟨K, hK⟩ : ∃ K, Hid (K = p.length) := ⟨_, rfl⟩
              obtain rfl : k = K + 1 := by rw [Hk.out, q2, hK.out]; rfl
              have hK1 : 0 < K := by rw [hK.out]; exact List.length_pos_iff.2 q1
              obtain ⟨b0, o0, y0, rfl, -, hy0, x0, -⟩ := H10b.out.int_at (i := 0) (by omega)
              obtain ⟨b1, o1, y1, e1, -, hy1, x1, -⟩ := H10b.out.int_at (i := K) (by omega)
              injection e1 with e1
              injection e1 with e1 e2 _
              subst e1 e2
              have hya : y0 = a := by
                have := hy0.out
                rw [q2] at this
                simp only [List.map_cons, List.getElem?_cons_zero, Option.some.injEq] at this
                omega
              have hyb : y1 = b := by
                have := hy1.out
                rw [q2, List.getElem?_map, hK.out, way_last p a.toNat] at this
                simp only [Option.map_some, Option.some.injEq] at this
                omega
              subst hya hyb
              rw [Nat.add_zero] at x0
              have n1 : ¬ ((K : Int) + 1 < 2) := by omega
              have n2 : (y0 != y0) = false := by simp
              have n3 : (y1 != y1) = false := by simp
              have n4 : (0 : Int) ≤ (K : Int) := by omega
              have n5 : (K : Int) < (K : Int) + 1 := by omega
              clear q1 q2 q3 q4 q5 q6 hy0 hy1
              go_wp2_with fail
              go_meet
              exact ⟨rfl, rfl⟩
          case rest =>
          obtain ⟨rfl, rfl⟩ := hcut
          go_wp2_with fail
          go_loopw [15, 96] (fun _ i wr' => ∃ q : Nat, q ≤ k ∧ i = .int .i64 (q : Int) ∧ Hid (Below wc.heap.size wc wr')) (fun _ i _ => k - (intOf i).toNat)
          case atStart => exact ⟨0, by omega, rfl, Below.refl _ _⟩
          case round =>
            obtain ⟨q, hq, rfl, HBq⟩ := hrel
            have HMq : Hid (MapP wr w4.heap.size (cntP l)) := HM6.out.keep (HBq.out.block _ HM6.out.lt)
            have H10q : Hid (SliceIs Enc.int wr wr.heap.size A10 k c10 ((pathR N l a b).map (fun x : Nat => (x : Int)))) := H10b.out.keep HBq.out
            have HBd : Hid (Below wc.heap.size wc wr.drew) := HBq.out.drew
            have i0 : (0 : Int) ≤ (q : Int) := by omega
            by_cases hlt : q < k
            · have j1 : (q : Int) < (k : Int) := by omega
              cases q with
              | zero =>
                go_wp2_with fail
                refine drawnS mixed _ (fun W => W = wr.drew) rfl (by kernel_rfl) rfl rfl ?_
                iterate 17
                  apply seqS_op
                  · rintro W rfl
                    go_wp2_with fail
                    exact ⟨rfl, rfl, fun d hd => by cases hd; simp only [List.getElem?_toArray, List.getElem?_cons_succ, List.getElem?_cons_zero]; rfl, rfl⟩
                  simp only [Act.put, List.setIfInBounds_toArray, List.set_cons_succ, List.set_cons_zero]
                apply seqS_end
                rintro W rfl
                go_wp2_with fail
                go_roundw
                case rel => exact ⟨1, by omega, by go_num, HBd⟩
                case measure => simp [intOf]; omega
              | succ i =>
                obtain ⟨x, y, hpx, hpy, hxy⟩ : ∃ x y : Nat, (pathR N l a b)[i]? = some x ∧ (pathR N l a b)[i + 1]? = some y ∧ hasL l (x : Int) (y : Int) = true := by
                  rcases path_facts HRt.out a b with ⟨q1, q2⟩ | ⟨p, q1, q2, q3, q4, q5, q6⟩
                  · exfalso
                    have := Hk.out
                    rw [q1] at this
                    simp at this
                    omega
                  · have hk2 : i + 1 < (pathR N l a b).length := by rw [← Hk.out]; exact hlt
                    refine ⟨_, _, List.getElem?_eq_getElem (by omega), List.getElem?_eq_getElem hk2, ?_⟩
                    exact way_at p a.toNat i _ _ q3 (by rw [← q2]; exact List.getElem?_eq_getElem (by omega)) (by rw [← q2]; exact List.getElem?_eq_getElem hk2)
                obtain ⟨bq, oq, x', rfl, -, hx', x0, hfx⟩ := H10q.out.int_at (i := i) (by omega)
                obtain ⟨bq', oq', y', e1, -, hy', y0, hfy⟩ := H10q.out.int_at (i := i + 1) (by omega)
                injection e1 with e1
                injection e1 with e1 e2 _
                subst e1 e2
                obtain rfl : x' = (x : Int) := by
                  have := hx'.out
                  rw [List.getElem?_map, hpx] at this
                  exact (Option.some.inj this).symm
                obtain rfl : y' = (y : Int) := by
                  have := hy'.out
                  rw [List.getElem?_map, hpy] at this
                  exact (Option.some.inj this).symm
                have hlk := (HMq.out.keep (w' := wr.drew) rfl).lookup keyLaw2 keyOf2 Tryz.underlying70 (fun u => zero_int u) (show fitN (x : Int) from hfx) (show fitN (y : Int) from hfy)
                unfold pairK at hlk
                obtain ⟨ct, Hct⟩ : ∃ ct, Hid (ct = cntP l (x : Int) (y : Int)) := ⟨_, rfl⟩
                rw [← Hct.out] at hlk
                have hct : (ct == 0) = false := by rw [beq_eq_false_iff_ne, Hct.out]; exact cntP_has hxy
                have n1 : (0 : Int) < (i : Int) + 1 := by omega
                have n2 : (0 : Int) ≤ (i : Int) := by omega
                have n3 : (i : Int) < (k : Int) := by omega
                clear hpx hpy hxy hx' hy' hfx hfy H10q HMq
                go_wp2_with fail
                refine drawnS mixed _ (fun W => W = wr.drew) rfl (by kernel_rfl) rfl rfl ?_
                iterate 17
                  apply seqS_op
                  · rintro W rfl
                    go_wp2_with fail
                    exact ⟨rfl, rfl, fun d hd => by cases hd; simp only [List.getElem?_toArray, List.getElem?_cons_succ, List.getElem?_cons_zero]; rfl, rfl⟩
                  simp only [Act.put, List.setIfInBounds_toArray, List.set_cons_succ, List.set_cons_zero]
                apply seqS_end
                rintro W rfl
                go_wp2_with fail
                go_roundw
                case rel => exact ⟨i + 1 + 1, by omega, by go_num, HBd⟩
                case measure => simp [intOf]; omega
            · have j1 : ¬ (q : Int) < (k : Int) := by omega
              have HBw : Hid (Below w4.heap.size w4 wr) := HB6.out.trans (HBq.out.mono HB6.out.size)
              clear HMq H10q HBd
              go_wp2_with fail
              refine drawnH mixed 6 123 [117, 118, 119, 120, 121, 122] [some (graphV (N : Int) A m c), none, none, some (graphV (N : Int) A m c), none, some (.bool true)] (dlE N l) rfl (by kernel_rfl) (by kernel_rfl) rfl (fun i v W W' h hb => dlE_keep h hb) ?_ ?_
              · intro i o2 a2 W hi ho hd hold hG hw
                have hr3 : a2.tmps[3]? = some (.pointer (some ⟨w.heap.size, 0, none⟩)) := hold 3 (by kernel_rfl)
                clear hold
                match i, hi, ho with
                | 0, _, ho =>
                  injection ho with ho; subst ho
                  obtain ⟨g0, g1⟩ := facts2 (HG.out W (HBw.out.trans (hG.mono HBw.out.size))).1
                  exact .inl ⟨rfl, op_val _ (by simp [execOp, Act.eval, hr3, go_sem, graphV, g0, g1]) ⟨_, rfl, Below.refl _ _, rfl⟩⟩
                | 1, _, ho =>
                  obtain ⟨v0, h0, e0⟩ := hw 0 117 (by kernel_rfl)
                  obtain rfl : v0 = graphV (N : Int) A m c := e0
                  injection ho with ho; subst ho
                  refine .inl ⟨rfl, op_call 17 _ rfl rfl #[graphV (N : Int) A m c] (by simp [Act.eval, h0]) _ Tryz.func17 (by kernel_rfl) (by kernel_rfl) ((turnR_any HRt.out A m c W (HG.out W (HBw.out.trans (hG.mono HBw.out.size))).2.1 (by omega)).mono ?_)⟩
                  rintro r w' ⟨A', k', c', rfl, hs, hb⟩
                  exact ⟨_, rfl, _, rfl, hb, A', k', c', rfl, hs⟩
                | 2, _, ho =>
                  obtain ⟨v1, h1, A1, k1, c1, rfl, hs1⟩ := hw 1 118 (by kernel_rfl)
                  have hk1 : k1 ≤ 60 := by have e1 := hs1.1; have e2 := turn_len HRt.out; have e3 := Hlen.out; omega
                  have hcT := turnR_any (puts_turn_right HRt.out) A1 k1 c1 W hs1 (by omega)
                  rw [turn_twice HRt.out] at hcT
                  injection ho with ho; subst ho
                  refine .inl ⟨rfl, op_call 17 _ rfl rfl #[graphV (N : Int) A1 k1 c1] (by simp [Act.eval, h1]) _ Tryz.func17 (by kernel_rfl) (by kernel_rfl) ((hcT).mono ?_)⟩
                  rintro r w' ⟨A', k', c', rfl, hs, hb⟩
                  exact ⟨_, rfl, _, rfl, hb, A', k', c', rfl, hs⟩
                | 3, _, ho =>
                  injection ho with ho; subst ho
                  obtain ⟨g0, g1⟩ := facts2 (HG.out W (HBw.out.trans (hG.mono HBw.out.size))).1
                  exact .inl ⟨rfl, op_val _ (by simp [execOp, Act.eval, hr3, go_sem, graphV, g0, g1]) ⟨_, rfl, Below.refl _ _, rfl⟩⟩
                | 4, _, ho =>
                  obtain ⟨v3, h3, e3⟩ := hw 3 120 (by kernel_rfl)
                  obtain rfl : v3 = graphV (N : Int) A m c := e3
                  injection ho with ho; subst ho
                  refine .inl ⟨rfl, op_call 13 _ rfl rfl #[graphV (N : Int) A m c] (by simp [Act.eval, h3]) _ Tryz.func13 (by kernel_rfl) (by kernel_rfl) ((document_any (N : Int) A m c l W (HG.out W (HBw.out.trans (hG.mono HBw.out.size))).2.1 (by omega)).mono ?_)⟩
                  rintro r w' ⟨A', c', rfl, hs, hb⟩
                  exact ⟨_, rfl, _, rfl, hb, A', _, c', rfl, hs⟩
                | 5, _, ho =>
                  obtain ⟨v2, h2, A2, k2, c2, rfl, hs2⟩ := hw 2 119 (by kernel_rfl)
                  obtain ⟨v4, h4, A4, k4, c4, rfl, hs4⟩ := hw 4 121 (by kernel_rfl)
                  injection ho with ho; subst ho
                  refine .inl ⟨rfl, op_call 9 _ rfl rfl #[graphV (N : Int) A2 k2 c2, .agg #[.int .i64 (N : Int), .slice A4 k4 c4]] (by simp [Act.eval, h2, h4]) _ Tryz.func9 (by kernel_rfl) (by kernel_rfl) ((sameG_any (N : Int) A2 A4 k2 k4 c2 c4 l W hs2 hs4).mono ?_)⟩
                  rintro r w' ⟨rfl, hb⟩
                  exact ⟨_, rfl, _, rfl, hb, rfl⟩
                | n_ + 6, hi, _ => omega
              · intro o2 u W ho hG hw
                have e0 : u 122 = .bool true := hw 5 122 (by decide) (by kernel_rfl)
                have Hb := Lib.hid (HG.out W (HBw.out.trans (hG.mono HBw.out.size))).2.2
                have hop : o2.op = .assign (.tmp 122) := by injection ho with ho; subst ho; rfl
                have hds : o2.dst = some 6 := by injection ho with ho; subst ho; rfl
                clear ho
                simp only [List.foldl_cons, List.foldl_nil, Act.put, List.setIfInBounds_toArray, List.set_cons_zero, List.set_cons_succ]
                rw [e0]
                refine op_val (.bool true) (by simp [execOp, hop, Act.eval]) ?_
                rw [hds]
                simp only [Act.put, List.setIfInBounds_toArray, List.set_cons_zero, List.set_cons_succ]
                clear hw hG e0 hop hds
                go_wp2_with fail
                go_ret
                exact ⟨rfl, Hb.out⟩
end Go.Proofs.YtgphngjniplonaaGreatDoor

namespace Go.Proofs.YtgphngjniplonaaGreatDoor
open Go.ChangeShapes Go.WideShapes Go.ChangeAt Go.RowKit
set_option linter.unusedVariables false
theorem params : Tryz.f6.params = #[31, 3, 3] := by kernel_rfl
theorem lifted (os : Os) (started : os.Started) (H : Type) (enc : TypeId × Value → H) :
    ReturnsInHanded {} Tryz.checked os 6 .any (fun w args => (Rows.depsLawsSpec.pre enc Tryz.prog Tryz.f6 Rows.depsLawsRow.domain false w args ∧ laidMet Tryz.prog laidP w) ∧ sizedMet enc Tryz.prog Tryz.f6 (OpenSpec.ofChange Rows.depsLawsSpec) false w args)
      (Rows.depsLawsSpec.post enc Tryz.prog Tryz.f6 false true false false) := by
  refine returnsInHanded_of_change_and (C := Tryz.checked) (X := fun w _ => laidMet Tryz.prog laidP w) (fun _ _ _ hh h => h.of_heap hh) own started (by kernel_rfl) Tryz.func6
    (ChangeSpec.witness_at (enc := enc) (C := Tryz.checked) (os := os) (X := fun w _ => laidMet Tryz.prog laidP w) false (laidWorldP os) #[.agg #[.int .i64 0, .slice none 0 0], .int .i64 0, .int .i64 0] 8 rfl (by kernel_rfl) (by kernel_rfl) (by kernel_rfl) (by kernel_rfl) (by kernel_rfl) (laidWorldP_met os _)) ?_
  intro W base args ds gs before hval0 hW hcnd hsz0 hL _
  have hval : ∀ (j : Nat) t v, Tryz.f6.params[j]? = some t → args[j]? = some v → Value.okWide Tryz.prog W .any base t v := hval0
  have hW' := hW
  obtain ⟨p, q, hA0, hV, rfl, hfz, hnd⟩ := hW
  have hA : DataW.TrodAll enc Tryz.prog W 0 (fun _ => true) true Tryz.f6.params.toList args.toList ds p := hA0
  have hsz : (DataW.weightsEach Tryz.prog (Tryz.f6.params.toList ++ Rows.depsLawsSpec.plain.varTypes Tryz.prog) (ds ++ gs)).all (· ≤ reachBytes) = true := hsz0
  rw [params] at hA hval hsz
  obtain ⟨v0, vs0, d0, ds0, p0, q0, hargs, rfl, rfl, h0, r0⟩ := trodAll_cons hA
  obtain ⟨v1, vs1, d1, ds1, p1, q1, rfl, rfl, rfl, h1, r1⟩ := trodAll_cons r0
  obtain ⟨v2, vs2, d2, ds2, p2, q2, rfl, rfl, rfl, h2, r2⟩ := trodAll_cons r1
  obtain ⟨rfl, rfl, rfl⟩ := trodAll_nil r2
  obtain rfl : args = #[v0, v1, v2] := by cases args; simp_all
  obtain ⟨rfl, rfl⟩ := trodVars_none hV
  have hwt : ∀ (j : Nat) (t : TypeId) (d : DataW H), [31, 3, 3][j]? = some t → [d0, d1, d2][j]? = some d → ∀ n ∈ d.weights Tryz.prog t, n ≤ reachBytes := fun j t d ht hd n hn => by
    have := List.all_eq_true.1 hsz n (DataW.weights_mem_each (j := j) (by rw [List.getElem?_append_left (by simpa using (List.getElem?_eq_some_iff.1 ht).1)]; exact ht) (by rw [List.getElem?_append_left (by simpa using (List.getElem?_eq_some_iff.1 hd).1)]; exact hd) n hn)
    simpa using this
  have lt0 : ∀ x ∈ p0, x.block < W.heap.size := by obtain ⟨m, hm⟩ := h0; exact DataW.trod_lt m _ _ _ hm
  have lt1 : ∀ x ∈ p1, x.block < W.heap.size := by obtain ⟨m, hm⟩ := h1; exact DataW.trod_lt m _ _ _ hm
  have lt2 : ∀ x ∈ p2, x.block < W.heap.size := by obtain ⟨m, hm⟩ := h2; exact DataW.trod_lt m _ _ _ hm
  obtain ⟨a0n, A0, n0, c0, a0, rfl, ok0, s0⟩ := open_graph (hval 0 31 v0 rfl rfl) h0 (hwt 0 _ _ rfl rfl)
  obtain ⟨a1, rfl, oka1⟩ := open_int' (k := .i64) (by kernel_rfl) (hval 1 3 v1 rfl rfl) h1
  obtain ⟨a2, rfl, oka2⟩ := open_int' (k := .i64) (by kernel_rfl) (hval 2 3 v2 rfl rfl) h2
  clear hA0 hval0
  refine (depsLaws_walk a0n a1 a2 A0 n0 c0 a0 W s0 (parW_of_laidP hL)).mono fun e W' ⟨he, bel⟩ => ?_
  subst he
  exact ⟨_, rfl, _, _, _, [], _, [], hW', trodAll_mk1 (shut_bool u_bool _),
    (trodAll_cons_mk (Below.trod laidOut (by kernel_rfl) (of_decide_eq_true (by kernel_rfl)) h0 bel lt0)
      (trodAll_cons_mk (Below.trod laidOut (by kernel_rfl) (of_decide_eq_true (by kernel_rfl)) h1 bel lt1)
      (trodAll_cons_mk (Below.trod laidOut (by kernel_rfl) (of_decide_eq_true (by kernel_rfl)) h2 bel lt2)
      trodAll_mk0))), rfl, bel.frame _, fun h => by cases h⟩
end Go.Proofs.YtgphngjniplonaaGreatDoor

namespace Go.Proofs.YtgphngjniplonaaGreatDoor
theorem closedF : joinedFacts Tryz.prog 6 Tryz.f6 Rows.depsLawsSpec Rows.depsLawsRow = true := by
  unfold joinedFacts
  simp only [Bool.and_eq_true]
  repeat' (with_reducible refine And.intro ?_ ?_)
  all_goals (as_aux_lemma => kernel_rfl)
end Go.Proofs.YtgphngjniplonaaGreatDoor
