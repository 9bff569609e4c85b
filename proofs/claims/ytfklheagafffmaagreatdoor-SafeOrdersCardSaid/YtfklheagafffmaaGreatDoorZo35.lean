/- My own texts SfStp, SfOrd, SfDoc, as far as this claim needs them. -/
import Derived.Test.YtfklheagafffmaaGreatDoorZo26
import Derived.Test.YtfklheagafffmaaGreatDoorZo28
import Derived.Test.YtfklheagafffmaaGreatDoorZo34
set_option linter.unusedVariables false
set_option linter.unusedSimpArgs false
namespace Go.Proofs.YtfklheagafffmaaGreatDoor
open Go.RowKit Go.Shelf
attribute [local go_sem] Oper.semAt_some
def encK (x : Nat × Hd) : Array Value := #[.int .i64 (x.1 : Int), x.2.v]
theorem encK_eq (k : Nat) (h : Hd) : encK (k, h) = #[.int .i64 (k : Int), h.v] := rfl
/-- what a round is given -/
def RK (x : GRule) (pre : List (Nat × Hd)) (y : Nat × Hd) (_N : Nat) (Wm W : World) : Prop :=
  ∃ S, (orderS x.body)[pre.length]? = some (y.1, S) ∧ pre.map Prod.fst = (orderK x.body).take pre.length ∧ SliceIs Enc.str W W.heap.size y.2.A y.2.n y.2.c (sieveL x S true) ∧ ∀ ad, y.2.A = some ad → Wm.heap.size ≤ ad.block
/-- what holds ahead of each round -/
structure StI (x : GRule) (B lp : Nat) (S₀ : List Nat) (W : World) (g N : Nat) (J : Nat → List (Nat × Hd) → World → Prop) (S : List ByteArray) (M : Nat) (A : Option Addr) (c : Nat) (L : List Nat) (pre : List (Nat × Hd)) (wr : World) : Prop where
  set : SetV wr g S M
  own : wr.ownsRow B 3 1 (.slice A L.length c) L.length (valsK L)
  far : ∀ b, (Value.slice A L.length c).ownBlock = some b → b < N ∧ b ≠ g
  j : J N pre wr
  old : ∀ b, b < B → b ≠ lp → b ∉ S₀ → wr.heap[b]? = W.heap[b]?
  size : N ≤ wr.heap.size
  lt : ∀ k ∈ L, k < x.body.length
  rest : RestK x.body pre.length S L
  told : pre.map Prod.fst = (orderK x.body).take pre.length
  cnt : M + 1500 * L.length ≤ 900000
def lenV : Value → Nat | .slice _ n _ => n | _ => 0
set_option maxRecDepth 100000 in
set_option maxHeartbeats 8000000 in
theorem steps_seq {w0 w : World} {d : Nat} {x : GRule} {a b : Hd} (hx : RuleAt d w0 w0.heap.size x a b) (hb0 : Below w0.heap.size w0 w) {gr : Nat} (hgr : w.heap[gr]? = some (.cells (ruleC x a b).toArray 27 (0, 0)))
    (S₀ : List Nat) (hgS : gr ∉ S₀) (hS : ∀ b ∈ S₀, w0.heap.size ≤ b) (hS2 : ∀ b ∈ S₀, b < w.heap.size) (hsz : (ruleT x).length ≤ 1500) (hbn : x.body.length ≤ 600) :
    SeqR3 Tryz.prog 32 #[.pointer (some ⟨gr, 0, none⟩)] encK (RK x) S₀ (fun xs => Hid (xs.map Prod.fst = orderK x.body)) (fun _ => True) w := by
  obtain ⟨b_A, b_n, b_c⟩ := b
  intro lp J Jx W hbW hlp hlW hJ h0 hY
  have HJ := Lib.hid hJ
  have H0 := Lib.hid h0
  have HY := Lib.hid hY
  have gl : gr < w.heap.size := (Array.getElem?_eq_some_iff.1 hgr).1
  have hsW := hbW.size
  have hs0 := hb0.size
  have hneq : gr ≠ lp := by omega
  have hglW : gr < W.heap.size := by omega
  have HK : Hid (∀ V : World, (∀ b, b < W.heap.size → b ≠ lp → b ∉ S₀ → V.heap[b]? = W.heap[b]?) → W.heap.size ≤ V.heap.size → RuleAt d V V.heap.size x a ⟨b_A, b_n, b_c⟩ ∧ V.heap[gr]? = some (.cells (ruleC x a ⟨b_A, b_n, b_c⟩).toArray 27 (0, 0))) := by
    intro V hV hz
    have hk : ∀ b, b < w0.heap.size → V.heap[b]? = w0.heap[b]? := fun b hb => (hV b (by omega) (by omega) (fun hbS => by have := hS b hbS; omega)).trans ((hbW.block b (by omega)).trans (hb0.block b hb))
    exact ⟨hx.mono' (by omega) (Kept.of hk), (hV gr hglW hneq hgS).trans ((hbW.block gr gl).trans hgr)⟩
  have HSl : Hid (∀ b ∈ S₀, b < W.heap.size) := fun b hb => by have := hS2 b hb; omega
  have Hbn : Hid (x.body.length = b_n) := hx.body.1
  have HSz : Hid (∀ y ∈ x.body, (insideL y).length ≤ 1500) := fun y hy => by
    have h1 : (insideL y).length ≤ (x.body.flatMap insideL).length := by
      obtain ⟨i, hi⟩ := List.mem_iff_getElem?.1 hy
      have := flatMap_take (f := insideL) hi
      have h2 := flatMap_len x.body insideL (i + 1)
      rw [this, List.length_append] at h2
      omega
    unfold ruleT at hsz
    simp only [List.length_append] at hsz
    omega
  have HTl : Hid ((ruleT x).length ≤ 1500) := hsz
  have hbn2 : b_n ≤ 600 := by rw [← Hbn.out]; exact hbn
  obtain ⟨V, hV⟩ : ∃ V, V = W.alloc (.map #[] 0) := ⟨_, rfl⟩
  have HVe := Lib.hid hV.symm
  have hbV : Below W.heap.size W V := by rw [hV]; exact belowA (Below.refl _ _) _
  have hzV : V.heap.size = W.heap.size + 1 := by rw [hV]; simp
  have HSV : Hid (SetV V W.heap.size [] 0) := by show SetV _ _ _ _; rw [hV]; exact SetV.made
  have HMap : Hid (∃ o, V.heap[W.heap.size]? = some o ∧ o.isCells = false) := by
    refine ⟨.map #[] 0, ?_, rfl⟩
    rw [hV]; exact heapNew rfl
  have c4 : V.cell? ⟨gr, 4, none⟩ = some (.slice b_A b_n b_c) := (facts6 ((hbV.block gr hglW).trans ((hbW.block gr gl).trans hgr))).2.2.2.2.1
  have HbV := Lib.hid hbV
  clear hx hgr hJ h0 hY hV hbV hsz hS hS2 hbn hgS
  refine (callsIn_wide (n := 0)).1 ?_
  refine callsIn_of_wp Tryz.func32 rfl trivial ?_ rfl
  simp only [Tryz.ntmps32, List.size_toArray, List.length_cons, List.length_nil, Nat.reduceAdd, Nat.reduceSub, Array.replicate_succ, Array.replicate_zero, List.push_toArray, List.append_toArray, List.nil_append, List.cons_append]
  have hmm := @run_makeMap Tryz.prog
  gi_wp2_with (rw [HVe.out])
  clear hmm
  gi_loopw [4, 5, 12] (fun l4 _ i wr => ∃ (k : Nat) (A : Option Addr) (c : Nat), k ≤ b_n ∧ i = .int .i64 (k : Int) ∧ l4 = .slice A k c ∧ Hid (wr.ownsRow V.heap.size 3 1 (.slice A k c) k (valsK (List.range k))) ∧ Hid (Below V.heap.size V wr)) (fun _ _ i _ => b_n - (intOf i).toNat)
  case atStart => exact ⟨0, none, 0, by omega, rfl, rfl, World.ownsRow_nil _ _ _ _, Below.refl _ _⟩
  case round =>
    obtain ⟨k, A, c, hk, rfl, rfl, HOw, HBr⟩ := hrel
    have i0 : (0 : Int) ≤ (k : Int) := by omega
    by_cases hlt : k < b_n
    · have i1 : (k : Int) < (b_n : Int) := by omega
      obtain ⟨A9, c9, w9, q1, q2, q3, q4⟩ := int_push (xs := intL (List.range k)) HOw.out (k : Int) (by omega) HBr.out.size
      have HRun := Lib.hid q1
      have HO9 : Hid (w9.ownsRow V.heap.size 3 1 (.slice A9 (k + 1) c9) (k + 1) (valsK (List.range (k + 1)))) := by
        show World.ownsRow _ _ _ _ _ _ _
        rw [valsK_range]; exact q2
      have HB9 : Hid (Below V.heap.size V w9) := HBr.out.trans q4
      clear q1 q2 q3 q4 HOw HBr
      gi_wp2_with (gi_at_builtin; refine wpListIn_app (o := ⟨some 18, _, _, _, _, _⟩) rfl _ _ _ rfl _ _ rfl rfl (HRun.out _) ?_)
      go_roundw
      case rel => exact ⟨k + 1, A9, c9, by omega, by go_num, rfl, HO9, HB9⟩
      case measure => simp [intOf]; omega
    · obtain rfl : b_n = k := by omega
      have i1 : ¬ (b_n : Int) < (b_n : Int) := by omega
      have hzr := HBr.out.size
      have HBW : Hid (Below W.heap.size W wr) := HbV.out.trans (HBr.out.mono HbV.out.size)
      have HI0 : Hid (StI x W.heap.size lp S₀ W W.heap.size wr.heap.size J [] 0 A c (List.range b_n) [] wr) := by
        refine ⟨HSV.out.below HBr.out, ?_, ?_, ?_, ?_, Nat.le_refl _, ?_, ?_, rfl, ?_⟩
        · rw [List.length_range]; exact own_lift HOw.out (fun b' hb' => by have := (own_blk HOw.out hb').1; omega)
        · intro b' hb'
          rw [List.length_range] at hb'
          have := own_blk HOw.out hb'
          exact ⟨this.2, by omega⟩
        · exact H0.out _ wr HBW.out (by omega) (Nat.le_refl _)
        · exact fun b' hb' _ _ => HBW.out.block b' hb'
        · intro k hk; rw [Hbn.out]; exact List.mem_range.1 hk
        · rw [← Hbn.out]; exact RestK.start _
        · rw [List.length_range]; omega
      obtain ⟨N, hN⟩ : ∃ N, N = wr.heap.size := ⟨_, rfl⟩
      rw [← hN] at HI0
      have hNg : W.heap.size < N := by omega
      clear HOw HBr hN HBW HSV c4
      have K27 : Hid ((Tryz.prog.info? 27).map (·.size) = some (ruleC x a ⟨b_A, b_n, b_c⟩).length) := by show _ = some 6; kernel_rfl
      have hwrN : W.heap.size ≤ N := by omega
      gi_wp2_with fail
      gi_loopw [4, 6, 7] (fun l4 _ _ wr2 => ∃ (S : List ByteArray) (M : Nat) (A : Option Addr) (c : Nat) (L : List Nat) (pre : List (Nat × Hd)), l4 = .slice A L.length c ∧ Hid (StI x W.heap.size lp S₀ W W.heap.size N J S M A c L pre wr2)) (fun l4 _ _ _ => lenV l4)
      case atStart => exact ⟨[], 0, A, c, List.range b_n, [], by rw [List.length_range], HI0⟩
      case round =>
        clear HI0
        obtain ⟨S, M, A, c, L, pre, rfl, HI⟩ := hrel
        have hN2 := HI.out.size
        have hcn := HI.out.cnt
        obtain ⟨hra, hrr⟩ := HK.out wr HI.out.old (by omega)
        have hLi : SliceIs Enc.int wr wr.heap.size A L.length c (intL L) := ints_is HI.out.own (by simp [intL]) (by omega) (intL_fits HI.out.lt (by rw [Hbn.out]; omega))
        have HNx := Lib.hid (sfNext_any d W.heap.size S M x a ⟨b_A, b_n, b_c⟩ A L.length c L wr HI.out.set hra hLi HI.out.lt HSz.out)
        have HRR0 := Lib.hid hrr
        clear hra hrr hLi
        gi_wp2_with (refine wpListIn_load_at gr 0 (ruleC x a ⟨b_A, b_n, b_c⟩) _ (row_cells HRR0.out) Tryz.underlying27 rfl K27.out rfl ?_)
        refine ⟨trivial, rfl, (callsIn_wide.2 HNx.out).mono ?_⟩
        rintro e w1 ⟨hb1, (⟨rfl, hnone⟩ | ⟨j, k, rfl, hnk, hj, her⟩)⟩
        · have HE : Hid (∃ N xs, Hid (xs.map Prod.fst = orderK x.body) ∧ J N xs w1) := ⟨N, pre, fst_stop (by rw [List.length_map]; exact HI.out.told) (by rw [List.length_map]; exact HI.out.rest.stop hnone), HJ.out N pre wr w1 HI.out.j HI.out.size (Mine.of_below hb1)⟩
          clear hb1 hnone HNx
          gi_wp2_with fail
          refine bodyPost_ret (results_none rfl _ _ _) rfl ?_
          exact ⟨⟨_, rfl⟩, .inl HE.out⟩
        · have hjl : j < L.length := (List.getElem?_eq_some_iff.1 hj).1
          have hkb : k < x.body.length := HI.out.lt k (List.mem_of_getElem? hj)
          have hkn : k < b_n := by rw [← Hbn.out]; exact hkb
          have ho1 := own_below HI.out.own hb1
          have hLi1 : SliceIs Enc.int w1 w1.heap.size A L.length c (intL L) := ints_is ho1 (by simp [intL]) (by omega) (intL_fits HI.out.lt (by rw [Hbn.out]; omega))
          obtain ⟨bA, oA, k', hA, -, hk', ck, -⟩ := hLi1.int_at hjl
          obtain rfl : k' = (k : Int) := by
            have h := hk'.out
            unfold intL at h
            rw [List.getElem?_map, hj] at h
            simpa using h.symm
          subst hA
          have HD := Lib.hid (delete_any (some ⟨bA, oA, none⟩) L.length c j (valsK L) w1 (by omega) hjl (own_down ho1 (Nat.zero_le _)) (valsK_one L))
          have hfar := HI.out.far bA (by rfl)
          have hbA := (own_blk HI.out.own (b := bA) rfl)
          have hz1 := hb1.size
          have HS1 := Lib.hid (HI.out.set.below hb1)
          have HB1 := Lib.hid hb1
          have HNk := Lib.hid (And.intro hnk (And.intro hj her))
          have i0 : (0 : Int) ≤ (j : Int) := by omega
          have i1 : (j : Int) < (L.length : Int) := by omega
          have i2 : (L.length : Int) ≤ 600 := by omega
          have HO1 : Hid (∀ b', b' < W.heap.size → b' ≠ lp → b' ∉ S₀ → w1.heap[b']? = W.heap[b']?) := fun b' hb hn hs => (hb1.block b' (by omega)).trans (HI.out.old b' hb hn hs)
          clear hb1 hnk hj her hLi1 hk' ho1 HNx
          gi_wp2_with fail
          refine ⟨trivial, rfl, (callsIn_wide.2 HD.out).mono ?_⟩
          rintro e w2 ⟨A2, c2, rfl, ho2, hout2, hblk2⟩
          have hbA2 : bA < w1.heap.size := by omega
          have HOut2 : Hid (Out [bA] w1 w2) := hout2
          have HO2 : Hid (∀ b', b' < W.heap.size → b' ≠ lp → b' ∉ S₀ → w2.heap[b']? = W.heap[b']?) := fun b' hb hn hs => (HOut2.out.block b' (by omega) (by simp; omega)).trans (HO1.out b' hb hn hs)
          have hz2 := HOut2.out.size
          have HS2 : Hid (SetV w2 W.heap.size S M) := HS1.out.same (HOut2.out.block _ HS1.out.lt (by simp; omega))
          have hl2 : L.length - 1 = (L.eraseIdx j).length := by rw [List.length_eraseIdx, if_pos hjl]
          have HOw2 : Hid (w2.ownsRow W.heap.size 3 1 (.slice A2 (L.eraseIdx j).length c2) (L.eraseIdx j).length (valsK (L.eraseIdx j))) := by
            show World.ownsRow _ _ _ _ _ _ _
            rw [valsK_cut, hl2] at ho2
            exact own_lift ho2 (fun b' hb' => by
              rw [← hl2, hblk2] at hb'
              obtain rfl : bA = b' := by simpa [Value.ownBlock] using hb'
              omega)
          have HFar2 : Hid (∀ b', (Value.slice A2 (L.eraseIdx j).length c2).ownBlock = some b' → b' = bA) := fun b' hb' => by
            rw [← hl2, hblk2] at hb'
            simpa [Value.ownBlock] using hb'.symm
          obtain ⟨hra2, -⟩ := HK.out w2 HO2.out (by omega)
          obtain ⟨bb, o, y, cs, hbA', hblt, hy, ⟨a', p', q', rfl, hL⟩, hcs⟩ := hra2.body.cells_at hkn
          dsimp only [Hd.v] at *
          subst hbA'
          have HyL : Hid ((insideL y).length ≤ 1500) := HSz.out y (List.mem_of_getElem? hy.out)
          have HCs : Hid (∀ j' v, (litC y a' p' q')[j']? = some v → w2.cell? ⟨bb, o + k * 17 + j', none⟩ = some v) := hcs
          have K70 : Hid ((Tryz.prog.info? 70).map (·.size) = some (litC y a' p' q').length) := by show _ = some 17; kernel_rfl
          have HIn := Lib.hid (inT_any d y a' p' q' w2 hL HyL.out)
          have HVs : Hid (∀ s ∈ varsL y, s.size ≤ reachN) := fun s hs => by
            obtain ⟨t, ht, rfl, -⟩ := varsL_has.1 hs
            exact (inside_ok hL t ht).1
          have hvl : (varsL y).length ≤ 1500 := Nat.le_trans (varsL_le y) HyL.out
          have c4 : w2.cell? ⟨gr, 4, none⟩ = some (.slice (some ⟨bb, o, none⟩) b_n b_c) := (facts6 (HK.out w2 HO2.out (by omega)).2).2.2.2.2.1
          have k0 : (0 : Int) ≤ (k : Int) := by omega
          have k1 : (k : Int) < (b_n : Int) := by omega
          clear hra2 hcs hL ho2 hblk2 hout2 HD HS1 ck
          gi_wp2_with (refine wpListIn_load_at bb (o + k * 17) (litC y a' p' q') _ HCs.out Tryz.underlying70 rfl K70.out rfl ?_)
          refine ⟨trivial, rfl, (callsIn_wide.2 HIn.out).mono ?_⟩
          rintro e w3 ⟨A3, c3, rfl, ho3, hb3⟩
          have hz3 := hb3.size
          have HPt := Lib.hid (setPut_any W.heap.size A3 (varsL y).length c3 (varsL y) S M w3 (HS2.out.below hb3) ((own_farS ho3 rfl (by have : (putL [] (insideL y)).length = (varsL y).length := rfl; omega) HVs.out).one (by omega)) (by omega))
          have HB3 := Lib.hid hb3
          clear ho3 hb3 HIn HCs c4
          gi_wp2_with fail
          refine ⟨trivial, rfl, (callsIn_wide.2 HPt.out).mono ?_⟩
          rintro e w4 ⟨rfl, hs4, hout4⟩
          have hz4 := hout4.size
          have HS4 := Lib.hid hs4
          have HOut4 := Lib.hid hout4
          have HO4 : Hid (∀ b', b' < W.heap.size → b' ≠ lp → b' ∉ S₀ → w4.heap[b']? = W.heap[b']?) := fun b' hb hn hs => (hout4.block b' (by omega) (by simp; omega)).trans ((HB3.out.block b' (by omega)).trans (HO2.out b' hb hn hs))
          obtain ⟨hra4, hrr4⟩ := HK.out w4 HO4.out (by omega)
          have HSv := Lib.hid (sieve_any d W.heap.size (S ++ varsL y) (M + (varsL y).length) true x a _ w4 hs4 hra4 HTl.out)
          have HR4 := Lib.hid hrr4
          clear hs4 hout4 hra4 hrr4 HPt
          gi_wp2_with (refine wpListIn_load_at gr 0 (ruleC x a ⟨some ⟨bb, o, none⟩, b_n, b_c⟩) _ (row_cells HR4.out) Tryz.underlying27 rfl K27.out rfl ?_)
          refine ⟨trivial, rfl, (callsIn_wide.2 HSv.out).mono ?_⟩
          rintro e w5 ⟨A5, m5, c5, rfl, hs5, hb5, hf5⟩
          have hz5 := hb5.size
          have HO5 : Hid (∀ b', b' < W.heap.size → b' ≠ lp → b' ∉ S₀ → w5.heap[b']? = W.heap[b']?) := fun b' hb hn hs => (hb5.block b' (by omega)).trans (HO4.out b' hb hn hs)
          have HMine : Hid (Mine W.heap.size N wr w5) :=
            ((((Mine.of_below HB1.out).trans (Mine.of_out HOut2.out (by intro b' hb'; simp at hb'; omega))).trans (Mine.of_below HB3.out)).trans (Mine.of_out HOut4.out (by intro b' hb'; simp at hb'; omega))).trans (Mine.of_below hb5)
          have HLv : Hid (litVars x.body k = varsL y) := litVars_at hy.out
          have HStep := Lib.hid (HI.out.rest.step HNk.out.1 HNk.out.2.1 HNk.out.2.2)
          rw [HLv.out] at HStep
          have HMin4 : Hid (Mine W.heap.size N wr w4) :=
            (((Mine.of_below HB1.out).trans (Mine.of_out HOut2.out (by intro b' hb'; simp at hb'; omega))).trans (Mine.of_below HB3.out)).trans (Mine.of_out HOut4.out (by intro b' hb'; simp at hb'; omega))
          have HYs := Lib.hid (fun mm => HY.out mm N pre (k, ⟨A5, m5, c5⟩) w4 w5 (HJ.out N pre wr w4 HI.out.j HI.out.size HMin4.out) (by omega) hb5 ⟨_, HStep.out.1, HI.out.told, hs5, hf5⟩)
          obtain ⟨fn, tmps, assign, body, hyy, hR⟩ := HYs.out 0
          have HRR := Lib.hid hR
          rw [encK_eq] at hyy
          dsimp only [Hd.v] at hyy
          have HB5 := Lib.hid hb5
          clear hR HYs hs5 hb5 hf5 HSv HMin4
          gi_wp2_with fail
          refine ⟨rfl, HRR.out.mono ?_⟩
          rintro e w6 (⟨rfl, hj6, hz6, hbl6⟩ | ⟨rfl, hj6⟩)
          · have hgS0 : W.heap.size ∉ S₀ := fun h => by have := HSl.out _ h; omega
            have hbS0 : bA ∉ S₀ := fun h => by have := HSl.out _ h; omega
            have HI6 : Hid (StI x W.heap.size lp S₀ W W.heap.size N J (S ++ varsL y) (M + (varsL y).length) A2 c2 (L.eraseIdx j) (pre ++ [(k, ⟨A5, m5, c5⟩)]) w6) := by
              refine ⟨?_, ?_, ?_, hj6, ?_, by omega, ?_, ?_, ?_, ?_⟩
              · exact (HS4.out.below HB5.out).same (hbl6 _ hNg hgS0 (by omega))
              · refine own_same HOw2.out fun b' hb' => ?_
                obtain rfl := HFar2.out b' hb'
                rw [hbl6 b' (by omega) hbS0 (by omega), HB5.out.block b' (by omega), HOut4.out.block b' (by omega) (by simp; omega), HB3.out.block b' (by omega)]
              · intro b' hb'
                obtain rfl := HFar2.out b' hb'
                exact hfar
              · intro b' hb hn hs
                rw [hbl6 b' (by omega) hs hn]; exact HO5.out b' hb hn hs
              · intro k' hk'; exact HI.out.lt k' (List.mem_of_mem_eraseIdx hk')
              · rw [List.length_append]; exact HStep.out.2
              · have h := fst_step (P := pre.map Prod.fst) (by rw [List.length_map]; exact HI.out.told) (by rw [List.length_map]; exact HStep.out.1)
                rw [List.length_map] at h
                rw [List.map_append, List.length_append]
                exact h
              · omega
            have HM : Hid ((L.eraseIdx j).length < L.length) := by show _ < _; omega
            clear hj6 hbl6 hyy HRR HI HB1 HB3 HB5 HOut2 HOut4 HOw2 HS2 HS4 HStep HMine
            gi_wp2_with fail
            go_roundw
            case rel => exact ⟨S ++ varsL y, M + (varsL y).length, A2, c2, L.eraseIdx j, pre ++ [(k, ⟨A5, m5, c5⟩)], rfl, HI6⟩
            case measure =>
              have := HM.out
              show lenV (Value.slice A2 (L.eraseIdx j).length c2) < lenV (Value.slice _ L.length c)
              simp only [lenV]; omega
          · have HJ6 := Lib.hid hj6
            clear hj6 hyy HRR
            gi_wp2_with fail
            refine bodyPost_ret (results_none rfl _ _ _) rfl ?_
            exact ⟨⟨_, rfl⟩, .inr ⟨N, _, trivial, HJ6.out⟩⟩
end Go.Proofs.YtfklheagafffmaaGreatDoor

namespace Go.Proofs.YtfklheagafffmaaGreatDoor
open Go.RowKit Go.Shelf
attribute [local go_sem] Oper.semAt_some
theorem SoftN.below {B N : Nat} {w w' : World} (h : SoftN B N w w') {A : Nat} (hA : A ≤ B) (hw : A ≤ w.heap.size) : Below A w w' :=
  ⟨h.os, h.tape, h.output, h.size, fun b hb => (h.same b _ (Array.getElem?_eq_getElem (by omega)) (.inl (by omega))).trans (Array.getElem?_eq_getElem (by omega)).symm⟩
theorem orderF_len (body : List GLit) : ∀ (f : Nat) (S : List ByteArray) (L : List Nat), (orderF body f S L).length ≤ f
  | 0, _, _ => Nat.le_refl _
  | f + 1, S, L => by
    rw [orderF]
    cases nextK body S L with
    | none => simp
    | some k => have := orderF_len body f (S ++ litVars body k) (L.erase k); simp; omega
theorem orderS_len (body : List GLit) : (orderS body).length ≤ body.length := orderF_len _ _ _ _
theorem orderK_len (body : List GLit) : (orderK body).length ≤ body.length := by unfold orderK; rw [List.length_map]; exact orderS_len body
theorem RK.lt {x : GRule} {pre : List (Nat × Hd)} {y : Nat × Hd} {N : Nat} {Wm W : World} (h : RK x pre y N Wm W) : pre.length < (orderS x.body).length := by
  obtain ⟨S, h1, -⟩ := h
  exact (List.getElem?_eq_some_iff.1 h1).1
def StepsPost (x : GRule) (a b : Hd) (w : World) (r : Ending) (w' : World) : Prop :=
  r = .returned (.func (.func 32) #[] #[.pointer (some ⟨w.heap.size, 0, none⟩)]) ∧ w' = w.alloc (.cells (ruleC x a b).toArray 27)
set_option maxRecDepth 100000 in
set_option maxHeartbeats 400000 in
theorem stepsF_any (w : World) (x : GRule) (a b : Hd) : Calls Tryz.prog 10 #[.agg (ruleC x a b).toArray] w (StepsPost x a b w) := by
  go_enter Tryz.func10, Tryz.ntmps10
  go_wp2_with fail
  go_ret
  exact ⟨rfl, rfl⟩
def OrdPost (L : List Nat) (w : World) (r : Ending) (w' : World) : Prop :=
  ∃ A c, r = .returned (.slice A L.length c) ∧ w'.ownsRow w.heap.size 3 1 (.slice A L.length c) L.length (valsK L) ∧ Below w.heap.size w w'
set_option maxRecDepth 100000 in
set_option maxHeartbeats 8000000 in
theorem order_any {w : World} {d : Nat} {x : GRule} {a b : Hd} (hx : RuleAt d w w.heap.size x a b) (hsz : (ruleT x).length ≤ 1500) (hbn : x.body.length ≤ 600) :
    Calls Tryz.prog 15 #[.agg (ruleC x a b).toArray] w (OrdPost (orderK x.body) w) := by
  have HRule := Lib.hid hx
  have Hbn := Lib.hid hbn
  have Hsz := Lib.hid hsz
  obtain ⟨P, HP⟩ : ∃ P : Ending → World → Prop, Hid (P = OrdPost (orderK x.body) w) := ⟨_, rfl⟩
  rw [← HP.out]
  obtain ⟨V, hV⟩ : ∃ V, V = (w.alloc (.cells (ruleC x a b).toArray 27)).alloc (.cells #[.slice none 0 0] 37) := ⟨_, rfl⟩
  have HVe := Lib.hid hV.symm
  have hr0 : V.heap[w.heap.size]? = some (.cells (ruleC x a b).toArray 27 (0, 0)) := by rw [hV]; exact heapOld (heapNew rfl)
  have hr1 : V.heap[w.heap.size + 1]? = some (.cells #[.slice none 0 0] 37 (0, 0)) := by rw [hV]; exact heapNew (by simp)
  have hzV : V.heap.size = w.heap.size + 2 := by rw [hV]; simp
  have hbV : Below w.heap.size w V := by rw [hV]; exact belowA (belowA (Below.refl _ _) _) _
  have HbV := Lib.hid hbV
  have HR0 := Lib.hid hr0
  have HR1 := Lib.hid hr1
  have K27 : Hid ((Tryz.prog.info? 27).map (·.size) = some (ruleC x a b).length) := by show _ = some 6; kernel_rfl
  have HSt := Lib.hid (stepsF_any V x a b)
  clear hx hV hbV hr0 hr1 hsz hbn
  refine (callsIn_wide (n := 8)).1 ?_
  refine callsIn_of_wp_marks Tryz.func15 rfl trivial ?_ rfl
  simp only [Tryz.ntmps15, List.size_toArray, List.length_cons, List.length_nil, Nat.reduceAdd, Nat.reduceSub, Array.replicate_succ, Array.replicate_zero, List.push_toArray, List.append_toArray, List.nil_append, List.cons_append]
  refine wpIn_wide.2 ?_
  go_wp2_with (first | rw [HVe.out] | refine wpList_load_at w.heap.size 0 (ruleC x a b) _ (row_cells HR0.out) Tryz.underlying27 rfl K27.out rfl rfl ?_)
  refine HSt.out.mono ?_
  rintro r w1 ⟨rfl, hw1⟩
  have hb1 : Below V.heap.size V w1 := by rw [hw1]; exact belowA (Below.refl _ _) _
  have hg1 : w1.heap[w.heap.size + 2]? = some (.cells (ruleC x a b).toArray 27 (0, 0)) := by rw [hw1]; exact heapNew hzV
  have hz1 : w1.heap.size = w.heap.size + 3 := by rw [hw1]; simp; omega
  have hbw1 : Below w.heap.size w w1 := HbV.out.trans (hb1.mono (by omega))
  have hr1 : w1.heap[w.heap.size + 1]? = some (.cells #[.slice none 0 0] 37 (0, 0)) := (hb1.block _ (by omega)).trans HR1.out
  have HQ := Lib.hid (steps_seq HRule.out hbw1 hg1 [w.heap.size + 1] (by simp) (by intro b hb; simp at hb; omega) (by intro b hb; simp at hb; omega) Hsz.out Hbn.out)
  have HL : Hid ((orderS x.body).length ≤ 600) := Nat.le_trans (orderS_len _) Hbn.out
  clear hb1 hg1 hw1 HSt
  go_wp2_with fail
  refine (wpIn_wide (n := 8)).1 (range_law3 (hg := rfl) (eg := enters_of Tryz.func32 (by kernel_rfl) rfl) (hseq := HQ.out) (hb0 := Below.refl _ _) ?hS (hps := fun _ => rfl)
    (I := fun N pre W => (∃ A c, W.heap[w.heap.size + 1]? = some (.cells #[.slice A pre.length c] 37 (0, 0)) ∧ Hid (W.ownsRow N 3 1 (.slice A pre.length c) pre.length (valsK (pre.map Prod.fst)))) ∧ Below w.heap.size w W ∧ w1.heap.size ≤ N)
    (Ix := fun _ _ _ _ => False)
    ?hI ?hIx ?h0 ?round ?done ?stop)
  case hS => intro b hb; simp at hb; omega
  case hI =>
    rintro N pre W W' ⟨⟨A, c, h5, h6⟩, h7, h8⟩ hs'
    exact ⟨⟨A, c, hs'.row h5 (.inl (by omega)), hs'.own h6.out (Nat.le_refl _)⟩, h7.trans (hs'.below (by omega) h7.size), h8⟩
  case hIx => exact fun _ _ _ _ _ h _ => h
  case h0 =>
    intro N W hs' hN0 _
    exact ⟨⟨none, 0, hs'.row hr1, World.ownsRow_nil _ _ _ _⟩, hbw1.trans (hs'.below (by omega) hbw1.size), by omega⟩
  case round =>
    rintro k N pre y Wm W1 K - hbm ⟨⟨A, c, h5, h6⟩, h7, h8⟩ hN hN2 hR hK
    have hzm := hbm.size
    have HK := Lib.hid hK
    have H6 := Lib.hid h6.out
    have hps : pre.length + 1 ≤ 600 := by have := hR.lt; have := HL.out; omega
    obtain ⟨yk, yh⟩ := y
    have Hpl : Hid ((pre ++ [(yk, yh)]).length = pre.length + 1) := by show _ = _; simp
    have Hpm : Hid ((pre ++ [(yk, yh)]).map Prod.fst = pre.map Prod.fst ++ [yk]) := by show _ = _; simp
    have HR5 := Lib.hid h5
    have HB7 := Lib.hid h7
    clear hK hR h6 h5 h7 HQ hr1
    rw [encK_eq]
    dsimp only [Hd.v]
    gi_wp2
    refine HK.out _ _ (Below.refl _ _) (fun W2 hs2 hz2 => ?_)
    clear HK
    have v3 := hs2.row HR5.out
    have hb2 : Below w.heap.size w W2 := HB7.out.trans (hs2.below (by omega) HB7.out.size)
    have c3 : W2.cell? ⟨w.heap.size + 1, 0, none⟩ = some (.slice A pre.length c) := (cell_of_row _ _ 0 _ _ _ v3).trans rfl
    have H62 := Lib.hid (hs2.own H6.out)
    have HBl : Hid (∀ b, (Value.slice A pre.length c).ownBlock = some b → N ≤ b) := fun b hb => (own_blk H6.out hb).1
    obtain ⟨A9, c9, w9, q1, q2, q3, q4⟩ := int_push (xs := intL (pre.map Prod.fst)) H62.out (yk : Int) (by omega) (by omega)
    have r3 := (q4.block _ (by omega)).trans v3
    have y3 : w9.cell? ⟨w.heap.size + 1, 0, none⟩ = some (.slice A pre.length c) := (cell_of_row _ _ 0 _ _ _ r3).trans rfl
    have f3 : w9.frozen? ⟨w.heap.size + 1, 0, none⟩ = false := frozen_of_row _ _ _ _ _ r3
    have HRun := Lib.hid q1
    have Q2 := Lib.hid q2
    have HR3 := Lib.hid r3
    have hb9 : Below w.heap.size w w9 := hb2.trans (q4.mono (by omega))
    have HT : Hid (Turn [w.heap.size + 1] N W2 (w9.setCell ⟨w.heap.size + 1, 0, none⟩ (.slice A9 (pre.length + 1) c9))) :=
      Turn.of_out (T := (w.heap.size + 1) :: (Value.slice A pre.length c).ownBlock.toList) ((q3.mono (fun b hb _ => List.mem_cons_of_mem _ hb)).trans (set_out w9 _ 0 _) (fun b hb _ => by simp at hb; simp [hb])) (by omega) (fun b hb => by
        rcases List.mem_cons.1 hb with hb | hb
        · exact .inl (by simp [hb])
        · exact .inr (HBl.out b (by simpa using hb)))
    have Hb9 := Lib.hid hb9
    clear v3 q1 q2 q3 r3 H62 H6 q4 hb9 hb2
    have HZ2 := Lib.hid hz2
    clear hz2 hs2
    gi_wp2_with (gi_at_builtin; refine wpListIn_app (o := ⟨some 12, _, _, _, _, _⟩) rfl _ _ _ rfl _ _ rfl rfl (HRun.out _) ?_)
    refine ⟨HT.out, ⟨A9, c9, ?_, ?_⟩, Hb9.out.setCell (by show w.heap.size ≤ w.heap.size + 1; omega) _, h8⟩
    · rw [Hpl.out]; exact set_zero HR3.out
    · show World.ownsRow _ _ _ _ _ _ _
      rw [Hpl.out, Hpm.out]
      have e : valsK (pre.map Prod.fst ++ [yk]) = (intL (pre.map Prod.fst) ++ [(yk : Int)]).flatMap intC := by unfold valsK intL; rw [List.map_append]; rfl
      rw [e]
      exact own_out' Q2.out (set_out w9 _ 0 _) (fun b hb hb' => by have := (own_blk Q2.out hb).1; simp at hb'; omega)
  case done =>
    rintro N xs W hxs ⟨⟨A, c, h5, h6⟩, h7, h8⟩ hD
    have hL1 : xs.map Prod.fst = orderK x.body := hxs.out
    have hL2 : xs.length = (orderK x.body).length := by rw [← hL1, List.length_map]
    rw [hL1] at h6
    rw [hL2] at h5 h6
    have c3 : W.cell? ⟨w.heap.size + 1, 0, none⟩ = some (.slice A (orderK x.body).length c) := (cell_of_row _ _ 0 _ _ _ h5).trans rfl
    have HDl := (Array.getElem?_eq_some_iff.1 hD).1
    have HHD := Lib.hid hD
    have H6 := Lib.hid h6.out
    clear hxs HQ hr1 h5 h6 hD hL1 hL2
    go_wp2_with fail
    refine ⟨by simp, .inl ⟨_, _, rfl, run_takeDeferred HHD.out, ?_⟩⟩
    have hsf : Soft w1.heap.size W (W.putObj w1.heap.size (.deferred none)) := Soft.putObj _ (Nat.le_refl _) HHD.out rfl
    have hpost : P (.returned (.slice A (orderK x.body).length c)) (W.putObj w1.heap.size (.deferred none)) := by
      rw [HP.out]
      refine ⟨A, c, rfl, ?_, h7.trans (hsf.below (by omega) h7.size)⟩
      exact own_lift (hsf.own H6.out) (fun b hb => by have := (own_blk H6.out hb).1; omega)
    exact ⟨.slice A (orderK x.body).length c, by simp [results, Tryz.results15, go_sem], hpost⟩
  case stop => exact fun _ _ _ _ _ h _ => h.elim
end Go.Proofs.YtfklheagafffmaaGreatDoor

namespace Go.Proofs.YtfklheagafffmaaGreatDoor
open Go.RowKit
/-- the places that are left -/
def freeK (tk : Nat → Bool) (n : Nat) : List Nat := (List.range n).filter (fun k => !tk k)
/-- the least place that serves -/
def leastK (p : Nat → Bool) (n : Nat) : Option Nat := (List.range n).find? p
theorem next_free (body : List GLit) (S : List ByteArray) (tk : Nat → Bool) (n : Nat) :
    nextK body S (freeK tk n) = (leastK (fun k => !tk k && earlyK body S k) n).or (leastK (fun k => !tk k && posK body k) n) := by
  unfold nextK freeK leastK
  rw [find_filter, find_filter]
theorem free_all (n : Nat) : freeK (fun _ => false) n = List.range n := by
  unfold freeK
  rw [List.filter_eq_self]
  intro a _; rfl
theorem free_erase (tk : Nat → Bool) (n k : Nat) : (freeK tk n).erase k = freeK (fun j => tk j || decide (j = k)) n := by
  unfold freeK
  have hnd : ((List.range n).filter (fun k => !tk k)).Nodup := List.nodup_range.sublist List.filter_sublist
  rw [hnd.erase_eq_filter, List.filter_filter]
  refine List.filter_congr fun j _ => ?_
  by_cases h : j = k <;> simp [h]
/-- a search from the top down: what serves at or above k, the least -/
def downK (p : Nat → Bool) (n k : Nat) : Option Nat := (List.range' k (n - k)).find? p
theorem downK_end (p : Nat → Bool) (n : Nat) : downK p n n = none := by unfold downK; rw [Nat.sub_self]; rfl
theorem downK_step {p : Nat → Bool} {n k : Nat} (hk : k < n) : downK p n k = if p k = true then some k else downK p n (k + 1) := by
  unfold downK
  rw [show n - k = (n - (k + 1)) + 1 by omega, List.range'_succ, List.find?_cons]
  cases h : p k <;> simp
theorem downK_zero (p : Nat → Bool) (n : Nat) : downK p n 0 = leastK p n := by
  unfold downK leastK
  rw [Nat.sub_zero, List.range_eq_range']
/-- a search from below: nothing serves under k -/
theorem leastK_at {p : Nat → Bool} {n k : Nat} (hk : k < n) (hn : ∀ j, j < k → p j = false) (hp : p k = true) : leastK p n = some k := by
  unfold leastK
  rw [List.find?_eq_some_iff_append]
  refine ⟨hp, List.range k, List.range' (k + 1) (n - (k + 1)), ?_, fun j hj => by rw [hn j (List.mem_range.1 hj)]; rfl⟩
  rw [List.range_eq_range', List.range_eq_range', show k :: List.range' (k + 1) (n - (k + 1)) = List.range' k (n - (k + 1) + 1) from rfl]
  have := @List.range'_append_1 0 k (n - (k + 1) + 1)
  rw [Nat.zero_add] at this
  rw [this, show k + (n - (k + 1) + 1) = n by omega]
theorem leastK_none {p : Nat → Bool} {n : Nat} (hn : ∀ j, j < n → p j = false) : leastK p n = none := by
  unfold leastK
  rw [List.find?_eq_none]
  intro j hj
  rw [hn j (List.mem_range.1 hj)]; simp
end Go.Proofs.YtfklheagafffmaaGreatDoor
