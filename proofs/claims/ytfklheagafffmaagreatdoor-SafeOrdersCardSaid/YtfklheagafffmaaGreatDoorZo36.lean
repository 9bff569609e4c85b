/- My own texts SdO, as far as this claim needs them. -/
import Derived.Test.YtfklheagafffmaaGreatDoorZo34
import Derived.Test.YtfklheagafffmaaGreatDoorZo35
import Derived.Deep.OwnRows
set_option linter.unusedVariables false
set_option linter.unusedSimpArgs false
namespace Go.Proofs.YtfklheagafffmaaGreatDoor
open Go.RowKit
theorem own_apart {w : World} {b1 e1 z1 n1 b2 e2 z2 n2 : Nat} {v1 v2 : Value} {x1 x2 : List Value} (h1 : w.ownsRow b1 e1 z1 v1 n1 x1) (h2 : w.ownsRow b2 e2 z2 v2 n2 x2) (he : e1 ≠ e2) : ∀ b, v2.ownBlock = some b → b ∉ v1.ownBlock.toList := by
  intro b hb hm
  have hb1 : v1.ownBlock = some b := by simpa using hm
  rcases h1.2 with ⟨rfl, -⟩ | ⟨g, cap, cur, rfl, -, hh, -⟩
  · cases hb1
  rcases h2.2 with ⟨rfl, -⟩ | ⟨g', cap', cur', rfl, -, hh', -⟩
  · cases hb
  injection hb1 with hb1
  injection hb with hb
  subst hb1
  subst hb
  rw [hh] at hh'
  injection hh' with e
  injection e with _ e
  exact he e
theorem RestK.step2 {body : List GLit} {done : Nat} {S : List ByteArray} {L : List Nat} {k : Nat} (h : RestK body done S L) (hn : nextK body S L = some k) :
    (orderS body)[done]? = some (k, S ++ litVars body k) ∧ RestK body (done + 1) (S ++ litVars body k) (L.erase k) := by
  have hm := nextK_mem hn
  have hl : L.length = (L.erase k).length + 1 := by rw [List.length_erase_of_mem hm]; have := List.length_pos_of_mem hm; omega
  unfold RestK at h ⊢
  rw [hl, orderF_some hn] at h
  constructor
  · have h1 := congrArg (fun l => l[0]?) h
    simp only [List.getElem?_drop, List.getElem?_cons_zero, Nat.add_zero] at h1
    exact h1
  · have h1 := congrArg (List.drop 1) h
    rw [List.drop_drop] at h1
    simpa using h1
/-- which places are taken, as a row -/
def tkV (n : Nat) (tk : Nat → Bool) : List Value := (List.range n).map (fun j => Value.bool (tk j))
theorem tkV_len (n : Nat) (tk : Nat → Bool) : (tkV n tk).length = n := by simp [tkV]
theorem tkV_get {n : Nat} {tk : Nat → Bool} {k : Nat} (hk : k < n) : (tkV n tk)[k]? = some (.bool (tk k)) := by
  unfold tkV
  rw [List.getElem?_map, List.getElem?_range hk]; rfl
theorem tkV_zero (n : Nat) : tkV n (fun _ => false) = List.replicate n (.bool false) := by
  apply List.ext_getElem?
  intro j
  by_cases h : j < n
  · rw [tkV_get h, List.getElem?_replicate, if_pos h]
  · rw [List.getElem?_eq_none (by rw [tkV_len]; omega), List.getElem?_eq_none (by simp; omega)]
theorem tkV_step {n : Nat} {tk : Nat → Bool} {k : Nat} (hn : k < n) : (tkV n tk).set k (.bool true) = tkV n (fun j => tk j || decide (j = k)) := by
  apply List.ext_getElem?
  intro j
  by_cases h : j < n
  · rw [tkV_get h]
    by_cases hj : k = j
    · subst hj
      rw [List.getElem?_set_self (by rw [tkV_len]; exact hn)]
      simp
    · rw [List.getElem?_set_ne hj, tkV_get h]
      simp [Ne.symm hj]
  · rw [List.getElem?_eq_none (by simp [tkV_len]; omega), List.getElem?_eq_none (by rw [tkV_len]; omega)]
theorem RuleAt.to {d : Nat} {V W : World} {B : Nat} {x : GRule} {a b : Hd} (h : RuleAt d V B x a b) (hb : Below B V W) (hz : B ≤ W.heap.size) : RuleAt d W W.heap.size x a b := h.mono' hz (Kept.of hb.block)
def bestI : Option Nat → Int | some k => (k : Int) | none => -1
/-- the second search: for an atom -/
def Srch (o1 : Option Nat) (q : Nat → Bool) (n k : Nat) (best : Int) : Prop :=
  (∃ b0 : Nat, o1 = some b0 ∧ best = (b0 : Int) ∧ k = 0) ∨ (o1 = none ∧ best = -1 ∧ ∀ j, j < k → q j = false) ∨ (o1 = none ∧ ∃ j : Nat, k = j + 1 ∧ best = (j : Int) ∧ leastK q n = some j)
theorem Srch.start (o1 : Option Nat) (q : Nat → Bool) (n : Nat) : Srch o1 q n 0 (bestI o1) := by
  cases o1 with
  | none => exact .inr (.inl ⟨rfl, rfl, fun j hj => by omega⟩)
  | some b => exact .inl ⟨b, rfl, rfl, rfl⟩
theorem Srch.end_ {o1 : Option Nat} {q : Nat → Bool} {n k : Nat} {best : Int} (h : Srch o1 q n k best) (hk : n ≤ k ∨ ¬ best < 0) : best = bestI (o1.or (leastK q n)) := by
  rcases h with ⟨b0, rfl, rfl, rfl⟩ | ⟨rfl, rfl, hn⟩ | ⟨rfl, j, rfl, rfl, hl⟩
  · rfl
  · rw [leastK_none (fun j hj => hn j (by omega))]; rfl
  · rw [hl]; rfl
theorem Srch.low {o1 : Option Nat} {q : Nat → Bool} {n k : Nat} {best : Int} (h : Srch o1 q n k best) (hb : best < 0) : o1 = none ∧ best = -1 ∧ ∀ j, j < k → q j = false := by
  rcases h with ⟨b0, rfl, rfl, rfl⟩ | h | ⟨rfl, j, rfl, rfl, hl⟩
  · omega
  · exact h
  · omega
theorem rlit_info : (Tryz.prog.info? 54).map (fun i => (i.zero, i.size)) = some (some (.agg zLit.toArray), zLit.toArray.size) := by kernel_rfl
theorem rlit_size (x : GLit) (a p q : Hd) : (Tryz.prog.info? 54).map (·.size) = some (litC x a p q).length := by
  show _ = some 17
  kernel_rfl
theorem bool_infoS : (Tryz.prog.info? 4).map (fun i => (i.zero, i.size, i.bytes)) = some (some (.bool false), 1, 1) := by kernel_rfl
set_option maxRecDepth 100000 in
set_option maxHeartbeats 16000000 in
theorem refOrder_any (d : Nat) (x : GRule) (a b : Hd) (w : World) (hx : RuleAt d w w.heap.size x a b) (hsz : (ruleT x).length ≤ 1500) (hbn : x.body.length ≤ 600) :
    Calls Tryz.prog 9 #[.agg (ruleC x a b).toArray] w (OrdPost (orderK x.body) w) := by
  obtain ⟨b_A, b_n, b_c⟩ := b
  have Hbn : Hid (x.body.length = b_n) := hx.body.1
  have hbn2 : b_n ≤ 600 := by rw [← Hbn.out]; exact hbn
  have hbl : (x.body.flatMap insideL).length ≤ 1500 := by unfold ruleT at hsz; simp only [List.length_append] at hsz; omega
  have HSz : Hid (∀ y ∈ x.body, (insideL y).length ≤ 1500) := fun y hy => by
    obtain ⟨i, hi⟩ := List.mem_iff_getElem?.1 hy
    have h1 := flatMap_take (f := insideL) hi
    have h2 := flatMap_len x.body insideL (i + 1)
    rw [h1, List.length_append] at h2
    omega
  have HOkB : Hid (∀ y ∈ x.body, ∀ s ∈ varsL y, s.size ≤ reachN) := fun y hy s hs => by
    obtain ⟨t, ht, rfl, -⟩ := varsL_has.1 hs
    exact (rule_ok hx t (by unfold ruleT; exact List.mem_append_right _ (List.mem_flatMap.2 ⟨y, hy, ht⟩))).1
  obtain ⟨V, hV⟩ : ∃ V, V = w.alloc (.cells (ruleC x a ⟨b_A, b_n, b_c⟩).toArray 35) := ⟨_, rfl⟩
  have HVe := Lib.hid hV.symm
  have hg : V.heap[w.heap.size]? = some (.cells (ruleC x a ⟨b_A, b_n, b_c⟩).toArray 35 (0, 0)) := by rw [hV]; exact heapNew rfl
  have hbV : Below w.heap.size w V := by rw [hV]; exact belowA (Below.refl _ _) _
  have hgl : w.heap.size < V.heap.size := (Array.getElem?_eq_some_iff.1 hg).1
  obtain ⟨gt, hgt⟩ : ∃ gt, gt = V.heap.size := ⟨_, rfl⟩
  have HX : Hid (RuleAt d V gt x a ⟨b_A, b_n, b_c⟩) := by show RuleAt _ _ _ _ _ _; rw [hgt]; exact hx.keep hbV
  have HbV : Hid (Below w.heap.size w V) := hbV
  have hwg : w.heap.size < gt := by omega
  have HC4 : Hid (∀ W, Below gt V W → W.cell? ⟨w.heap.size, 4, none⟩ = some (.slice b_A b_n b_c)) := fun W hW => (facts6 ((hW.block _ hwg).trans hg)).2.2.2.2.1
  have c4 := HC4.out V (Below.refl _ _)
  obtain ⟨U, hU⟩ : ∃ U, U = V.alloc (.cells (madeCells #[.bool false] b_n) 4) := ⟨_, rfl⟩
  have HUe := Lib.hid hU.symm
  have hbU : Below gt V U := by rw [hU, hgt]; exact belowA (Below.refl _ _) _
  have hzU : U.heap.size = gt + 1 := by rw [hU, hgt]; simp
  have HG0 : Hid (U.heap[gt]? = some (.cells (tkV b_n (fun _ => false)).toArray 4 (0, 0))) := by
    show _ = _
    rw [hU, hgt, tkV_zero]
    have e : (List.replicate b_n (Value.bool false)).toArray = madeCells #[.bool false] b_n := by rw [← toList_madeCells_one]
    rw [e]; exact heapNew rfl
  have hmk := fun W => run_make_row' (P := Tryz.prog) 95 4 (.bool false) 1 Tryz.underlying95 bool_infoS rfl .i64 .i64 b_n (by omega) (by omega) W
  have HBU := Lib.hid hbU
  have HRest0 : Hid (RestK x.body 0 [] (freeK (fun _ => false) b_n)) := by
    show RestK _ _ _ _
    rw [free_all, ← Hbn.out]; exact RestK.start _
  have HOl : Hid ((orderS x.body).length ≤ b_n) := by show _ ≤ _; rw [← Hbn.out]; exact orderS_len _
  obtain ⟨P, HP⟩ : ∃ P : Ending → World → Prop, Hid (P = OrdPost (orderK x.body) w) := ⟨_, rfl⟩
  rw [← HP.out]
  clear hx hV hU hbV hbU hg hsz hbl hgl
  go_enter Tryz.func9, Tryz.ntmps9
  go_wp2_with (first | rw [HVe.out] | rw [HUe.out])
  rw [← hgt]
  clear hmk hgt
  go_loopw [3, 4] (fun v3 v4 wr => ∃ (tk : Nat → Bool) (S : List ByteArray) (done : List Nat) (A3 : Option Addr) (c3 : Nat) (A4 : Option Addr) (m4 c4 : Nat), v3 = .slice A3 done.length c3 ∧ v4 = .slice A4 m4 c4 ∧
      Hid (wr.heap[gt]? = some (.cells (tkV b_n tk).toArray 4 (0, 0))) ∧ Hid (wr.ownsRow (gt + 1) 3 1 (.slice A3 done.length c3) done.length (valsK done)) ∧ Hid (wr.ownsRow (gt + 1) 9 1 (.slice A4 m4 c4) m4 (S.flatMap strC)) ∧
      Hid (S.length = m4) ∧ m4 ≤ 1500 * done.length ∧ Hid (∀ s ∈ S, s.size ≤ reachN) ∧ Hid (RestK x.body done.length S (freeK tk b_n)) ∧ Hid (done = (orderK x.body).take done.length) ∧ done.length ≤ b_n ∧ Hid (Below gt V wr) ∧ gt < wr.heap.size) (fun v3 _ _ => b_n + 1 - lenV v3)
  case atStart => exact ⟨fun _ => false, [], [], none, 0, none, 0, 0, rfl, rfl, HG0, World.ownsRow_nil _ _ _ _, World.ownsRow_nil _ _ _ _, rfl, by omega, (fun s hs => by cases hs), HRest0, rfl, by simp, HBU.out, by omega⟩
  case round =>
    clear HG0 HRest0 c4
    obtain ⟨tk, S, done, A3, c3, A4, m4, k4, rfl, rfl, HG, HO3, HO4, HSl, hm4, HSo, HRest, HDone, hdn, HB, hgz⟩ := hrel
    have c4 := HC4.out wr HB.out
    have HSi := Lib.hid (texts_isB HO4.out HSl.out (by omega) HSo.out)
    obtain ⟨W0, HW0⟩ : ∃ W0, Hid (W0 = wr) := ⟨_, rfl⟩
    have hgzW : gt < W0.heap.size := by rw [HW0.out]; exact hgz
    have HBW : Hid (Below gt V W0) := by show Below _ _ _; rw [HW0.out]; exact HB.out
    obtain ⟨p, Hp⟩ : ∃ p : Nat → Bool, Hid (p = fun k => !tk k && earlyK x.body S k) := ⟨_, rfl⟩
    have hst : Below wr.heap.size wr wr := Below.refl _ _
    go_wp2_with fail
    go_loopw [6, 7] (fun v6 v7 wr2 => ∃ (kk : Nat) (z : Int), kk ≤ b_n ∧ z = (kk : Int) - 1 ∧ v7 = .int .i64 z ∧ v6 = .int .i64 (bestI (downK p b_n kk)) ∧ Hid (Below W0.heap.size W0 wr2)) (fun _ v7 _ => (intOf v7 + 1).toNat)
    case atStart =>
      refine ⟨b_n, (b_n : Int) - 1, Nat.le_refl _, rfl, ?_, ?_, ?_⟩
      · first | go_num | simp
      · rw [downK_end]; rfl
      · rw [HW0.out]; exact hst
    case round =>
      clear c4 hst
      obtain ⟨kk, z, hkk, hz, rfl, rfl, HB2⟩ := hrel
      have HBv : Hid (Below gt V wr) := HBW.out.trans (HB2.out.mono (by omega))
      have hz2s := HB2.out.size
      have c4 := HC4.out wr HBv.out
      by_cases hzz : (0 : Int) ≤ z
      · obtain ⟨q, rfl⟩ : ∃ q : Nat, z = (q : Int) := ⟨z.toNat, by omega⟩
        obtain rfl : kk = q + 1 := by omega
        clear hz
        have hqn : q < b_n := by omega
        have i1 : (q : Int) < (b_n : Int) := by omega
        obtain ⟨bb, o, y, a', p', q', hmA, hbb, hy, hly, Hr⟩ := (RuleAt.to HX.out HBv.out (by omega)).body.lit_range hqn
        dsimp only at hmA
        subst hmA
        obtain ⟨Q, hQ⟩ : ∃ Q, Q = wr.alloc (.cells (litC y a' p' q').toArray 54) := ⟨_, rfl⟩
        have HQe := Lib.hid hQ.symm
        have hbQ : Below wr.heap.size wr Q := by rw [hQ]; exact belowA (Below.refl _ _) _
        have hrQ : Q.heap[wr.heap.size]? = some (.cells (litC y a' p' q').toArray 54 (0, 0)) := by rw [hQ]; exact heapNew rfl
        have hzQ : wr.heap.size < Q.heap.size := (Array.getElem?_eq_some_iff.1 hrQ).1
        have HRn : Hid (∀ W, Below Q.heap.size Q W → W.rangeAt wr.heap.size 0 (litC y a' p' q')) := fun W hW => range_row ((hW.block _ hzQ).trans hrQ)
        have HRn0 := Lib.hid (HRn.out Q (Below.refl _ _))
        have hyl := HSz.out y (List.mem_of_getElem? hy.out)
        have hvl : (varsL y).length ≤ 1500 := Nat.le_trans (varsL_le y) hyl
        have HBQ : Hid (Below W0.heap.size W0 Q) := HB2.out.trans (hbQ.mono HB2.out.size)
        have HI := Lib.hid (refIn_any d y a' p' q' Q (hly.keep hbQ) hyl)
        have HSiQ : Hid (∀ W, Below Q.heap.size Q W → SliceIs Enc.str W W.heap.size A4 m4 k4 S) := fun W hW => by
          have h := HSi.out
          rw [← HW0.out] at h
          exact (h.keep HBQ.out).keep hW
        have HSe := Lib.hid (fun (W : World) (hW : Below Q.heap.size Q W) => refSets_any d A4 m4 k4 S y a' p' q' W (HSiQ.out W hW) ((hly.keep hbQ).keep hW) hyl)
        have HVs := Lib.hid (HOkB.out y (List.mem_of_getElem? hy.out))
        have t0 : Q.cell? ⟨gt, q, none⟩ = some (.bool (tk q)) := by
          have h1 : Q.heap[gt]? = some (.cells (tkV b_n tk).toArray 4 (0, 0)) := by
            have h2 := HG.out
            rw [← HW0.out] at h2
            exact (HBQ.out.block _ (by omega)).trans h2
          rw [cell_of_row _ _ q _ _ _ h1, List.getElem?_toArray, tkV_get hqn]
        have x0 := (facts17 hrQ).1
        have HEk : Hid (p q = (!tk q && earlyB S y)) := by show _ = _; rw [Hp.out]; show (!tk q && earlyK x.body S q) = _; rw [earlyK_at hy.out]
        have HStep := Lib.hid (downK_step (p := p) hqn)
        have hqq : Below Q.heap.size Q Q := Below.refl _ _
        have hyu : undef = Value.tuple #[] := rfl
        clear hQ hbQ hrQ hly hy HB2 HBv
        have HRq0 : Hid (∀ j v, (litC y a' p' q')[j]? = some v → Q.cell? ⟨wr.heap.size, 0 + j, none⟩ = some v) := fun j v hv => HRn0.out j v hv
        cases htk : tk q with
        | true =>
          rw [htk] at t0
          have e0 : (y.k != 1) = (y.k != 1) := rfl
          have HBest : Hid (downK p b_n q = downK p b_n (q + 1)) := by show _ = _; rw [HStep.out, HEk.out, htk]; rfl
          clear htk e0
          iterate 45 (first
            | refine wpList_load_mid rfl 54 (.tmp 25) rfl bb (o + q * 17) rfl (litC y a' p' q') _ Hr.out Tryz.underlying54 rfl (rlit_size y a' p' q') ?_
            | (refine wpList_new rfl rfl 54 8 (.tmp 26) rfl rfl rfl rfl _ (litC y a' p' q').toArray rlit_info rfl (lit_one y a' p' q') rfl rfl ?_; rw [HQe.out])
            | go_values | go_skip | go_guarded | go_step | go_upon | go_back)
          go_wp2_with fail
          go_roundw
          case rel => exact ⟨q, (q : Int) - 1, by omega, rfl, by go_num, by rw [HBest.out], HBQ⟩
          case measure => simp [intOf]
        | false =>
          rw [htk] at t0
          by_cases hyk : y.k = 1
          · have e0 : (y.k != 1) = false := by simp [hyk]
            iterate 45 (first
              | refine wpList_load_mid rfl 54 (.tmp 25) rfl bb (o + q * 17) rfl (litC y a' p' q') _ Hr.out Tryz.underlying54 rfl (rlit_size y a' p' q') ?_
              | (refine wpList_new rfl rfl 54 8 (.tmp 26) rfl rfl rfl rfl _ (litC y a' p' q').toArray rlit_info rfl (lit_one y a' p' q') rfl rfl ?_; rw [HQe.out])
              | go_values | go_skip | go_guarded | go_step | go_upon | go_back)
            go_wp2_with (first
              | rw [e0]
              | refine wpList_load_at wr.heap.size 0 (litC y a' p' q') _ HRq0.out Tryz.underlying54 rfl (rlit_size y a' p' q') rfl rfl ?_)
            refine (HSe.out Q hqq).mono ?_
            rintro e w7 ⟨rfl, hbw7⟩
            have hzw7 : Below Q.heap.size Q w7 := hqq.trans (hbw7.mono hqq.size)
            have HXw7 : Hid (Below W0.heap.size W0 w7) := HBQ.out.trans (hzw7.mono HBQ.out.size)
            clear hbw7
            cases hs : setsB S y with
            | true =>
              have HBest : Hid (downK p b_n q = some q) := by show _ = _; rw [HStep.out, HEk.out, htk]; simp [earlyB, posB, hs, hyk]
              clear hs htk
              go_wp2_with fail
              go_roundw
              case rel => exact ⟨q, (q : Int) - 1, by omega, rfl, by go_num, by rw [HBest.out]; try rfl, HXw7⟩
              case measure => simp [intOf]
            | false =>
              have HBest : Hid (downK p b_n q = downK p b_n (q + 1)) := by show _ = _; rw [HStep.out, HEk.out, htk]; simp [earlyB, posB, hs, hyk]
              clear hs htk
              go_wp2_with fail
              go_roundw
              case rel => exact ⟨q, (q : Int) - 1, by omega, rfl, by go_num, by rw [HBest.out]; try rfl, HXw7⟩
              case measure => simp [intOf]
          · have e0 : (y.k != 1) = true := by simp [hyk]
            iterate 45 (first
              | refine wpList_load_mid rfl 54 (.tmp 25) rfl bb (o + q * 17) rfl (litC y a' p' q') _ Hr.out Tryz.underlying54 rfl (rlit_size y a' p' q') ?_
              | (refine wpList_new rfl rfl 54 8 (.tmp 26) rfl rfl rfl rfl _ (litC y a' p' q').toArray rlit_info rfl (lit_one y a' p' q') rfl rfl ?_; rw [HQe.out])
              | go_values | go_skip | go_guarded | go_step | go_upon | go_back)
            go_wp2_with (first
              | rw [e0]
              | refine wpList_load_at wr.heap.size 0 (litC y a' p' q') _ HRq0.out Tryz.underlying54 rfl (rlit_size y a' p' q') rfl rfl ?_)
            refine HI.out.mono ?_
            rintro e w5 ⟨A5, c5, rfl, ho5, hb5⟩
            have HAll := Lib.hid (refAll09_any A4 m4 k4 S A5 _ c5 (varsL y) w5 (HSiQ.out w5 hb5) (TextsPost.is ho5 (by omega) HVs.out))
            have HB5 := Lib.hid hb5
            clear ho5 hb5 HI
            go_wp2_with fail
            refine HAll.out.mono ?_
            rintro e w6 ⟨rfl, hb6⟩
            have hq6 : Below Q.heap.size Q w6 := HB5.out.trans (hb6.mono HB5.out.size)
            have HX6 : Hid (Below W0.heap.size W0 w6) := HBQ.out.trans (hq6.mono HBQ.out.size)
            have HRq6 : Hid (∀ j v, (litC y a' p' q')[j]? = some v → w6.cell? ⟨wr.heap.size, 0 + j, none⟩ = some v) := fun j v hv => HRn.out w6 hq6 j v hv
            clear hb6 HAll HB5
            cases hal : allB S (varsL y) with
            | true =>
              have HBest : Hid (downK p b_n q = some q) := by show _ = _; rw [HStep.out, HEk.out, htk]; simp [earlyB, posB, hyk, hal]
              clear hal htk
              go_wp2_with fail
              go_roundw
              case rel => exact ⟨q, (q : Int) - 1, by omega, rfl, by go_num, by rw [HBest.out]; try rfl, HX6⟩
              case measure => simp [intOf]
            | false =>
              go_wp2_with (refine wpList_load_at wr.heap.size 0 (litC y a' p' q') _ HRq6.out Tryz.underlying54 rfl (rlit_size y a' p' q') rfl rfl ?_)
              refine (HSe.out w6 hq6).mono ?_
              rintro e w7 ⟨rfl, hbw7⟩
              have hzw7 : Below Q.heap.size Q w7 := hq6.trans (hbw7.mono hq6.size)
              have HXw7 : Hid (Below W0.heap.size W0 w7) := HBQ.out.trans (hzw7.mono HBQ.out.size)
              clear hbw7
              cases hs : setsB S y with
              | true =>
                have HBest : Hid (downK p b_n q = some q) := by show _ = _; rw [HStep.out, HEk.out, htk]; simp [earlyB, posB, hs, hyk, hal]
                clear hs htk
                go_wp2_with fail
                go_roundw
                case rel => exact ⟨q, (q : Int) - 1, by omega, rfl, by go_num, by rw [HBest.out]; try rfl, HXw7⟩
                case measure => simp [intOf]
              | false =>
                have HBest : Hid (downK p b_n q = downK p b_n (q + 1)) := by show _ = _; rw [HStep.out, HEk.out, htk]; simp [earlyB, posB, hs, hyk, hal]
                clear hs htk
                go_wp2_with fail
                go_roundw
                case rel => exact ⟨q, (q : Int) - 1, by omega, rfl, by go_num, by rw [HBest.out]; try rfl, HXw7⟩
                case measure => simp [intOf]
      · obtain rfl : kk = 0 := by omega
        obtain ⟨o1, Ho1⟩ : ∃ o1, Hid (downK p b_n 0 = o1) := ⟨_, rfl⟩
        rw [Ho1.out]
        have HW1 : Hid (Below W0.heap.size W0 wr) := HB2.out
        have hw1z := HW1.out.size
        obtain ⟨qp, Hqp⟩ : ∃ qp : Nat → Bool, Hid (qp = fun k => !tk k && posK x.body k) := ⟨_, rfl⟩
        go_wp2_with fail
        go_loopw [6, 9] (fun v6 v9 wr2 => ∃ (k : Nat) (best : Int), k ≤ b_n ∧ v9 = .int .i64 (k : Int) ∧ v6 = .int .i64 best ∧ Hid (Srch o1 qp b_n k best) ∧ wr2 = wr) (fun _ v9 _ => b_n - (intOf v9).toNat)
        case atStart => exact ⟨0, bestI o1, by omega, rfl, rfl, Srch.start _ _ _, rfl⟩
        case round =>
          obtain ⟨k, best, hk, rfl, rfl, HSr, rfl⟩ := hrel
          have i0 : (0 : Int) ≤ (k : Int) := by omega
          have HEnd : Hid (b_n ≤ k ∨ ¬ best < 0 → best = bestI (o1.or (leastK qp b_n))) := fun h => HSr.out.end_ h
          by_cases hkn : k < b_n
          · have i1 : (k : Int) < (b_n : Int) := by omega
            by_cases hbt : best < 0
            · obtain ⟨ho1, rfl, hno⟩ := HSr.out.low hbt
              obtain ⟨bb, o, y, cs, hmA, hbb, hy, ⟨a', p', q', rfl, hly⟩, hcs⟩ := (RuleAt.to HX.out HBv.out (by omega)).body.cells_at hkn
              dsimp only at hmA
              subst hmA
              have x0 : wr.cell? ⟨bb, o + k * 17, none⟩ = some (.int .i64 y.k) := hcs 0 _ rfl
              have t0 : wr.cell? ⟨gt, k, none⟩ = some (.bool (tk k)) := by
                have h1 : wr.heap[gt]? = some (.cells (tkV b_n tk).toArray 4 (0, 0)) := by
                  have h2 := HG.out
                  rw [← HW0.out] at h2
                  exact (HW1.out.block _ (by omega)).trans h2
                rw [cell_of_row _ _ k _ _ _ h1, List.getElem?_toArray, tkV_get hkn]
              have HPk : Hid (qp k = (!tk k && decide (y.k = 1))) := by show _ = _; rw [Hqp.out]; show (!tk k && posK x.body k) = _; rw [posK_at hy.out]; rfl
              have HNo := Lib.hid hno
              have Ho1n := Lib.hid ho1
              clear hcs hly hy HSr hno ho1 HEnd
              cases htk : tk k with
              | true =>
                have HS2 : Hid (Srch o1 qp b_n (k + 1) (-1)) := .inr (.inl ⟨Ho1n.out, rfl, fun j hj => by
                  rcases Nat.lt_or_ge j k with h | h
                  · exact HNo.out j h
                  · obtain rfl : j = k := by omega
                    rw [HPk.out, htk]; rfl⟩)
                rw [htk] at t0
                clear htk
                go_wp2_with fail
                go_roundw
                case rel => exact ⟨k + 1, -1, by omega, by go_num, rfl, HS2, by first | rfl | trivial⟩
                case measure => simp [intOf]; omega
              | false =>
                rw [htk] at t0
                by_cases hyk : y.k = 1
                · have HS2 : Hid (Srch o1 qp b_n (k + 1) (k : Int)) := .inr (.inr ⟨Ho1n.out, k, rfl, rfl, leastK_at hkn HNo.out (by rw [HPk.out, htk, hyk]; rfl)⟩)
                  have e0 : (y.k == 1) = true := by simp [hyk]
                  clear htk hyk
                  go_wp2_with fail
                  go_roundw
                  case rel => exact ⟨k + 1, (k : Int), by omega, by go_num, rfl, HS2, by first | rfl | trivial⟩
                  case measure => simp [intOf]; omega
                · have HS2 : Hid (Srch o1 qp b_n (k + 1) (-1)) := .inr (.inl ⟨Ho1n.out, rfl, fun j hj => by
                    rcases Nat.lt_or_ge j k with h | h
                    · exact HNo.out j h
                    · obtain rfl : j = k := by omega
                      rw [HPk.out, htk]; simp [hyk]⟩)
                  have e0 : (y.k == 1) = false := by simp [hyk]
                  clear htk hyk
                  go_wp2_with fail
                  go_roundw
                  case rel => exact ⟨k + 1, -1, by omega, by go_num, rfl, HS2, by first | rfl | trivial⟩
                  case measure => simp [intOf]; omega
            · have Hbe := Lib.hid (HEnd.out (.inr hbt))
              have hb0 : (0 : Int) ≤ best := by omega
              obtain ⟨o2, Ho2⟩ : ∃ o2, Hid (o1.or (leastK qp b_n) = o2) := ⟨_, rfl⟩
              rw [Ho2.out] at Hbe
              have HNx : Hid (nextK x.body S (freeK tk b_n) = o2) := by
                show _ = _
                have e := next_free x.body S tk b_n
                rw [e, ← Ho2.out, ← Ho1.out, downK_zero, Hp.out, Hqp.out]
              cases o2 with
              | none =>
                obtain rfl : best = -1 := Hbe.out
                exfalso; omega
              | some k =>
                obtain rfl : best = (k : Int) := Hbe.out
                have hfr : k < b_n ∧ tk k = false := by
                  have hm := nextK_mem HNx.out
                  unfold freeK at hm
                  rw [List.mem_filter] at hm
                  exact ⟨List.mem_range.1 hm.1, by simpa using hm.2⟩
                have hkn2 := hfr.1
                have l0 : (0 : Int) ≤ (k : Int) := by omega
                have l1 : (k : Int) < (b_n : Int) := by omega
                have l2 : ¬ (k : Int) < 0 := by omega
                have h2 := HG.out
                rw [← HW0.out] at h2
                have hgz0 : gt < W0.heap.size := (Array.getElem?_eq_some_iff.1 h2).1
                have hgW : wr.heap[gt]? = some (.cells (tkV b_n tk).toArray 4 (0, 0)) := (HW1.out.block _ hgz0).trans h2
                have t0 : wr.cell? ⟨gt, k, none⟩ = some (.bool (tk k)) := by rw [cell_of_row _ _ k _ _ _ hgW, List.getElem?_toArray, tkV_get hkn2]
                have t1 : wr.frozen? ⟨gt, k, none⟩ = false := frozen_of_row _ _ _ _ _ hgW
                obtain ⟨Z, hZ⟩ : ∃ Z, Z = wr.setCell ⟨gt, k, none⟩ (.bool true) := ⟨_, rfl⟩
                have HZe := Lib.hid hZ.symm
                have hGZ : Z.heap[gt]? = some (.cells (tkV b_n (fun j => tk j || decide (j = k))).toArray 4 (0, 0)) := by
                  rw [hZ, ← tkV_step hkn2]
                  simp [World.setCell, Array.getElem?_modify, hgW]
                have hOZ : Out [gt] wr Z := by rw [hZ]; exact set_out wr gt k _
                have hBZ : Below gt V Z := HBv.out.trans ⟨hOZ.os, hOZ.tape, hOZ.output, hOZ.size, fun b' hb' => hOZ.block b' (by have := HBv.out.size; omega) (by simp; omega)⟩
                have h3 := HO3.out
                have h4 := HO4.out
                rw [← HW0.out] at h3 h4
                have h3Z := own_out' (own_below h3 HW1.out) hOZ (fun b' hb' hm => by have := (own_blk h3 hb').1; simp at hm; omega)
                have h4Z := own_out' (own_below h4 HW1.out) hOZ (fun b' hb' hm => by have := (own_blk h4 hb').1; simp at hm; omega)
                have hgZ : gt < Z.heap.size := (Array.getElem?_eq_some_iff.1 hGZ).1
                obtain ⟨A8, c8, W8, q1, q2, q3, q4⟩ := int_push (xs := intL done) h3Z (k : Int) (by omega) (by omega)
                have hz8 := q4.size
                have HRun := Lib.hid q1
                have h48 := own_out' h4Z q3 (own_apart h3Z h4Z (by decide))
                have hG8 : W8.heap[gt]? = some (.cells (tkV b_n (fun j => tk j || decide (j = k))).toArray 4 (0, 0)) := (q4.block _ (by omega)).trans hGZ
                have hB8 : Below gt V W8 := hBZ.trans (q4.mono (by omega))
                obtain ⟨bb, o, y, cs, hmA, hbb, hy, ⟨a', p', q', rfl, hly⟩, hcs⟩ := (RuleAt.to HX.out hB8 (by omega)).body.cells_at hkn2
                dsimp only at hmA
                subst hmA
                have HCs : Hid (∀ j' v, (litC y a' p' q')[j']? = some v → W8.cell? ⟨bb, o + k * 17 + j', none⟩ = some v) := hcs
                have d4 := HC4.out W8 hB8
                have hyl := HSz.out y (List.mem_of_getElem? hy.out)
                have hvl : (varsL y).length ≤ 1500 := Nat.le_trans (varsL_le y) hyl
                have HI := Lib.hid (refIn_any d y a' p' q' W8 hly hyl)
                have HVs := Lib.hid (HOkB.out y (List.mem_of_getElem? hy.out))
                have HStp := HRest.out.step2 HNx.out
                rw [litVars_at hy.out, free_erase] at HStp
                have HStp := Lib.hid HStp
                have HO8 : Hid (W8.ownsRow (gt + 1) 3 1 (.slice A8 (done.length + 1) c8) (done.length + 1) (valsK (done ++ [k]))) := by
                  show World.ownsRow _ _ _ _ _ _ _
                  have e : valsK (done ++ [k]) = (intL done ++ [(k : Int)]).flatMap intC := by unfold valsK intL; rw [List.map_append]; rfl
                  rw [e]; exact q2
                have H48 := Lib.hid h48
                have HG8 := Lib.hid hG8
                have HB8 := Lib.hid hB8
                have hz8g : gt + 1 ≤ W8.heap.size := by omega
                clear hZ hGZ hOZ hBZ h3 h4 h3Z h4Z q1 q2 q3 q4 h48 hG8 hB8 hcs hly hgW h2 hfr
                go_wp2_with (first
                  | rw [HZe.out]
                  | (at_builtin; refine wpList_append_run (o := ⟨some 84, _, _, _, _, _⟩) rfl _ _ _ rfl _ _ rfl rfl (HRun.out _) ?_)
                  | refine wpList_load_at bb (o + k * 17) (litC y a' p' q') _ HCs.out Tryz.underlying54 rfl (rlit_size y a' p' q') rfl rfl ?_)
                refine HI.out.mono ?_
                rintro e w9 ⟨A9, c9, rfl, ho9, hb9⟩
                have hz9 := hb9.size
                obtain ⟨A10, c10, W10, q1, q2, q4, q3⟩ := strs_app (own_below H48.out hb9) (TextsPost.is ho9 (by omega) HVs.out) (by omega) (by omega)
                have HRun2 := Lib.hid q1
                have h39 := own_below HO8.out hb9
                have HO10 := Lib.hid (own_out' h39 q3 (own_apart (own_below H48.out hb9) h39 (by decide)))
                have HS10 := Lib.hid q2
                have HG10 : Hid (W10.heap[gt]? = some (.cells (tkV b_n (fun j => tk j || decide (j = k))).toArray 4 (0, 0))) := (q4.block _ (by omega)).trans ((hb9.block _ (by omega)).trans HG8.out)
                have HB10 : Hid (Below gt V W10) := (HB8.out.trans (hb9.mono (by omega))).trans (q4.mono (by omega))
                have hz10 : gt < W10.heap.size := by have := q4.size; omega
                have HLn : Hid ((S ++ varsL y).length = m4 + (varsL y).length) := by show _ = _; rw [List.length_append, HSl.out]
                have HSo2 : Hid (∀ s ∈ S ++ varsL y, s.size ≤ reachN) := fun s hs => by
                  rcases List.mem_append.1 hs with h | h
                  · exact HSo.out s h
                  · exact HVs.out s h
                have Hdl : Hid ((done ++ [k]).length = done.length + 1) := by show _ = _; simp
                have HDone2 : Hid (done ++ [k] = (orderK x.body).take (done.length + 1)) := fst_step HDone.out HStp.out.1
                have hdl : done.length + 1 ≤ b_n := by have h := (List.getElem?_eq_some_iff.1 HStp.out.1).1; have := HOl.out; omega
                have HR10 := Lib.hid HStp.out.2
                rw [← Hdl.out] at HO10 HDone2 HR10 hdl
                clear q1 q2 q3 q4 h39 ho9 hb9 HI HStp
                go_wp2_with (at_builtin; refine wpList_append_run (o := ⟨some 92, _, _, _, _, _⟩) rfl _ _ _ rfl _ _ rfl rfl (HRun2.out _) ?_)
                go_roundw
                case rel => exact ⟨fun j => tk j || decide (j = k), S ++ varsL y, done ++ [k], A8, c8, A10, m4 + (varsL y).length, c10, by rw [Hdl.out], rfl, HG10, HO10, HS10, HLn, by rw [Hdl.out]; omega, HSo2, HR10, HDone2, hdl, HB10, hz10⟩
                case measure =>
                  have h1 := Hdl.out
                  rw [h1] at hdl
                  show b_n + 1 - lenV (Value.slice A8 (done.length + 1) c8) < b_n + 1 - lenV (Value.slice A3 done.length c3)
                  simp only [lenV]; omega
          · obtain rfl : b_n = k := by omega
            have i1 : ¬ (b_n : Int) < (b_n : Int) := by omega
            have Hbe := Lib.hid (HEnd.out (.inl (Nat.le_refl _)))
            obtain ⟨o2, Ho2⟩ : ∃ o2, Hid (o1.or (leastK qp b_n) = o2) := ⟨_, rfl⟩
            rw [Ho2.out] at Hbe
            have HNx : Hid (nextK x.body S (freeK tk b_n) = o2) := by
              show _ = _
              have e := next_free x.body S tk b_n
              rw [e, ← Ho2.out, ← Ho1.out, downK_zero, Hp.out, Hqp.out]
            cases o2 with
            | none =>
              obtain rfl : best = -1 := Hbe.out
              have HPP : Hid (P (.returned (.slice A3 done.length c3)) wr) := by
                show P _ _
                rw [HP.out]
                have hl := HRest.out.stop HNx.out
                have e : done = orderK x.body := fst_stop HDone.out hl
                rw [← e]
                refine ⟨A3, c3, rfl, ?_, HbV.out.trans (HBv.out.mono (by have := HbV.out.size; omega))⟩
                have h := HO3.out
                rw [← HW0.out] at h
                refine own_lift (own_below h HW1.out) (fun b' hb' => by have := (own_blk h hb').1; have := HbV.out.size; omega)
              go_wp2_with fail
              first | exact HPP.out | (go_ret; exact HPP.out)
            | some k =>
              obtain rfl : best = (k : Int) := Hbe.out
              have hfr : k < b_n ∧ tk k = false := by
                have hm := nextK_mem HNx.out
                unfold freeK at hm
                rw [List.mem_filter] at hm
                exact ⟨List.mem_range.1 hm.1, by simpa using hm.2⟩
              have hkn2 := hfr.1
              have l0 : (0 : Int) ≤ (k : Int) := by omega
              have l1 : (k : Int) < (b_n : Int) := by omega
              have l2 : ¬ (k : Int) < 0 := by omega
              have h2 := HG.out
              rw [← HW0.out] at h2
              have hgz0 : gt < W0.heap.size := (Array.getElem?_eq_some_iff.1 h2).1
              have hgW : wr.heap[gt]? = some (.cells (tkV b_n tk).toArray 4 (0, 0)) := (HW1.out.block _ hgz0).trans h2
              have t0 : wr.cell? ⟨gt, k, none⟩ = some (.bool (tk k)) := by rw [cell_of_row _ _ k _ _ _ hgW, List.getElem?_toArray, tkV_get hkn2]
              have t1 : wr.frozen? ⟨gt, k, none⟩ = false := frozen_of_row _ _ _ _ _ hgW
              obtain ⟨Z, hZ⟩ : ∃ Z, Z = wr.setCell ⟨gt, k, none⟩ (.bool true) := ⟨_, rfl⟩
              have HZe := Lib.hid hZ.symm
              have hGZ : Z.heap[gt]? = some (.cells (tkV b_n (fun j => tk j || decide (j = k))).toArray 4 (0, 0)) := by
                rw [hZ, ← tkV_step hkn2]
                simp [World.setCell, Array.getElem?_modify, hgW]
              have hOZ : Out [gt] wr Z := by rw [hZ]; exact set_out wr gt k _
              have hBZ : Below gt V Z := HBv.out.trans ⟨hOZ.os, hOZ.tape, hOZ.output, hOZ.size, fun b' hb' => hOZ.block b' (by have := HBv.out.size; omega) (by simp; omega)⟩
              have h3 := HO3.out
              have h4 := HO4.out
              rw [← HW0.out] at h3 h4
              have h3Z := own_out' (own_below h3 HW1.out) hOZ (fun b' hb' hm => by have := (own_blk h3 hb').1; simp at hm; omega)
              have h4Z := own_out' (own_below h4 HW1.out) hOZ (fun b' hb' hm => by have := (own_blk h4 hb').1; simp at hm; omega)
              have hgZ : gt < Z.heap.size := (Array.getElem?_eq_some_iff.1 hGZ).1
              obtain ⟨A8, c8, W8, q1, q2, q3, q4⟩ := int_push (xs := intL done) h3Z (k : Int) (by omega) (by omega)
              have hz8 := q4.size
              have HRun := Lib.hid q1
              have h48 := own_out' h4Z q3 (own_apart h3Z h4Z (by decide))
              have hG8 : W8.heap[gt]? = some (.cells (tkV b_n (fun j => tk j || decide (j = k))).toArray 4 (0, 0)) := (q4.block _ (by omega)).trans hGZ
              have hB8 : Below gt V W8 := hBZ.trans (q4.mono (by omega))
              obtain ⟨bb, o, y, cs, hmA, hbb, hy, ⟨a', p', q', rfl, hly⟩, hcs⟩ := (RuleAt.to HX.out hB8 (by omega)).body.cells_at hkn2
              dsimp only at hmA
              subst hmA
              have HCs : Hid (∀ j' v, (litC y a' p' q')[j']? = some v → W8.cell? ⟨bb, o + k * 17 + j', none⟩ = some v) := hcs
              have d4 := HC4.out W8 hB8
              have hyl := HSz.out y (List.mem_of_getElem? hy.out)
              have hvl : (varsL y).length ≤ 1500 := Nat.le_trans (varsL_le y) hyl
              have HI := Lib.hid (refIn_any d y a' p' q' W8 hly hyl)
              have HVs := Lib.hid (HOkB.out y (List.mem_of_getElem? hy.out))
              have HStp := HRest.out.step2 HNx.out
              rw [litVars_at hy.out, free_erase] at HStp
              have HStp := Lib.hid HStp
              have HO8 : Hid (W8.ownsRow (gt + 1) 3 1 (.slice A8 (done.length + 1) c8) (done.length + 1) (valsK (done ++ [k]))) := by
                show World.ownsRow _ _ _ _ _ _ _
                have e : valsK (done ++ [k]) = (intL done ++ [(k : Int)]).flatMap intC := by unfold valsK intL; rw [List.map_append]; rfl
                rw [e]; exact q2
              have H48 := Lib.hid h48
              have HG8 := Lib.hid hG8
              have HB8 := Lib.hid hB8
              have hz8g : gt + 1 ≤ W8.heap.size := by omega
              clear hZ hGZ hOZ hBZ h3 h4 h3Z h4Z q1 q2 q3 q4 h48 hG8 hB8 hcs hly hgW h2 hfr
              go_wp2_with (first
                | rw [HZe.out]
                | (at_builtin; refine wpList_append_run (o := ⟨some 84, _, _, _, _, _⟩) rfl _ _ _ rfl _ _ rfl rfl (HRun.out _) ?_)
                | refine wpList_load_at bb (o + k * 17) (litC y a' p' q') _ HCs.out Tryz.underlying54 rfl (rlit_size y a' p' q') rfl rfl ?_)
              refine HI.out.mono ?_
              rintro e w9 ⟨A9, c9, rfl, ho9, hb9⟩
              have hz9 := hb9.size
              obtain ⟨A10, c10, W10, q1, q2, q4, q3⟩ := strs_app (own_below H48.out hb9) (TextsPost.is ho9 (by omega) HVs.out) (by omega) (by omega)
              have HRun2 := Lib.hid q1
              have h39 := own_below HO8.out hb9
              have HO10 := Lib.hid (own_out' h39 q3 (own_apart (own_below H48.out hb9) h39 (by decide)))
              have HS10 := Lib.hid q2
              have HG10 : Hid (W10.heap[gt]? = some (.cells (tkV b_n (fun j => tk j || decide (j = k))).toArray 4 (0, 0))) := (q4.block _ (by omega)).trans ((hb9.block _ (by omega)).trans HG8.out)
              have HB10 : Hid (Below gt V W10) := (HB8.out.trans (hb9.mono (by omega))).trans (q4.mono (by omega))
              have hz10 : gt < W10.heap.size := by have := q4.size; omega
              have HLn : Hid ((S ++ varsL y).length = m4 + (varsL y).length) := by show _ = _; rw [List.length_append, HSl.out]
              have HSo2 : Hid (∀ s ∈ S ++ varsL y, s.size ≤ reachN) := fun s hs => by
                rcases List.mem_append.1 hs with h | h
                · exact HSo.out s h
                · exact HVs.out s h
              have Hdl : Hid ((done ++ [k]).length = done.length + 1) := by show _ = _; simp
              have HDone2 : Hid (done ++ [k] = (orderK x.body).take (done.length + 1)) := fst_step HDone.out HStp.out.1
              have hdl : done.length + 1 ≤ b_n := by have h := (List.getElem?_eq_some_iff.1 HStp.out.1).1; have := HOl.out; omega
              have HR10 := Lib.hid HStp.out.2
              rw [← Hdl.out] at HO10 HDone2 HR10 hdl
              clear q1 q2 q3 q4 h39 ho9 hb9 HI HStp
              go_wp2_with (at_builtin; refine wpList_append_run (o := ⟨some 92, _, _, _, _, _⟩) rfl _ _ _ rfl _ _ rfl rfl (HRun2.out _) ?_)
              go_roundw
              case rel => exact ⟨fun j => tk j || decide (j = k), S ++ varsL y, done ++ [k], A8, c8, A10, m4 + (varsL y).length, c10, by rw [Hdl.out], rfl, HG10, HO10, HS10, HLn, by rw [Hdl.out]; omega, HSo2, HR10, HDone2, hdl, HB10, hz10⟩
              case measure =>
                have h1 := Hdl.out
                rw [h1] at hdl
                show b_n + 1 - lenV (Value.slice A8 (done.length + 1) c8) < b_n + 1 - lenV (Value.slice A3 done.length c3)
                simp only [lenV]; omega
end Go.Proofs.YtfklheagafffmaaGreatDoor
