/- My own texts SdB, SfCk, SfChk, as far as this claim needs them. -/
import Derived.Test.YtfklheagafffmaaGreatDoorZsb7
set_option linter.unusedVariables false
set_option linter.unusedSimpArgs false
set_option maxRecDepth 1000000
set_option maxHeartbeats 16000000
namespace Go.Proofs.YtfklheagafffmaaGreatDoor
open Go.RowKit
theorem texts_isB {w : World} {base : Nat} {A : Option Addr} {n c : Nat} {l : List ByteArray} (h : w.ownsRow base 9 1 (.slice A n c) n (l.flatMap strC)) (hl : l.length = n) (hn : n ≤ 100000000) (hok : ∀ s ∈ l, s.size ≤ reachN) : SliceIs Enc.str w w.heap.size A n c l :=
  SliceIs.of_flat (E := Enc.str) strC (fun _ => rfl) h hl (by simp [reachN]; omega) (fun q hq => ⟨rfl, hok q hq⟩)
theorem strs_app {W : World} {base : Nat} {A0 : Option Addr} {n0 c0 : Nat} {L0 : List ByteArray} {B : Nat} {A : Option Addr} {n c : Nat} {l : List ByteArray} (hown : W.ownsRow base 9 1 (.slice A0 n0 c0) n0 (L0.flatMap strC)) (hl : SliceIs Enc.str W B A n c l) (hn : n0 + n ≤ 100000000) (hb : base ≤ W.heap.size) :
    ∃ A' c' W', (∀ ty, (Builtin.append_ #[40, 40] ty #[.slice A0 n0 c0, .slice A n c]).run Tryz.prog W = .ok (.slice A' (n0 + n) c') W') ∧ W'.ownsRow base 9 1 (.slice A' (n0 + n) c') (n0 + n) ((L0 ++ l).flatMap strC) ∧ Below base W W' ∧ Out (Value.slice A0 n0 c0).ownBlock.toList W W' := by
  obtain ⟨v', w', h1, h2, h3, h4⟩ := run_append_slice (P := Tryz.prog) (E := Enc.str) (B := B) (ty := 40) strC (fun _ => rfl) (fun h => h.1) (by intro x u hu; simp [strC] at hu; subst hu; rfl) W (base := base) Tryz.underlying40 str_info rfl (by decide)
    hown hl (by simp [maxLen]; omega) (by omega) hb
  obtain ⟨A', c', rfl⟩ := own_form h2
  exact ⟨A', c', w', fun _ => h1, by rw [List.flatMap_append]; exact h2, h4, grown_out h3⟩
theorem turnR_pot {body l : List GLit} (hl : ∀ x ∈ l, x ∈ body ∧ (varsL x).length ≤ 1500) : ∀ {S : List ByteArray}, (turnR l S).length + 1500 * lackN body (turnR l S) ≤ S.length + 1500 * lackN body S := by
  induction l with
  | nil => intro S; exact Nat.le_refl _
  | cons x l ih =>
    intro S
    have hx := hl x (List.mem_cons_self ..)
    have h1 := ih (fun y hy => hl y (List.mem_cons_of_mem _ hy)) (S := if setsB S x then S ++ varsL x else S)
    unfold turnR
    refine Nat.le_trans h1 ?_
    cases hs : setsB S x with
    | true =>
      have := lack_lt hx.1 hs
      simp only [if_true, List.length_append]
      omega
    | false => simp
theorem turnR_one {l : List GLit} {y : GLit} {k : Nat} {S : List ByteArray} (hy : l[k]? = some y) : turnR (l.drop k) S = turnR (l.drop (k + 1)) (if setsB S y then S ++ varsL y else S) := by
  obtain ⟨hk, he⟩ := List.getElem?_eq_some_iff.1 hy
  rw [List.drop_eq_getElem_cons hk, he]; rfl
def lenV2 : Value → Nat | .slice _ n _ => n | _ => 0
def BoundR (x : GRule) (w : World) (e : Ending) (w' : World) : Prop :=
  ∃ A c U, e = .returned (.slice A U.length c) ∧ w'.ownsRow w.heap.size 9 1 (.slice A U.length c) U.length (U.flatMap strC) ∧ BoundTo x.body (posV x.body) U ∧ (∀ s ∈ U, s.size ≤ reachN) ∧ U.length ≤ 8000000 ∧ Below w.heap.size w w'
theorem refBound_any (d : Nat) (x : GRule) (a b : Hd) (w : World) (hx : RuleAt d w w.heap.size x a b) (hsz : (ruleT x).length ≤ 1500) (hbn : x.body.length ≤ 1500) :
    Calls Tryz.prog 52 #[.agg (ruleC x a b).toArray] w (BoundR x w) := by
  obtain ⟨b_A, b_n, b_c⟩ := b
  have Hbn : Hid (x.body.length = b_n) := hx.body.1
  have hbn2 : b_n ≤ 1500 := by rw [← Hbn.out]; exact hbn
  have hbl : (x.body.flatMap insideL).length ≤ 1500 := by unfold ruleT at hsz; simp only [List.length_append] at hsz; omega
  have HSz : Hid (∀ y ∈ x.body, (insideL y).length ≤ 1500) := fun y hy => by
    obtain ⟨i, hi⟩ := List.mem_iff_getElem?.1 hy
    have h1 := flatMap_take (f := insideL) hi
    have h2 := flatMap_len x.body insideL (i + 1)
    rw [h1, List.length_append] at h2
    omega
  have HLack : Hid (∀ S, lackN x.body S ≤ 1500) := fun S => by
    unfold lackN
    refine Nat.le_trans (List.length_filter_le _ _) (Nat.le_trans ?_ hbl)
    clear hbl HSz hsz hx
    induction x.body with
    | nil => exact Nat.le_refl _
    | cons y l ih => simp only [List.flatMap_cons, List.length_append]; have := varsL_le y; omega
  have HPot : Hid (∀ S, (turnR x.body S).length + 1500 * lackN x.body (turnR x.body S) ≤ S.length + 1500 * lackN x.body S) := fun S => turnR_pot (fun y hy => ⟨hy, Nat.le_trans (varsL_le y) (HSz.out y hy)⟩)
  have HOkB : Hid (∀ y ∈ x.body, ∀ s ∈ varsL y, s.size ≤ reachN) := fun y hy s hs => by
    obtain ⟨t, ht, rfl, -⟩ := varsL_has.1 hs
    exact (rule_ok hx t (by unfold ruleT; exact List.mem_append_right _ (List.mem_flatMap.2 ⟨y, hy, ht⟩))).1
  obtain ⟨V, hV⟩ : ∃ V, V = w.alloc (.cells (ruleC x a ⟨b_A, b_n, b_c⟩).toArray 35) := ⟨_, rfl⟩
  have HVe := Lib.hid hV.symm
  have hg : V.heap[w.heap.size]? = some (.cells (ruleC x a ⟨b_A, b_n, b_c⟩).toArray 35 (0, 0)) := by rw [hV]; exact heapNew rfl
  have hbV : Below w.heap.size w V := by rw [hV]; exact belowA (Below.refl _ _) _
  have hgl : w.heap.size < V.heap.size := (Array.getElem?_eq_some_iff.1 hg).1
  have HX := Lib.hid (hx.keep hbV)
  have HbV := Lib.hid hbV
  have HC4 : Hid (∀ W, Below V.heap.size V W → W.cell? ⟨w.heap.size, 4, none⟩ = some (.slice b_A b_n b_c)) := fun W hW => (facts6 ((hW.block _ hgl).trans hg)).2.2.2.2.1
  have c4 := HC4.out V (Below.refl _ _)
  clear hx hV hbV hg hsz hbl
  go_enter Tryz.func52, Tryz.ntmps52
  go_wp2_with (rw [HVe.out])
  go_loopw [3, 4] (fun v i wr => ∃ (k m c' : Nat) (A' : Option Addr) (L : List ByteArray), k ≤ b_n ∧ i = .int .i64 (k : Int) ∧ v = .slice A' m c' ∧ Hid (posV (x.body.take k) = L) ∧ m ≤ 1500 * k ∧ Hid (L.length = m) ∧ Hid (∀ s ∈ L, s.size ≤ reachN) ∧ Hid (wr.ownsRow V.heap.size 9 1 (.slice A' m c') m (L.flatMap strC)) ∧ Hid (Below V.heap.size V wr)) (fun _ i _ => b_n - (intOf i).toNat)
  case atStart => exact ⟨0, 0, 0, none, [], by omega, rfl, rfl, rfl, by omega, rfl, (fun s hs => by cases hs), World.ownsRow_nil _ _ _ _, Below.refl _ _⟩
  case round =>
    clear c4
    obtain ⟨k, m, c', A', L, hk, rfl, rfl, HL, hmk, HLm, HLs, HO, HB⟩ := hrel
    have i0 : (0 : Int) ≤ (k : Int) := by omega
    have c4 := HC4.out wr HB.out
    by_cases hlt : k < b_n
    · have i1 : (k : Int) < (b_n : Int) := by omega
      obtain ⟨bb, o, y, cs, hbA', hblt, hy, ⟨a', p', q', rfl, hL⟩, hcs⟩ := (HX.out.body.keep HB.out).cells_at hlt
      dsimp only at hbA'
      subst hbA'
      have HCs : Hid (∀ j' v, (litC y a' p' q')[j']? = some v → wr.cell? ⟨bb, o + k * 17 + j', none⟩ = some v) := hcs
      have x0 : wr.cell? ⟨bb, o + k * 17, none⟩ = some (.int .i64 y.k) := hcs 0 _ rfl
      have K54 : Hid ((Tryz.prog.info? 54).map (·.size) = some (litC y a' p' q').length) := by show _ = some 17; kernel_rfl
      have hyl := HSz.out y (List.mem_of_getElem? hy.out)
      have hvl : (varsL y).length ≤ 1500 := Nat.le_trans (varsL_le y) hyl
      have HI := Lib.hid (refIn_any d y a' p' q' wr hL hyl)
      have HVs := Lib.hid (HOkB.out y (List.mem_of_getElem? hy.out))
      have hzB := HB.out.size
      by_cases hp : y.k = 1
      · have HT : Hid (posV (x.body.take (k + 1)) = L ++ varsL y) := by show _ = _; rw [posV_take hy.out, if_pos (by simp [posB, hp]), HL.out]
        have e0 : (y.k == 1) = true := by simp [hp]
        have HLs2 : Hid (∀ s ∈ L ++ varsL y, s.size ≤ reachN) := fun s hs => by
          rcases List.mem_append.1 hs with h | h
          · exact HLs.out s h
          · exact HVs.out s h
        have HLm2 : Hid ((L ++ varsL y).length = m + (varsL y).length) := by show _ = _; rw [List.length_append, HLm.out]
        clear hp hcs hL hy HL
        go_wp2_with (first
          | rw [e0]
          | refine wpList_load_at bb (o + k * 17) (litC y a' p' q') _ HCs.out Tryz.underlying54 rfl K54.out rfl rfl ?_)
        refine HI.out.mono ?_
        rintro e w1 ⟨A2, c2, rfl, ho2, hb2⟩
        have hz2 := hb2.size
        obtain ⟨A3, c3, W3, hrun, hown3, hb3, -⟩ := strs_app (own_below HO.out hb2) (TextsPost.is ho2 (by omega) HVs.out) (by omega) (by omega)
        have HRun := Lib.hid hrun
        have HO3 := Lib.hid hown3
        have HB3 : Hid (Below V.heap.size V W3) := (HB.out.trans (hb2.mono hzB)).trans hb3
        clear ho2 hb2 hrun hown3 hb3 HI HCs HO
        go_wp2_with (at_builtin; refine wpList_append_run rfl _ _ _ rfl _ _ rfl rfl (HRun.out _) ?_)
        go_roundw
        case rel => exact ⟨k + 1, m + (varsL y).length, c3, A3, L ++ varsL y, by omega, by go_num, rfl, HT, by omega, HLm2, HLs2, HO3, HB3⟩
        case measure => simp [intOf]; omega
      · have HT : Hid (posV (x.body.take (k + 1)) = L) := by show _ = _; rw [posV_take hy.out, if_neg (by simp [posB, hp]), HL.out]
        have e0 : (y.k == 1) = false := by simp [hp]
        clear hp hcs hL hy HL
        go_wp2_with (rw [e0])
        go_roundw
        case rel => exact ⟨k + 1, m, c', A', L, by omega, by go_num, rfl, HT, by omega, HLm, HLs, HO, HB⟩
        case measure => simp [intOf]; omega
    · obtain rfl : b_n = k := by omega
      have i1 : ¬ (b_n : Int) < (b_n : Int) := by omega
      have hpv : posV x.body = L := by rw [← HL.out, List.take_of_length_le (by rw [Hbn.out]; exact Nat.le_refl _)]
      have HBd : Hid (∀ T, BoundTo x.body L T → BoundTo x.body (posV x.body) T) := fun T h => by rw [hpv]; exact h
      have hC := HLack.out L
      clear hpv HL
      go_wp2_with fail
      go_loopw [3, 5, 6] (fun v _ _ wr => ∃ (m c' : Nat) (A' : Option Addr) (L : List ByteArray), v = .slice A' m c' ∧ Hid (∀ T, BoundTo x.body L T → BoundTo x.body (posV x.body) T) ∧ m + 1500 * lackN x.body L ≤ 8000000 ∧ Hid (L.length = m) ∧ Hid (∀ s ∈ L, s.size ≤ reachN) ∧ Hid (wr.ownsRow V.heap.size 9 1 (.slice A' m c') m (L.flatMap strC)) ∧ Hid (Below V.heap.size V wr)) (fun v _ _ _ => 8000000 - lenV2 v)
      case atStart => exact ⟨m, c', A', L, rfl, HBd, by omega, HLm, HLs, HO, HB⟩
      case round =>
        clear HBd hC HLm HLs HO HB hmk c4
        obtain ⟨m, c', A', L, rfl, HBd, hpot, HLm, HLs, HO, HB⟩ := hrel
        have c4 := HC4.out wr HB.out
        obtain ⟨T0, HT0⟩ : ∃ T0, Hid (turnR x.body L = T0) := ⟨_, rfl⟩
        have hpt := HPot.out L
        have hlm := HLm.out
        have HS0 : Hid (turnR (x.body.drop 0) L = T0) := by show _ = _; rw [List.drop_zero]; exact HT0.out
        go_wp2_with fail
        go_loopw [3, 6] (fun v i wr => ∃ (k m2 c2 : Nat) (A2 : Option Addr) (L2 : List ByteArray), k ≤ b_n ∧ i = .int .i64 (k : Int) ∧ v = .slice A2 m2 c2 ∧ Hid (turnR (x.body.drop k) L2 = T0) ∧ m2 + 1500 * lackN x.body L2 ≤ 8000000 ∧ Hid (L2.length = m2) ∧ Hid (∀ s ∈ L2, s.size ≤ reachN) ∧ Hid (wr.ownsRow V.heap.size 9 1 (.slice A2 m2 c2) m2 (L2.flatMap strC)) ∧ Hid (Below V.heap.size V wr)) (fun _ i _ => b_n - (intOf i).toNat)
        case atStart => exact ⟨0, m, c', A', L, by omega, rfl, rfl, HS0, hpot, HLm, HLs, HO, HB⟩
        case round =>
          clear HS0 HO HB c4
          obtain ⟨k, m2, c2, A2, L2, hk, rfl, rfl, HS, hpot2, HLm2, HLs2, HO, HB⟩ := hrel
          have i0 : (0 : Int) ≤ (k : Int) := by omega
          have c4 := HC4.out wr HB.out
          by_cases hlt : k < b_n
          · have i1 : (k : Int) < (b_n : Int) := by omega
            obtain ⟨bb, o, y, cs, hbA', hblt, hy, ⟨a', p', q', rfl, hL⟩, hcs⟩ := (HX.out.body.keep HB.out).cells_at hlt
            dsimp only at hbA'
            subst hbA'
            have HCs : Hid (∀ W, Below wr.heap.size wr W → ∀ j' v, (litC y a' p' q')[j']? = some v → W.cell? ⟨bb, o + k * 17 + j', none⟩ = some v) := fun W hW j' v hv => by
              rw [hW.cell (p := ⟨bb, o + k * 17 + j', none⟩) hblt]
              exact hcs j' v hv
            have K54 : Hid ((Tryz.prog.info? 54).map (·.size) = some (litC y a' p' q').length) := by show _ = some 17; kernel_rfl
            have hyl := HSz.out y (List.mem_of_getElem? hy.out)
            have hvl : (varsL y).length ≤ 1500 := Nat.le_trans (varsL_le y) hyl
            have HSe := Lib.hid (refSets_any d A2 m2 c2 L2 y a' p' q' wr (texts_isB HO.out HLm2.out (by omega) HLs2.out) hL hyl)
            have HI := Lib.hid (fun (W : World) (hW : Below wr.heap.size wr W) => refIn_any d y a' p' q' W (hL.keep hW) hyl)
            have HVs := Lib.hid (HOkB.out y (List.mem_of_getElem? hy.out))
            have hzB := HB.out.size
            have HStep := Lib.hid (turnR_one (S := L2) hy.out)
            have HCs0 := Lib.hid (HCs.out wr (Below.refl _ _))
            have Hmem := Lib.hid (List.mem_of_getElem? hy.out)
            clear hcs hL hy
            go_wp2_with (refine wpList_load_at bb (o + k * 17) (litC y a' p' q') _ HCs0.out Tryz.underlying54 rfl K54.out rfl rfl ?_)
            refine HSe.out.mono ?_
            rintro e w1 ⟨rfl, hb1⟩
            have hz1 := hb1.size
            have HO1 := Lib.hid (own_below HO.out hb1)
            have HB1 : Hid (Below V.heap.size V w1) := HB.out.trans (hb1.mono hzB)
            have HCs1 := Lib.hid (HCs.out w1 hb1)
            have HI1 := Lib.hid (HI.out w1 hb1)
            have c4 := HC4.out w1 HB1.out
            clear hb1 HSe HI HO HB
            cases hs : setsB L2 y with
            | true =>
              rw [hs] at HStep
              have HS2 : Hid (turnR (x.body.drop (k + 1)) (L2 ++ varsL y) = T0) := by
                show _ = _
                rw [← HS.out, HStep.out]; rfl
              have hlk := lack_lt Hmem.out hs
              have HLs3 : Hid (∀ s ∈ L2 ++ varsL y, s.size ≤ reachN) := fun s hs => by
                rcases List.mem_append.1 hs with h | h
                · exact HLs2.out s h
                · exact HVs.out s h
              have HLm3 : Hid ((L2 ++ varsL y).length = m2 + (varsL y).length) := by show _ = _; rw [List.length_append, HLm2.out]
              clear hs HStep HS
              go_wp2_with (refine wpList_load_at bb (o + k * 17) (litC y a' p' q') _ HCs1.out Tryz.underlying54 rfl K54.out rfl rfl ?_)
              refine HI1.out.mono ?_
              rintro e w2 ⟨A3, c3, rfl, ho3, hb2⟩
              have hz2 := hb2.size
              have hzB1 := HB1.out.size
              obtain ⟨A4, c5, W4, hrun, hown4, hb4, -⟩ := strs_app (own_below HO1.out hb2) (TextsPost.is ho3 (by omega) HVs.out) (by omega) (by omega)
              have HRun := Lib.hid hrun
              have HO4 := Lib.hid hown4
              have HB4 : Hid (Below V.heap.size V W4) := (HB1.out.trans (hb2.mono hzB1)).trans hb4
              clear ho3 hb2 hrun hown4 hb4 HI1 HO1
              go_wp2_with (at_builtin; refine wpList_append_run rfl _ _ _ rfl _ _ rfl rfl (HRun.out _) ?_)
              go_roundw
              case rel => exact ⟨k + 1, m2 + (varsL y).length, c5, A4, L2 ++ varsL y, by omega, by go_num, rfl, HS2, by omega, HLm3, HLs3, HO4, HB4⟩
              case measure => simp [intOf]; omega
            | false =>
              rw [hs] at HStep
              have HS2 : Hid (turnR (x.body.drop (k + 1)) L2 = T0) := by
                show _ = _
                rw [← HS.out, HStep.out]; rfl
              clear hs HStep HS
              go_wp2_with fail
              go_roundw
              case rel => exact ⟨k + 1, m2, c2, A2, L2, by omega, by go_num, rfl, HS2, hpot2, HLm2, HLs2, HO1, HB1⟩
              case measure => simp [intOf]; omega
          · obtain rfl : b_n = k := by omega
            have i1 : ¬ (b_n : Int) < (b_n : Int) := by omega
            have hT : L2 = T0 := by
              have h := HS.out
              rw [List.drop_of_length_le (by rw [Hbn.out]; exact Nat.le_refl _)] at h
              exact h
            by_cases hq : m2 = m
            · have hst := turnR_same (l := x.body) (S := L) (by rw [HT0.out, ← hT, HLm2.out, hlm, hq])
              have HE : Hid (BoundR x w (.returned (.slice A2 m2 c2)) wr) := by
                have e1 : L2 = L := by rw [hT, ← HT0.out]; exact hst.1
                have h2 := HLm2.out
                subst h2
                refine ⟨A2, c2, L2, rfl, own_down HO.out HbV.out.size, ?_, HLs2.out, by omega, HbV.out.trans (HB.out.mono HbV.out.size)⟩
                rw [e1]
                exact HBd.out L (.stop hst.2)
              have j0 : (m2 : Int) = (m : Int) := by omega
              have j1 : ((m2 : Int) == (m : Int)) = true := by simp [hq]
              clear hst hT hq HS HO HB
              go_wp2_with fail
              first | (go_ret; exact HE.out) | exact HE.out
            · have HBd2 : Hid (∀ T, BoundTo x.body L2 T → BoundTo x.body (posV x.body) T) := fun T h => HBd.out T (turnR_steps (l := x.body) (fun _ h => h) (by rw [HT0.out, ← hT]; exact h))
              have hlen := turnR_len x.body L
              rw [HT0.out, ← hT, HLm2.out, hlm] at hlen
              have j0 : ¬ (m2 : Int) = (m : Int) := by omega
              have j1 : ((m2 : Int) == (m : Int)) = false := by simp; omega
              clear hT HS HBd
              go_wp2_with fail
              go_roundw
              case rel => exact ⟨m2, c2, A2, L2, rfl, HBd2, hpot2, HLm2, HLs2, HO, HB⟩
              case measure => (try simp only [lenV2]); (first | omega | (show 8000000 - m2 < 8000000 - m; omega))
end Go.Proofs.YtfklheagafffmaaGreatDoor

namespace Go.Proofs.YtfklheagafffmaaGreatDoor
open Go.RowKit
def chkR (x : GRule) (S : List ByteArray) : Option Int := if allB S (putL [] x.head.args) then (x.body.find? (fun y => !allB S (varsL y))).map GLit.pos else some x.pos
theorem chkR_congr {x : GRule} {S T : List ByteArray} (h : ∀ v, v ∈ S ↔ v ∈ T) : chkR x S = chkR x T := by
  unfold chkR
  have e : (fun y => !allB S (varsL y)) = (fun y => !allB T (varsL y)) := by funext y; rw [allB_congr h]
  rw [allB_congr h, e]
open Classical in
noncomputable def bndF (x : GRule) : List ByteArray := if h : ∃ S, BoundTo x.body (posV x.body) S then h.choose else []
theorem bndF_eq {x : GRule} (hc : CmpBare x.body) {S : List ByteArray} (h : BoundTo x.body (posV x.body) S) : chkR x S = chkR x (bndF x) := by
  have hx : ∃ S, BoundTo x.body (posV x.body) S := ⟨S, h⟩
  unfold bndF
  rw [dif_pos hx]
  exact chkR_congr (bound_same hc (fun _ => Iff.rfl) h hx.choose_spec)
noncomputable def chkRs : List GRule → Int × Int
  | [] => (0, 0)
  | x :: l => match chkR x (bndF x) with
    | some at_ => (at_, 8)
    | none => chkRs l
noncomputable def chkP (p : GProg) : Int × Int := if formedB p then chkRs p.rules else (0, 2)
theorem chkRs_none {l : List GRule} {k : Nat} {x : GRule} (hx : l[k]? = some x) (h : chkR x (bndF x) = none) : chkRs (l.drop k) = chkRs (l.drop (k + 1)) := by
  obtain ⟨hk, he⟩ := List.getElem?_eq_some_iff.1 hx
  rw [List.drop_eq_getElem_cons hk, he, chkRs, h]
theorem chkRs_some {l : List GRule} {k : Nat} {x : GRule} {at_ : Int} (hx : l[k]? = some x) (h : chkR x (bndF x) = some at_) : chkRs (l.drop k) = (at_, 8) := by
  obtain ⟨hk, he⟩ := List.getElem?_eq_some_iff.1 hx
  rw [List.drop_eq_getElem_cons hk, he, chkRs, h]
theorem formed_rule {p : GProg} (h : formedB p = true) : ∀ x ∈ p.rules, rightRule x = true := by
  unfold formedB at h
  simp only [Bool.and_eq_true] at h
  exact fun x hx => List.all_eq_true.1 h.2.2 x hx
def headL (x : GAtom) : GLit := ⟨1, x, 0, .mk 0 ⟨⟨#[]⟩, ⟨0, 0, ⟨#[]⟩⟩⟩ [], .mk 0 ⟨⟨#[]⟩, ⟨0, 0, ⟨#[]⟩⟩⟩ [], 0⟩
theorem headL_vars (x : GAtom) : varsL (headL x) = putL [] x.args := by
  unfold varsL insideL headL
  have e : ∀ t : GTold, leavesE (.mk 0 t []) = [t] := fun t => leavesE_nil rfl
  show putL [] (x.args ++ (leavesE _ ++ leavesE _)) = _
  rw [e, putL_app]
  show putL (putL [] x.args) [_, _] = _
  simp [putL, put1]
theorem headL_len (x : GAtom) : (insideL (headL x)).length = x.args.length + 2 := by
  unfold insideL headL
  have e : ∀ t : GTold, leavesE (.mk 0 t []) = [t] := fun t => leavesE_nil rfl
  show (x.args ++ (leavesE _ ++ leavesE _)).length = _
  rw [e]; simp
theorem headed_any (x : GAtom) (a : Hd) (w : World) (hr : x.rel.size ≤ reachN) (ha : SliceIs Enc.told w w.heap.size a.A a.n a.c x.args) (hsz : x.args.length ≤ 1490) :
    Calls Tryz.prog 50 #[.agg #[.string x.rel, a.v]] w (TextsPost (putL [] x.args) w) := by
  obtain ⟨P, HP⟩ : ∃ P : Ending → World → Prop, Hid (P = TextsPost (putL [] x.args) w) := ⟨_, rfl⟩
  rw [← HP.out]
  obtain ⟨V, hV⟩ : ∃ V, V = w.alloc (.cells #[.string x.rel, a.v] 24) := ⟨_, rfl⟩
  have HVe := Lib.hid hV.symm
  have hg : V.heap[w.heap.size]? = some (.cells #[.string x.rel, a.v] 24 (0, 0)) := by rw [hV]; exact heapNew rfl
  have hbV : Below w.heap.size w V := by rw [hV]; exact belowA (Below.refl _ _) _
  obtain ⟨c0, c1⟩ := facts2 hg
  have hL : LitAt 0 V V.heap.size (headL x) a ⟨none, 0, 0⟩ ⟨none, 0, 0⟩ :=
    ⟨show fits (1 : Int) from fits_sm (by omega), show fits (0 : Int) from fits_sm (by omega), show fits (0 : Int) from fits_sm (by omega), hr, ha.keep hbV, show fits (0 : Int) from fits_sm (by omega), show (0 : Nat) ≤ reachN from Nat.zero_le _, GV.ok_zero, SliceIs.nil, show fits (0 : Int) from fits_sm (by omega), show (0 : Nat) ≤ reachN from Nat.zero_le _, GV.ok_zero, SliceIs.nil⟩
  have HI := Lib.hid (inT_any 0 (headL x) a ⟨none, 0, 0⟩ ⟨none, 0, 0⟩ V hL (by rw [headL_len]; omega))
  have Hv := Lib.hid (headL_vars x)
  have HbV := Lib.hid hbV
  clear ha hV hg hbV hL hr hsz
  go_enter Tryz.func50, Tryz.ntmps50
  go_wp2_with (rw [HVe.out])
  refine HI.out.mono ?_
  rintro e w1 ⟨A1, c1', rfl, ho1, hb1⟩
  have HPP : Hid (P (.returned (.slice A1 (varsL (headL x)).length c1')) w1) := by
    show P _ _
    rw [HP.out, Hv.out]
    have ho2 : w1.ownsRow V.heap.size 9 1 (.slice A1 (varsL (headL x)).length c1') (varsL (headL x)).length ((varsL (headL x)).flatMap strC) := ho1
    rw [Hv.out] at ho2
    exact ⟨A1, c1', rfl, own_down ho2 HbV.out.size, HbV.out.trans (hb1.mono HbV.out.size)⟩
  have HPP : Hid (P (.returned (.slice A1 (putL [] (insideL (headL x))).length c1')) w1) := HPP.out
  clear ho1 hb1 HI
  go_wp2_with fail
  exact HPP.out
end Go.Proofs.YtfklheagafffmaaGreatDoor

namespace Go.Proofs.YtfklheagafffmaaGreatDoor
open Go.RowKit
abbrev zRuleC : List Value := ruleC ⟨⟨⟨#[]⟩, []⟩, 0, 0, [], 0⟩ ⟨none, 0, 0⟩ ⟨none, 0, 0⟩
theorem rule_infoS : (Tryz.prog.info? 27).map (fun i => (i.zero, i.size)) = some (some (.agg zRuleC.toArray), zRuleC.toArray.size) := by kernel_rfl
theorem rule_sizeS (x : GRule) (a b : Hd) : (Tryz.prog.info? 27).map (·.size) = some (ruleC x a b).length := by
  show _ = some 6
  kernel_rfl
theorem rule_oneS (x : GRule) (a b : Hd) : (ruleC x a b).toArray.all (·.oneCell') = true := by simp [Value.oneCell']
theorem right_head {x : GRule} (h : rightRule x = true) : x.head.args.length ≤ 8 := by
  unfold rightRule atomB at h
  simp only [Bool.and_eq_true, decide_eq_true_eq] at h
  first | exact h.1.1.2 | exact h.1.2.1 | exact h.1.1.2.1 | exact h.1.2 | omega
theorem find_atL {α : Type} {L : List α} {p : α → Bool} {j : Nat} {k : α} (hk : L[j]? = some k) (hp : p k = true) (hn : ∀ y ∈ L.take j, p y = false) : L.find? p = some k := by
  obtain ⟨hj, he⟩ := List.getElem?_eq_some_iff.1 hk
  have e1 : L = L.take j ++ k :: L.drop (j + 1) := by
    rw [← he, List.getElem_cons_drop, List.take_append_drop]
  rw [List.find?_eq_some_iff_append]
  exact ⟨hp, L.take j, L.drop (j + 1), e1, fun y hy => by rw [hn y hy]; rfl⟩
def ChkPost (r : Int × Int) (w : World) (e : Ending) (w' : World) : Prop := e = .returned (.tuple #[.int .i64 r.1, errV 115 r.2]) ∧ Below w.heap.size w w'
theorem chkPost8 {p : GProg} {at_ : Int} {w w' : World} (h : chkP p = (at_, 8)) (hb : Below w.heap.size w w') : ChkPost (chkP p) w (.returned (.tuple #[.int .i64 at_, .iface 115 (.int .i64 8)])) w' := by
  rw [h]; exact ⟨rfl, hb⟩
theorem check_any (d : Nat) (x : GProg) (aA : Option Addr) (an ac : Nat) (bA : Option Addr) (bn bc : Nat) (w : World) (hx : ProgAt d w w.heap.size x ⟨aA, an, ac⟩ ⟨bA, bn, bc⟩) (hW : LexW w) (hsm : SmProg x) :
    Calls Tryz.prog 21 #[.agg (progC ⟨aA, an, ac⟩ ⟨bA, bn, bc⟩).toArray] w (ChkPost (chkP x) w) := by
  have hbn := hx.rules.bound
  have Hbl : Hid (x.rules.length = bn) := hx.rules.1
  obtain ⟨V, hV⟩ : ∃ V, V = w.alloc (.cells #[.slice aA an ac, .slice bA bn bc] 74) := ⟨_, rfl⟩
  have HVe := Lib.hid hV.symm
  have hg : V.heap[w.heap.size]? = some (.cells #[.slice aA an ac, .slice bA bn bc] 74 (0, 0)) := by rw [hV]; exact heapNew rfl
  have hbV : Below w.heap.size w V := by rw [hV]; exact belowA (Below.refl _ _) _
  have hgl : w.heap.size < V.heap.size := (Array.getElem?_eq_some_iff.1 hg).1
  have HbV := Lib.hid hbV
  obtain ⟨c0, c1⟩ := facts2 hg
  have HX := Lib.hid (hx.keep hbV)
  have HF := Lib.hid (formed_any d x ⟨aA, an, ac⟩ ⟨bA, bn, bc⟩ V HX.out (hW.on hbV))
  have HC1 : Hid (∀ W, Below V.heap.size V W → W.cell? ⟨w.heap.size, 1, none⟩ = some (.slice bA bn bc)) := fun W hW => (facts2 ((hW.block _ hgl).trans hg)).2
  have HSm := Lib.hid hsm
  obtain ⟨P, HP⟩ : ∃ P : Ending → World → Prop, Hid (P = ChkPost (chkP x) w) := ⟨_, rfl⟩
  rw [← HP.out]
  clear hx hW hV hg hbV hsm
  go_enter Tryz.func21, Tryz.ntmps21
  go_wp2_with (rw [HVe.out])
  refine HF.out.mono ?_
  rintro e w1 ⟨rfl, hb1⟩
  have HB1 := Lib.hid hb1
  clear hb1 HF
  cases hfo : formedB x with
  | false =>
    have HPP : Hid (P (.returned (.tuple #[.int .i64 0, .iface 115 (.int .i64 2)])) w1) := by
      show P _ _
      rw [HP.out]
      refine ⟨?_, HbV.out.trans (HB1.out.mono HbV.out.size)⟩
      unfold chkP; rw [hfo]; rfl
    clear hfo
    go_wp2_with fail
    first | exact HPP.out | (go_ret2; exact HPP.out)
  | true =>
  have HFr := Lib.hid (formed_rule hfo)
  have HR : Hid (chkP x = chkRs (x.rules.drop 0)) := by show _ = _; unfold chkP; rw [hfo, List.drop_zero]; rfl
  have d1 := HC1.out w1 HB1.out
  clear hfo c0 c1
  go_wp2_with fail
  clear d1
  go_loopw [16] (fun i wr => ∃ k : Nat, k ≤ bn ∧ i = .int .i64 (k : Int) ∧ Hid (chkP x = chkRs (x.rules.drop k)) ∧ Hid (Below V.heap.size V wr)) (fun i _ => bn - (intOf i).toNat)
  case atStart => exact ⟨0, by omega, rfl, HR, HB1.out⟩
  case round =>
    clear HR HB1
    obtain ⟨k, hk, rfl, HR, HB⟩ := hrel
    have i0 : (0 : Int) ≤ (k : Int) := by omega
    by_cases hlt : k < bn
    · have i1 : (k : Int) < (bn : Int) := by omega
      obtain ⟨rb, ro, y, cs, hbA, hrb, hy, ⟨a, m, rfl, hyA⟩, hcs⟩ := (HX.out.rules.keep HB.out).cells_at hlt
      dsimp only at hbA
      subst hbA
      obtain ⟨m_A, m_n, m_c⟩ := m
      obtain ⟨a_A, a_n, a_c⟩ := a
      have hym := List.mem_of_getElem? hy.out
      have hsy := HSm.out.each y hym
      have hry := HFr.out y hym
      have hrt : (ruleT y).length ≤ 1500 := by unfold ruleT; rw [List.length_append]; exact hsy.all
      have HCs : Hid (∀ j' v, (ruleC y ⟨a_A, a_n, a_c⟩ ⟨m_A, m_n, m_c⟩)[j']? = some v → wr.cell? ⟨rb, ro + k * 6 + j', none⟩ = some v) := hcs
      obtain ⟨U, hU⟩ : ∃ U, U = wr.alloc (.cells (ruleC y ⟨a_A, a_n, a_c⟩ ⟨m_A, m_n, m_c⟩).toArray 27) := ⟨_, rfl⟩
      have HUe := Lib.hid hU.symm
      have hbU : Below wr.heap.size wr U := by rw [hU]; exact belowA (Below.refl _ _) _
      have hrU : U.heap[wr.heap.size]? = some (.cells (ruleC y ⟨a_A, a_n, a_c⟩ ⟨m_A, m_n, m_c⟩).toArray 27 (0, 0)) := by rw [hU]; exact heapNew rfl
      have hzU : wr.heap.size < U.heap.size := (Array.getElem?_eq_some_iff.1 hrU).1
      have HBU : Hid (Below V.heap.size V U) := HB.out.trans (hbU.mono HB.out.size)
      have HRow : Hid (∀ W, Below U.heap.size U W → W.heap[wr.heap.size]? = some (.cells (ruleC y ⟨a_A, a_n, a_c⟩ ⟨m_A, m_n, m_c⟩).toArray 27 (0, 0))) := fun W hW => (hW.block _ hzU).trans hrU
      have HRA : Hid (∀ W, Below U.heap.size U W → RuleAt d W W.heap.size y ⟨a_A, a_n, a_c⟩ ⟨m_A, m_n, m_c⟩) := fun W hW => (hyA.keep hbU).keep hW
      have HBo := Lib.hid (bound_any (HRA.out U (Below.refl _ _)) hrt hsy.body)
      have HRU := Lib.hid (row_cells (HRow.out U (Below.refl _ _)))
      have HEnd : Hid (∀ W at_, Below U.heap.size U W → chkR y (bndF y) = some at_ → P (.returned (.tuple #[.int .i64 at_, .iface 115 (.int .i64 8)])) W) := fun W at_ hW hc => by
        rw [HP.out]
        exact chkPost8 (by rw [HR.out]; exact chkRs_some hy.out hc) (HbV.out.trans ((HBU.out.trans (hW.mono HBU.out.size)).mono HbV.out.size))
      have HNext : Hid (chkR y (bndF y) = none → chkP x = chkRs (x.rules.drop (k + 1))) := fun hc => by rw [HR.out]; exact chkRs_none hy.out hc
      have Hsy := Lib.hid hsy
      have Hry := Lib.hid hry
      have Hmn : Hid (y.body.length = m_n) := hyA.body.1
      have hmn8 : m_n ≤ 8 := by rw [← Hmn.out]; exact right_len hry
      have HRt := Lib.hid hrt
      clear hU hbU hrU hyA hcs hy hym hsy hry hrt
      go_wp2_with (first
        | rw [HUe.out]
        | refine wpList_load_at rb (ro + k * 6) (ruleC y ⟨a_A, a_n, a_c⟩ ⟨m_A, m_n, m_c⟩) _ HCs.out Tryz.underlying27 rfl (rule_sizeS _ _ _) rfl rfl ?_
        | refine wpList_new rfl rfl 27 5 (.tmp 19) rfl rfl rfl rfl _ (ruleC y ⟨a_A, a_n, a_c⟩ ⟨m_A, m_n, m_c⟩).toArray rule_infoS rfl (rule_oneS _ _ _) rfl rfl ?_
        | refine wpList_load_at wr.heap.size 0 (ruleC y ⟨a_A, a_n, a_c⟩ ⟨m_A, m_n, m_c⟩) _ HRU.out Tryz.underlying27 rfl (rule_sizeS _ _ _) rfl rfl ?_)
      refine HBo.out.mono ?_
      rintro e w2 ⟨g, S, M, rfl, hs2, hbd2, hb2⟩
      have hcb := right_bare Hry.out
      have HChk : Hid (chkR y S = chkR y (bndF y)) := bndF_eq hcb hbd2
      have hra2 := HRA.out w2 hb2
      have HH := Lib.hid (headed_any y.head ⟨a_A, a_n, a_c⟩ w2 hra2.rel hra2.args (by have := right_head Hry.out; omega))
      have HOkH := Lib.hid (told_ok hra2.args)
      have HS2 := Lib.hid hs2
      have HB2 := Lib.hid hb2
      obtain ⟨x0, x1, -, x3, -, -⟩ := facts6 (HRow.out w2 hb2)
      clear hs2 hbd2 hb2 hra2 hcb HBo
      go_wp2_with fail
      refine HH.out.mono ?_
      rintro e w3 ⟨A3, c3, rfl, ho3, hb3⟩
      have hb3' : Below U.heap.size U w3 := HB2.out.trans (hb3.mono HB2.out.size)
      have HAll := Lib.hid (setAll_any g A3 _ c3 (putL [] y.head.args) S M w3 (HS2.out.below hb3) (TextsPost.is ho3 (by have := putL_le0 y.head.args; have := right_head Hry.out; omega) (fun s hs => by
        obtain ⟨t, ht, rfl, -⟩ : ∃ t ∈ y.head.args, s = t.x ∧ t.x.toList.isEmpty = false := by
          have := putL_has.1 hs; simpa using this
        exact (HOkH.out t ht).1)))
      have HS3 := Lib.hid (HS2.out.below hb3)
      have HB3 := Lib.hid hb3'
      clear ho3 hb3 hb3' HH x0 x1 x3
      go_wp2_with fail
      refine HAll.out.mono ?_
      rintro e w4 ⟨rfl, hb4⟩
      have hb4' : Below U.heap.size U w4 := HB3.out.trans (hb4.mono HB3.out.size)
      have HS4 := Lib.hid (HS3.out.below hb4)
      have HB4 := Lib.hid hb4'
      obtain ⟨-, -, -, -, x4, x5⟩ := facts6 (HRow.out w4 hb4')
      dsimp only [Hd.v] at x4
      clear hb4 hb4' HAll
      cases hal : allB S (putL [] y.head.args) with
      | false =>
        have hc : chkR y (bndF y) = some y.pos := by rw [← HChk.out]; unfold chkR; rw [hal]; rfl
        have HPP := Lib.hid (HEnd.out w4 y.pos HB4.out hc)
        clear hal hc
        go_wp2_with fail
        first | exact HPP.out | (go_ret2; exact HPP.out)
      | true =>
        have HC2 : Hid (chkR y (bndF y) = (y.body.find? (fun z => !allB S (varsL z))).map GLit.pos) := by show _ = _; rw [← HChk.out]; unfold chkR; rw [hal]; rfl
        clear hal
        go_wp2_with fail
        go_loopw [34] (fun i wr2 => ∃ j : Nat, j ≤ m_n ∧ i = .int .i64 (j : Int) ∧ Hid (∀ z ∈ y.body.take j, allB S (varsL z) = true) ∧ Hid (Below U.heap.size U wr2) ∧ Hid (SetV wr2 g S M)) (fun i _ => m_n - (intOf i).toNat)
        case atStart => exact ⟨0, by omega, rfl, (fun z hz => by simp at hz), HB4.out, HS4.out⟩
        case round =>
          clear HB4 HS4 HS3 HB3 HS2 HB2 x4 x5
          obtain ⟨j, hj, rfl, HNo, HB5, HS5⟩ := hrel
          have j0 : (0 : Int) ≤ (j : Int) := by omega
          by_cases hjl : j < m_n
          · have j1 : (j : Int) < (m_n : Int) := by omega
            obtain ⟨bb, o, z, a', p', q', hmA, hbb, hz, hlz, Hr⟩ := (HRA.out wr HB5.out).body.lit_range hjl
            dsimp only at hmA
            subst hmA
            obtain ⟨Q, hQ⟩ : ∃ Q, Q = wr.alloc (.cells (litC z a' p' q').toArray 70) := ⟨_, rfl⟩
            have HQe := Lib.hid hQ.symm
            have hbQ : Below wr.heap.size wr Q := by rw [hQ]; exact belowA (Below.refl _ _) _
            have hrQ : Q.heap[wr.heap.size]? = some (.cells (litC z a' p' q').toArray 70 (0, 0)) := by rw [hQ]; exact heapNew rfl
            have hzQ : wr.heap.size < Q.heap.size := (Array.getElem?_eq_some_iff.1 hrQ).1
            have HRn := Lib.hid (range_row hrQ)
            have hzl : (insideL z).length ≤ 1500 := by
              have := (Hsy.out.lits z (List.mem_of_getElem? hz.out)).all
              unfold insideL
              simp only [List.length_append]
              exact this
            have hvl : (varsL z).length ≤ 1500 := Nat.le_trans (varsL_le z) hzl
            have HI := Lib.hid (inT_any d z a' p' q' Q (hlz.keep hbQ) hzl)
            have HVs : Hid (∀ s ∈ varsL z, s.size ≤ reachN) := fun s hs => by
              obtain ⟨t, ht, rfl, -⟩ := varsL_has.1 hs
              exact (inside_ok hlz t ht).1
            have HBQ : Hid (Below U.heap.size U Q) := HB5.out.trans (hbQ.mono HB5.out.size)
            have HSQ := Lib.hid (HS5.out.below hbQ)
            have HRQ : Hid (∀ W, Below Q.heap.size Q W → W.cell? ⟨wr.heap.size, 16, none⟩ = some (.int .i64 z.pos)) := fun W hW => (facts17 ((hW.block _ hzQ).trans hrQ)).2.2.2.2.2.2.2.2.2.2.2.2.2.2.2.2
            clear hQ hbQ hrQ hlz HB5 HS5
            go_wp2_with (first
              | rw [HQe.out]
              | refine wpList_load_mid rfl 70 (.tmp 36) rfl bb (o + j * 17) rfl (litC z a' p' q') _ Hr.out Tryz.underlying70 rfl (lit_size z a' p' q') ?_
              | refine wpList_new rfl rfl 70 8 (.tmp 37) rfl rfl rfl rfl _ (litC z a' p' q').toArray lit_info rfl (lit_one z a' p' q') rfl rfl ?_
              | refine wpList_load_mid rfl 70 (.tmp 8) rfl wr.heap.size 0 rfl (litC z a' p' q') _ HRn.out Tryz.underlying70 rfl (lit_size z a' p' q') ?_)
            refine HI.out.mono ?_
            rintro e w5 ⟨A5, c5, rfl, ho5, hb5⟩
            have HAll := Lib.hid (setAll_any g A5 _ c5 (varsL z) S M w5 (HSQ.out.below hb5) (TextsPost.is ho5 (by have : (putL [] (insideL z)).length = (varsL z).length := rfl; omega) HVs.out))
            have HS5 := Lib.hid (HSQ.out.below hb5)
            have HB5 := Lib.hid hb5
            clear ho5 hb5 HI HSQ
            go_wp2_with fail
            refine HAll.out.mono ?_
            rintro e w6 ⟨rfl, hb6⟩
            have hQ6 : Below Q.heap.size Q w6 := HB5.out.trans (hb6.mono HB5.out.size)
            have HB6 : Hid (Below U.heap.size U w6) := HBQ.out.trans (hQ6.mono HBQ.out.size)
            have HS6 := Lib.hid (HS5.out.below hb6)
            have x6 := HRQ.out w6 hQ6
            clear hb6 hQ6 HAll HS5 HB5
            cases hal : allB S (varsL z) with
            | false =>
              have hc : chkR y (bndF y) = some z.pos := by
                rw [HC2.out, find_atL hz.out (by rw [hal]; rfl) (fun v hv => by rw [HNo.out v hv]; rfl)]; rfl
              have HPP := Lib.hid (HEnd.out w6 z.pos HB6.out hc)
              clear hal hc
              go_wp2_with fail
              first | exact HPP.out | (go_ret2; exact HPP.out)
            | true =>
              have HNo2 : Hid (∀ v ∈ y.body.take (j + 1), allB S (varsL v) = true) := fun v hv => by
                rw [mem_take_step hz.out] at hv
                rcases hv with hv | rfl
                · exact HNo.out v hv
                · exact hal
              clear hal
              go_wp2_with fail
              go_roundw
              case rel => exact ⟨j + 1, by omega, by go_num, HNo2, HB6, HS6⟩
              case measure => simp [intOf]; omega
          · obtain rfl : m_n = j := by omega
            have j1 : ¬ (m_n : Int) < (m_n : Int) := by omega
            have hc : chkR y (bndF y) = none := by
              rw [HC2.out, List.find?_eq_none.2 (fun v hv => by rw [HNo.out v (by rw [List.take_of_length_le (by rw [Hmn.out]; exact Nat.le_refl _)]; exact hv)]; simp)]; rfl
            have HN := Lib.hid (HNext.out hc)
            have HBw : Hid (Below V.heap.size V wr) := HBU.out.trans (HB5.out.mono HBU.out.size)
            clear hc HB5 HS5
            go_wp2_with fail
            go_roundw
            case rel => exact ⟨k + 1, by omega, by go_num, HN, HBw⟩
            case measure => simp [intOf]; omega
    · have i1 : ¬ (k : Int) < (bn : Int) := by omega
      have HPP : Hid (P (.returned (.tuple #[.int .i64 0, .nilIface])) wr) := by
        show P _ _
        rw [HP.out]
        refine ⟨?_, HbV.out.trans (HB.out.mono HbV.out.size)⟩
        rw [HR.out, List.drop_of_length_le (by rw [Hbl.out]; omega)]; rfl
      go_wp2_with fail
      first | exact HPP.out | (go_ret2; exact HPP.out)
end Go.Proofs.YtfklheagafffmaaGreatDoor
