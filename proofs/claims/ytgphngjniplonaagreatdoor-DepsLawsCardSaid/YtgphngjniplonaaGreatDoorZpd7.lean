/- My own texts DgWw, DgRe, as far as this claim needs them. -/
import Derived.Test.YtgphngjniplonaaGreatDoorZpd5
import Derived.Test.YtgphngjniplonaaGreatDoorZpd6
set_option linter.unusedVariables false
set_option linter.unusedSimpArgs false
set_option maxRecDepth 1000000
set_option maxHeartbeats 16000000
namespace Go.Proofs.YtgphngjniplonaaGreatDoor
open Go.RowKit
attribute [local go_sem] Oper.semAt_some
def markD (b : Nat) : Deferred := { target := .collected b, args := #[] }
def MarksOk (B : Nat) (Bs : List Nat) (W : World) : Prop := Bs.Nodup ∧ ∀ b ∈ Bs, B ≤ b ∧ W.heap[b]? = some (.deferred (some []))
theorem MarksOk.nil (B : Nat) (W : World) : MarksOk B [] W := ⟨List.nodup_nil, fun b hb => by cases hb⟩
theorem MarksOk.same {B : Nat} {Bs : List Nat} {W W' : World} (h : MarksOk B Bs W) (hs : ∀ b ∈ Bs, W'.heap[b]? = W.heap[b]?) : MarksOk B Bs W' := ⟨h.1, fun b hb => ⟨(h.2 b hb).1, (hs b hb).trans (h.2 b hb).2⟩⟩
theorem MarksOk.lt {B : Nat} {Bs : List Nat} {W : World} (h : MarksOk B Bs W) {b : Nat} (hb : b ∈ Bs) : b < W.heap.size := (Array.getElem?_eq_some_iff.1 (h.2 b hb).2).1
theorem MarksOk.below {B : Nat} {Bs : List Nat} {W W' : World} (h : MarksOk B Bs W) (hb : Below W.heap.size W W') : MarksOk B Bs W' := h.same (fun b hm => hb.block b (h.lt hm))
theorem MarksOk.soft {B C : Nat} {Bs : List Nat} {W W' : World} (h : MarksOk B Bs W) (hs : Soft C W W') (hC : ∀ b ∈ Bs, b < C) : MarksOk B Bs W' := h.same (fun b hm => by rw [(h.2 b hm).2]; exact hs.same _ _ (h.2 b hm).2 (.inl (hC b hm)))
theorem MarksOk.out {B : Nat} {Bs T : List Nat} {W W' : World} (h : MarksOk B Bs W) (ho : Out T W W') (hT : ∀ b ∈ T, b < W.heap.size → W.heap[b]? ≠ some (.deferred (some []))) : MarksOk B Bs W' :=
  h.same (fun b hm => ho.block b (h.lt hm) (fun hb => hT b hb (h.lt hm) (h.2 b hm).2))
theorem MarksOk.add {B : Nat} {Bs : List Nat} {W : World} (h : MarksOk B Bs W) {b : Nat} (hb : b ∉ Bs) (hB : B ≤ b) (hw : W.heap[b]? = some (.deferred (some []))) : MarksOk B (b :: Bs) W :=
  ⟨List.nodup_cons.2 ⟨hb, h.1⟩, fun c hc => by
    rcases List.mem_cons.1 hc with rfl | hc
    · exact ⟨hB, hw⟩
    · exact h.2 c hc⟩
theorem leaves_marks {F : Fence} {n : Nat} {P : Program} {fn : Func} {tmps : Array Value} {R : Ending → World → Prop} {B : Nat} : ∀ (Bs : List Nat) (W : World), MarksOk B Bs W → (∀ W', Soft B W W' → LeavesInM F n P fn tmps R [] .returning W') → LeavesInM F n P fn tmps R (Bs.map markD) .returning W
  | [], W, _, h => h W (Soft.refl _ _)
  | b :: Bs, W, hm, h => by
    refine ⟨by simp, .inl ⟨b, _, rfl, run_takeDeferred (hm.2 b (List.mem_cons_self ..)).2, ?_⟩⟩
    have hs : Soft B W (W.putObj b (.deferred none)) := Soft.putObj _ (hm.2 b (List.mem_cons_self ..)).1 (hm.2 b (List.mem_cons_self ..)).2 rfl
    refine leaves_marks Bs _ ⟨(List.nodup_cons.1 hm.1).2, fun c hc => ⟨(hm.2 c (List.mem_cons_of_mem _ hc)).1, ?_⟩⟩ (fun W' hs' => h W' (hs.trans hs'))
    rw [World.putObj_heap_other (fun e => (List.nodup_cons.1 hm.1).1 (by rw [← e]; exact hc))]
    exact (hm.2 c (List.mem_cons_of_mem _ hc)).2
theorem tm_lit {tm : Array Value} (n : Nat) (hs : tm.size = n) : ∃ f : Nat → Value, tm = ((List.range n).map f).toArray ∧ ∀ k v, tm[k]? = some v → f k = v := by
  obtain ⟨f, h1, h2⟩ := act_lit (a := ⟨tm, []⟩) n hs rfl
  injection h1 with h1 _
  exact ⟨f, h1, h2⟩
theorem WkM.start (w : World) (n a : Int) (A : Option Addr) (m c : Nat) :
    WkM w n A m c [] [] [a] (w.heap.size + 5) none 0 (some ⟨w.heap.size + 4, 0, none⟩) 1 ((((((w.alloc (.cells #[.int .i64 n, .slice A m c] 31)).alloc (.map #[] 0)).alloc (.cells #[.map (some (w.heap.size + 1))] 124)).alloc (.cells #[.slice none 0 0] 58)).alloc (.cells #[.int .i64 a] 3)).alloc (.cells #[.slice (some ⟨w.heap.size + 4, 0, none⟩) 1 1] 58)) := by
  have hm : MapN ((w.alloc (.cells #[.int .i64 n, .slice A m c] 31)).alloc (.map #[] 0)) (w.heap.size + 1) [] := by
    have := MapN.made (w := w.alloc (.cells #[.int .i64 n, .slice A m c] 31))
    simpa using this
  have hq : ((((((w.alloc (.cells #[.int .i64 n, .slice A m c] 31)).alloc (.map #[] 0)).alloc (.cells #[.map (some (w.heap.size + 1))] 124)).alloc (.cells #[.slice none 0 0] 58)).alloc (.cells #[.int .i64 a] 3)).alloc (.cells #[.slice (some ⟨w.heap.size + 4, 0, none⟩) 1 1] 58)).heap[w.heap.size + 4]? = some (.cells #[.int .i64 a] 3 (0, 0)) := heapOld (heapNew (by simp))
  refine ⟨heapOld (heapOld (heapOld (heapOld (heapOld (heapNew rfl))))), (((hm.alloc _).alloc _).alloc _).alloc _, heapOld (heapOld (heapOld (heapNew (by simp)))), heapOld (heapOld (heapNew (by simp))), World.ownsRow_nil _ _ _ _, heapNew (by simp), QRow.one hq, (fun b hb => by cases hb), by omega, belowA (belowA (belowA (belowA (belowA (belowA (Below.refl _ _) _) _) _) _) _) _⟩
theorem fmL_some {a : Nat} : ∀ {ps : List (List Nat)} {y : Nat}, y ∈ outs a ps → (knGet (fmL a ps) (y : Int)).isSome = true
  | [], y, h => by cases h
  | p :: ps, y, h => by
    show (knGet ((((wayEnd a p : Nat) : Int), _) :: fmL a ps) _).isSome = true
    rw [kvGet_consN]
    by_cases e : wayEnd a p = y
    · rw [if_pos (by rw [e])]; rfl
    · rw [if_neg (fun e' => e (by omega))]
      rcases List.mem_cons.1 h with h1 | h1
      · exact absurd h1.symm e
      · exact fmL_some h1
theorem cast_inj : ∀ {l m : List Nat}, l.map (fun y : Nat => (y : Int)) = m.map (fun y : Nat => (y : Int)) → l = m
  | [], [], _ => rfl
  | [], b :: m, h => by simp at h
  | a :: l, [], h => by simp at h
  | a :: l, b :: m, h => by
    simp only [List.map_cons, List.cons.injEq] at h
    rw [cast_inj h.2, show a = b by omega]
theorem pre_at {prN ys : List Nat} {y : Int} (h : (prN.map (fun y : Nat => (y : Int)) ++ [y]) <+: ys.map (fun y : Nat => (y : Int))) : ∃ yn post, y = ((yn : Nat) : Int) ∧ ys = prN ++ yn :: post := by
  obtain ⟨t, ht⟩ := h
  have h1 : (ys.take prN.length).map (fun y : Nat => (y : Int)) = prN.map (fun y : Nat => (y : Int)) := by
    rw [List.map_take, ← ht, List.append_assoc, List.take_left' (by simp)]
  have h2 : ys.take prN.length = prN := by
    have hinj : ∀ (l m : List Nat), l.map (fun y : Nat => (y : Int)) = m.map (fun y : Nat => (y : Int)) → l = m := by
      intro l
      induction l with
      | nil => intro m h; cases m with | nil => rfl | cons a m => simp at h
      | cons a l ih =>
        intro m h
        cases m with
        | nil => simp at h
        | cons b m =>
          simp only [List.map_cons, List.cons.injEq] at h
          rw [ih m h.2, show a = b by omega]
    exact hinj _ _ h1
  have h3 : (ys.map (fun y : Nat => (y : Int)))[prN.length]? = some y := by
    rw [← ht, List.append_assoc, List.getElem?_append_right (by simp)]
    simp
  rw [List.getElem?_map, Option.map_eq_some_iff] at h3
  obtain ⟨yn, h4, h5⟩ := h3
  refine ⟨yn, ys.drop (prN.length + 1), h5.symm, ?_⟩
  obtain ⟨hlt, he⟩ := List.getElem?_eq_some_iff.1 h4
  have e5 : ys.drop prN.length = yn :: ys.drop (prN.length + 1) := by rw [List.drop_eq_getElem_cons hlt, he]
  calc ys = ys.take prN.length ++ ys.drop prN.length := (List.take_append_drop _ _).symm
    _ = _ := by rw [h2, e5]
theorem zero_int (W : World) : (zeroValue 3).run Tryz.prog W = .ok (.int .i64 0) W := by
  obtain ⟨i, h1, h2, -⟩ := info_parts int_info1
  simp [zeroValue, typeInfo, h1, h2]
theorem region_once {F : Fence} {n : Nat} {P : Program} {Q : Exit → Act → World → Prop} {c : Code} {a : Act} {w : World} (Post : Act → Act → World → Prop) (h : c.wpIn F n P (fun e a' w' => e = .normal ∧ Post a a' w') a w) (h2 : ∀ a' w', Post a a' w' → Q .normal a' w') : c.wpIn F n P Q a w :=
  wpIn_mono h (fun e a' w' hp => by rw [hp.1]; exact h2 a' w' hp.2)
def WalkP (n : Int) (l : List GEdge) (a : Int) (w : World) (e : Ending) (w' : World) : Prop :=
  ∃ ps Ao co, e = .returned (.tuple #[.map (some (w.heap.size + 1)), .slice Ao ps.length co]) ∧ WS n l a ps (ps.length + 1) [] ∧ MapN w' (w.heap.size + 1) (fmL a.toNat ps) ∧ w'.ownsRow (w.heap.size + 4) 3 1 (.slice Ao ps.length co) ps.length ((outsI a ps).map intV) ∧ Below w.heap.size w w'
def WkI (w : World) (n : Int) (A : Option Addr) (m c : Nat) (l : List GEdge) (a : Int) (gk : Nat) (act : Act) (W : World) : Prop :=
  ∃ ps k g8 Ao co At ct Bs, gk + k = 40 ∧ k ≤ ps.length + 1 ∧ act.defers = Bs.map markD ∧ act.tmps.size = 50 ∧ act.tmps[1]? = some (.int .i64 a) ∧ act.tmps[2]? = some (.pointer (some ⟨w.heap.size, 0, none⟩)) ∧ act.tmps[6]? = some (.pointer (some ⟨w.heap.size + 2, 0, none⟩)) ∧
    act.tmps[7]? = some (.pointer (some ⟨w.heap.size + 3, 0, none⟩)) ∧ act.tmps[8]? = some (.pointer (some ⟨g8, 0, none⟩)) ∧ WS n l a ps k [] ∧ WkM w n A m c (fmL a.toNat ps) (outsI a ps) ((quI a ps).drop k) g8 Ao co At ct W ∧ MarksOk (w.heap.size + 4) Bs W
theorem walk_any (n a : Int) (A : Option Addr) (m c : Nat) (l : List GEdge) (w : World) (hl : SliceIs Enc.edge w w.heap.size A m c l) : Calls Tryz.prog 46 #[graphV n A m c, .int .i64 a] w (WalkP n l a w) := by
  have mixed : Tryz.prog.follows .mixedOrders = true := by kernel_rfl
  have HL := Lib.hid hl
  obtain ⟨P, HP⟩ : ∃ P : Ending → World → Prop, Hid (P = WalkP n l a w) := ⟨_, rfl⟩
  rw [← HP.out]
  clear hl
  have hmm := @run_makeMap Tryz.prog
  refine (callsIn_wide (n := 8)).1 ?_
  refine callsIn_of_wp_marks Tryz.func46 rfl trivial ?_ rfl
  simp only [Tryz.ntmps46, List.size_toArray, List.length_cons, List.length_nil, Nat.reduceAdd, Nat.reduceSub, Array.replicate_succ, Array.replicate_zero, List.push_toArray, List.append_toArray, List.nil_append, List.cons_append]
  refine wpIn_wide.2 ?_
  go_wp2_with fail
  refine wp_loop_ghost_k (WkI w n A m c l a) 40 ⟨[], 0, w.heap.size + 5, none, 0, some ⟨w.heap.size + 4, 0, none⟩, 1, [], rfl, by simp, rfl, rfl, rfl, rfl, rfl, rfl, rfl, WS.start n l a, WkM.start w n a A m c, MarksOk.nil _ _⟩ ?_
  clear hmm
  rintro gk ⟨tm, D⟩ W ⟨ps, k, g8, Ao, co, At, ct, Bs, hgk, hk, rfl, hs, h1, h2, h6, h7, h8, hW, hM, hB⟩ J K HJ HK
  obtain ⟨f, rfl, hv⟩ := tm_lit 50 hs
  have e1 := hv 1 _ h1
  have e2 := hv 2 _ h2
  have e6 := hv 6 _ h6
  have e7 := hv 7 _ h7
  have e8 := hv 8 _ h8
  clear hs h1 h2 h6 h7 h8 hv
  rw [show (List.range 50).map f = [f 0, f 1, f 2, f 3, f 4, f 5, f 6, f 7, f 8, f 9, f 10, f 11, f 12, f 13, f 14, f 15, f 16, f 17, f 18, f 19, f 20, f 21, f 22, f 23, f 24, f 25, f 26, f 27, f 28, f 29, f 30, f 31, f 32, f 33, f 34, f 35, f 36, f 37, f 38, f 39, f 40, f 41, f 42, f 43, f 44, f 45, f 46, f 47, f 48, f 49] from rfl, e1, e2, e6, e7, e8]
  clear e1 e2 e6 e7 e8
  have HWS := Lib.hid hW
  have HM := Lib.hid hM
  have HMk := Lib.hid hB
  have HJ2 := Lib.hid HJ
  have HK2 := Lib.hid HK
  have c8 : W.cell? ⟨g8, 0, none⟩ = some (.slice At ((quI a ps).drop k).length ct) := (cell_of_row _ _ 0 _ _ _ hM.r8).trans rfl
  have hql : ((quI a ps).drop k).length = ps.length + 1 - k := by rw [List.length_drop, quI_len]
  clear hW hM hB HJ HK
  cases hq : (quI a ps).drop k with
  | nil =>
    rw [hq] at c8 hql
    have HMq := HM
    have HKe : Hid (k = ps.length + 1) := by show _ = _; simp at hql; omega
    have HR : Hid (∀ W', Soft (w.heap.size + 4) W.drew W' → P (.returned (.tuple #[.map (some (w.heap.size + 1)), .slice Ao (outsI a ps).length co])) W') := fun W' hs' => by
      rw [HP.out]
      have hM9 := HM.out.soft (Soft.trans (Soft.of_below _ (Below.drew (Below.refl _ _))) hs') (B := w.heap.size + 4) (by omega)
      have hro := hM9.ro
      rw [outsI_len] at hro ⊢
      exact ⟨ps, Ao, co, rfl, by rw [← HKe.out]; exact HWS.out, hM9.mp, hro, hM9.bw⟩
    have HMd : Hid (MarksOk (w.heap.size + 4) Bs W.drew) := HMk.out.below (Below.drew (Below.refl _ _))
    have c6 : W.cell? ⟨w.heap.size + 2, 0, none⟩ = some (.map (some (w.heap.size + 1))) := (cell_of_row _ _ 0 _ _ _ HM.out.r6).trans rfl
    have c7 : W.cell? ⟨w.heap.size + 3, 0, none⟩ = some (.slice Ao (outsI a ps).length co) := (cell_of_row _ _ 0 _ _ _ HM.out.r7).trans rfl
    clear hq hql hk hgk HMq
    go_wp2_with fail
    refine drawnSD mixed _ (fun W' => W' = W.drew) rfl (by kernel_rfl) rfl rfl ?_
    iterate 4
      apply seqS_opD
      · rintro W' rfl
        go_wp2_with fail
        exact ⟨rfl, rfl, fun d hd => by cases hd; simp only [List.getElem?_toArray, List.getElem?_cons_succ, List.getElem?_cons_zero]; rfl, rfl⟩
      simp only [Act.put, List.setIfInBounds_toArray, List.set_cons_succ, List.set_cons_zero]
    apply seqS_endD
    rintro W' rfl
    clear c6 c7 c8
    go_wp2_with fail
    exact leaves_marks Bs W.drew HMd.out (fun W' hs' => ⟨.tuple #[.map (some (w.heap.size + 1)), .slice Ao (outsI a ps).length co], by simp [results, Tryz.results46, go_sem], HR.out W' hs'⟩)
  | cons x qs =>
    have hkl : k < (quI a ps).length := by
      refine Nat.lt_of_not_le fun h => ?_
      rw [List.drop_eq_nil_of_le h] at hq
      cases hq
    have hx : (quI a ps)[k]? = some x := by
      have := List.getElem?_drop (xs := quI a ps) (i := k) (j := 0)
      rw [hq] at this
      simpa using this.symm
    have hqs : qs = (quI a ps).drop (k + 1) := by
      rw [← List.drop_drop, hq]; rfl
    have hps := HWS.out.most
    have hkb : k ≤ 32 := by rw [quI_len] at hkl; omega
    rw [hq] at c8 hql
    have HX := Lib.hid hx
    have HMq : Hid (WkM w n A m c (fmL a.toNat ps) (outsI a ps) (x :: qs) g8 Ao co At ct W) := by have := HM.out; rw [hq] at this; exact this
    obtain ⟨qb, qo, rfl, qc, hct, -, -⟩ := HMq.out.tail
    have hq1 : (1 : Nat) ≤ (x :: qs).length := by simp
    obtain ⟨ql, Hql⟩ : ∃ ql, Hid (ql = (x :: qs).length) := ⟨_, rfl⟩
    rw [← Hql.out] at c8 hq1 hql
    have hq2 : (0 : Int) < (ql : Int) := by omega
    have r20 : W.cell? ⟨w.heap.size, 0, none⟩ = some (.int .i64 n) := (cell_of_row _ _ 0 _ _ _ HMq.out.r2).trans rfl
    have r21 : W.cell? ⟨w.heap.size, 1, none⟩ = some (.slice A m c) := (cell_of_row _ _ 1 _ _ _ HMq.out.r2).trans rfl
    clear hx hqs hkl
    go_wp2_with fail
    refine drawnMD mixed _ (fun W' => W' = W.drew) rfl (by kernel_rfl) rfl rfl ?_
    iterate 4
      apply seqL_opD
      · rintro W' rfl
        go_wp2_with fail
        exact ⟨rfl, rfl, fun d hd => by cases hd; simp only [List.getElem?_toArray, List.getElem?_cons_succ, List.getElem?_cons_zero]; rfl, rfl⟩
      simp only [Act.put, List.setIfInBounds_toArray, List.set_cons_succ, List.set_cons_zero]
    apply seqL_endD
    rintro W' rfl
    clear r20 r21 c8 qc
    go_wp2_with fail
    refine (needs_any n A m c x W.drew).mono ?_
    rintro e w1 ⟨rfl, hw1⟩
    have hzd : W.drew.heap.size = W.heap.size := rfl
    have hb1 : Below W.heap.size W w1 := by rw [hw1]; exact belowA (belowA (Below.drew (Below.refl _ _)) _) _
    have hg1 : w1.heap[W.heap.size]? = some (.cells #[.int .i64 n, .slice A m c] 31 (0, 0)) := by rw [hw1]; exact heapOld (heapNew rfl)
    have hg2 : w1.heap[W.heap.size + 1]? = some (.cells #[.int .i64 x] 3 (0, 0)) := by rw [hw1]; exact heapNew (by simp)
    have hz1 : W.heap.size + 2 ≤ w1.heap.size := by rw [hw1]; simp
    clear hw1 hzd
    obtain ⟨S, HS⟩ : ∃ S, Hid (∀ b, b ∈ S ↔ b = w.heap.size + 1 ∨ b = w.heap.size + 3 ∨ b = g8 ∨ b ∈ blkOf Ao ∨ b ∈ blkQ (some ⟨qb, qo, none⟩)) := ⟨(w.heap.size + 1) :: (w.heap.size + 3) :: g8 :: (blkOf Ao ++ blkQ (some ⟨qb, qo, none⟩)), fun b => by simp⟩
    have hSb : ∀ b ∈ S, w.heap.size ≤ b ∧ b < W.heap.size := fun b hb => by
      have h3 := (Array.getElem?_eq_some_iff.1 HMq.out.r7).1
      have h8 := (Array.getElem?_eq_some_iff.1 HMq.out.r8).1
      have h9 := HMq.out.lo
      rcases (HS.out b).1 hb with rfl | rfl | rfl | hb | hb
      · omega
      · omega
      · omega
      · have := own_mem HMq.out.ro hb; omega
      · have := HMq.out.rq.blk hb; omega
    have hbw1 : Below w.heap.size w w1 := HMq.out.bw.trans (hb1.mono HMq.out.bw.size)
    have hM1 : WkM w n A m c (fmL a.toNat ps) (outsI a ps) ((quI a ps).drop k) g8 Ao co (some ⟨qb, qo, none⟩) ct w1 := HM.out.below hb1
    have hMk1 : MarksOk (w.heap.size + 4) Bs w1 := HMk.out.below hb1
    have hBl : ∀ b ∈ Bs, b < W.heap.size := fun b hb => HMk.out.lt hb
    obtain ⟨ys, hys, hStep, hEnd⟩ := HWS.out.needs HX.out
    have HQ := Lib.hid (needs_seq HL.out hbw1 hg1 hg2 S (fun h => by have := hSb _ h; omega) (fun h => by have := hSb _ h; omega) (fun b hb => (hSb b hb).1))
    rw [hys] at HQ
    have HM1 := Lib.hid hM1
    have HMk1 := Lib.hid hMk1
    have HStep := Lib.hid hStep
    have HEnd := Lib.hid hEnd
    have HSb := Lib.hid hSb
    have HBl := Lib.hid hBl
    have h1w := hM1.bw.size
    have h8w := HMq.out.lo
    have h8w2 := (Array.getElem?_eq_some_iff.1 HMq.out.r8).1
    have hlw := hM1.mp.lt
    clear hb1 hg1 hg2 hSb hbw1 hM1 hMk1 hStep hEnd hBl hys HMq hq
    go_wp2_with fail
    refine (wpIn_wide (n := 8)).1 (range_law2 (hg := rfl) (eg := enters_of Tryz.func48 (by kernel_rfl) rfl) (hseq := HQ.out) (hb0 := Below.refl _ _) ?hS (hps := fun _ => rfl)
      (I := fun N pre V => ∃ ps' Ao' co' At' ct' prN, pre = prN.map (fun y : Nat => (y : Int)) ∧ WS n l a ps' k prN ∧ (quI a ps')[k]? = some x ∧ WkM w n A m c (fmL a.toNat ps') (outsI a ps') ((quI a ps').drop k) g8 Ao' co' At' ct' V ∧ (∀ b ∈ blkOf Ao', b ∈ S ∨ N ≤ b) ∧ (∀ b ∈ blkQ At', b ∈ S ∨ N ≤ b) ∧ MarksOk (w.heap.size + 4) Bs V)
      (Ix := fun _ _ _ _ => False)
      ?hI ?hIx ?h0 ?round ?done ?stop)
    case hS => intro b hb; have := HSb.out b hb; omega
    case hI =>
      rintro N pre V V' ⟨ps', Ao', co', At', ct', prN, q1, q2, q3, q4, q5, q6, q7⟩ hs'
      exact ⟨ps', Ao', co', At', ct', prN, q1, q2, q3, q4.soft hs' (by omega), q5, q6, q7.soft hs' (fun b hb => by have := HBl.out b hb; omega)⟩
    case hIx => exact fun _ _ _ _ _ h _ => h
    case h0 =>
      intro N V hs' _ _
      exact ⟨ps, Ao, co, _, ct, [], rfl, HWS.out, HX.out, HM1.out.soft hs' (by omega), (fun b hb => .inl ((HS.out b).2 (by simp [hb]))), (fun b hb => .inl ((HS.out b).2 (by simp [hb]))), HMk1.out.soft hs' (fun b hb => by have := HBl.out b hb; omega)⟩
    case round =>
      rintro kk N pre y W0 W1 K2 ⟨ps', Ao', co', At', ct', prN, rfl, q2, q3, q4, q5, q6, q7⟩ hs' hN hN2 hW01 hxR hK
      obtain ⟨yn, post, rfl, hyp⟩ := pre_at hxR
      have HK3 := Lib.hid hK
      have HM0 := Lib.hid q4
      have HMw1 := Lib.hid (q4.soft hs' (by omega))
      have HB1 := Lib.hid (q7.soft hs' (fun b hb => by have := HBl.out b hb; omega))
      obtain ⟨hst1, hst2⟩ := HStep.out ps' prN yn post hyp q2 q3
      have HS1 := Lib.hid hst1
      have HS2 := Lib.hid hst2
      have HQ3 := Lib.hid q3
      have HQ5 := Lib.hid q5
      have HQ6 := Lib.hid q6
      have hm32 := q2.most
      clear hK q2 q3 q4 q5 q6 q7 hs' hxR hst1 hst2 hyp HQ HM1 HMk1 HStep HEnd
      rw [encI_one]
      gi_wp2
      refine HK3.out _ _ (Below.refl _ _) (fun W2 hs2 hz2 => ?_)
      have HM2 := Lib.hid (HMw1.out.soft hs2 (by omega))
      have HB2 := Lib.hid (HB1.out.soft hs2 (fun b hb => by have := HBl.out b hb; omega))
      have hNW : N ≤ W2.heap.size := by omega
      have HZ2 := Lib.hid hz2
      have c6 : W2.cell? ⟨w.heap.size + 2, 0, none⟩ = some (.map (some (w.heap.size + 1))) := (cell_of_row _ _ 0 _ _ _ HM2.out.r6).trans rfl
      have hlk := HM2.out.mp.lookup_ok (P := Tryz.prog) Tryz.underlying124 Tryz.underlying3 (z := .int .i64 0) (zero_int W2) ((yn : Nat) : Int)
      obtain ⟨v0, Hv0⟩ : ∃ v0, Hid (v0 = (knGet (fmL a.toNat ps') ((yn : Nat) : Int)).getD (.int .i64 0)) := ⟨_, rfl⟩
      rw [← Hv0.out] at hlk
      clear hz2 hs2 HK3 HMw1 HB1
      by_cases hy : yn ∈ outs a.toNat ps'
      · rw [fmL_some hy] at hlk
        have HW5 := Lib.hid (HS1.out hy)
        clear HS1 HS2 hy
        gi_wp2_with fail
        exact ⟨Turn2.of_below (Below.refl _ _) hNW, ps', Ao', co', At', ct', prN ++ [yn], by simp, HW5.out, HQ3.out, HM2.out, HQ5.out, HQ6.out, HB2.out⟩
      · rw [fmL_none hy] at hlk
        obtain ⟨q, hxq, hW5⟩ := HS2.out hy
        have HW5 := Lib.hid hW5
        have hd3 : (quI a ps').drop k = x :: (quI a ps').drop (k + 1) := by
          obtain ⟨hlt, he⟩ := List.getElem?_eq_some_iff.1 HQ3.out
          rw [List.drop_eq_getElem_cons hlt, he]
        have HMd : Hid (WkM w n A m c (fmL a.toNat ps') (outsI a ps') (x :: (quI a ps').drop (k + 1)) g8 Ao' co' At' ct' W2) := by have := HM2.out; rw [hd3] at this; exact this
        obtain ⟨w3, hup, hm3, hg3, hz3⟩ := MapN.update (P := Tryz.prog) (HM2.out.mp.drew) Tryz.underlying124 Tryz.underlying3 ((yn : Nat) : Int) (.int .i64 x)
        have hkv : knSet (fmL a.toNat ps') ((yn : Nat) : Int) (.int .i64 x) = fmL a.toNat (ps' ++ [q ++ [yn]]) := by
          rw [fmL_set _ hy, fmL_snoc, hxq]
        rw [hkv] at hm3
        have HM3 := Lib.hid ((HM2.out.below (Below.drew (Below.refl _ _))).put hg3 hm3 hz3)
        obtain ⟨b3, o3, rfl, hc3, hct3, -, -⟩ := HMd.out.tail
        obtain ⟨ql, Hql⟩ : ∃ ql, Hid (ql = ((quI a ps').drop k).length) := ⟨_, rfl⟩
        have hql0 : (0 : Int) < (ql : Int) := by rw [Hql.out, hd3]; simp
        have c8 : W2.cell? ⟨g8, 0, none⟩ = some (.slice (some ⟨b3, o3, none⟩) ql ct') := by rw [Hql.out]; exact (cell_of_row _ _ 0 _ _ _ HM2.out.r8).trans rfl
        have HOut3 : Hid (Out [w.heap.size + 1] W2 w3) := (Out.of_below (Below.drew (Below.refl _ _)) _).trans (grown_out hg3) (fun b hb _ => by simpa using hb)
        clear hd3 hm3 hg3 hkv hxq hW5 HS1 HS2 HMd hct3 hz3
        gi_wp2_with fail
        obtain ⟨ol, Hol⟩ : ∃ ol, Hid (ol = (outsI a ps').length) := ⟨_, rfl⟩
        have hol : ol ≤ 32 := by rw [Hol.out, outsI_len]; exact hm32
        have hql33 : ql ≤ 33 := by rw [Hql.out, List.length_drop, quI_len]; omega
        have hM3 := HM3.out
        have HZ3 : W2.heap.size ≤ w3.heap.size := HOut3.out.size
        obtain ⟨A6, k6, X6, hr6, x6, f6, hz6, hM6, hO6, hn6⟩ := hM3.pushO ((yn : Nat) : Int) (by rw [← Hol.out]; omega)
        obtain ⟨A7, k7, X7, hr7, x7, f7, hz7, hM7, hO7, hn7⟩ := hM6.pushQ ((yn : Nat) : Int) (by rw [← Hql.out]; omega)
        have c7 : w3.cell? ⟨w.heap.size + 3, 0, none⟩ = some (.slice Ao' ol co') := by rw [Hol.out]; exact (cell_of_row _ _ 0 _ _ _ hM3.r7).trans rfl
        have d8 : (X6.setCell ⟨w.heap.size + 3, 0, none⟩ (.slice A6 (ol + 1) k6)).cell? ⟨g8, 0, none⟩ = some (.slice (some ⟨b3, o3, none⟩) ql ct') := by
          rw [Hol.out, Hql.out]; exact (cell_of_row _ _ 0 _ _ _ hM6.r8).trans rfl
        have HT7 : Hid (Turn2 S N W0.heap.size W2 (X7.setCell ⟨g8, 0, none⟩ (.slice A7 (ql + 1) k7))) := by
          rw [← Hql.out] at hO7
          have hT : Out ((w.heap.size + 1) :: (w.heap.size + 3) :: g8 :: (blkOf Ao' ++ blkQ (some ⟨b3, o3, none⟩))) W2 (X7.setCell ⟨g8, 0, none⟩ (.slice A7 (ql + 1) k7)) :=
            ((HOut3.out.mono (T := (w.heap.size + 1) :: (w.heap.size + 3) :: g8 :: (blkOf Ao' ++ blkQ (some ⟨b3, o3, none⟩))) (fun b hb _ => by simp at hb; simp [hb])).trans (hO6.mono (T := (w.heap.size + 1) :: (w.heap.size + 3) :: g8 :: (blkOf Ao' ++ blkQ (some ⟨b3, o3, none⟩))) (fun b hb _ => by
              rcases List.mem_cons.1 hb with hb | hb
              · simp [hb]
              · simp [hb])) (fun b hb _ => hb)).trans (hO7.mono (T := (w.heap.size + 1) :: (w.heap.size + 3) :: g8 :: (blkOf Ao' ++ blkQ (some ⟨b3, o3, none⟩))) (fun b hb _ => by
              rcases List.mem_cons.1 hb with hb | hb
              · simp [hb]
              · simp [hb])) (fun b hb _ => hb)
          refine Turn2.of_out hT hNW (fun b hb hlt => ?_)
          have hm0 := HM0.out.mp.lt
          have h70 := (Array.getElem?_eq_some_iff.1 HM0.out.r7).1
          have h80 := (Array.getElem?_eq_some_iff.1 HM0.out.r8).1
          rcases List.mem_cons.1 hb with rfl | hb
          · exact ⟨.inl ((HS.out _).2 (by simp)), hm0⟩
          rcases List.mem_cons.1 hb with rfl | hb
          · exact ⟨.inl ((HS.out _).2 (by simp)), h70⟩
          rcases List.mem_cons.1 hb with rfl | hb
          · exact ⟨.inl ((HS.out _).2 (by simp)), h80⟩
          rcases List.mem_append.1 hb with hb | hb
          · exact ⟨HQ5.out b hb, (own_mem HM0.out.ro hb).2.1⟩
          · exact ⟨HQ6.out b hb, (HM0.out.rq.blk hb).2⟩
        have HB7 : Hid (MarksOk (w.heap.size + 4) Bs (X7.setCell ⟨g8, 0, none⟩ (.slice A7 (ql + 1) k7))) := by
          rw [← Hql.out] at hO7
          obtain ⟨es, clock, hmb, -⟩ := HM2.out.mp.ex
          have hB3 := HB2.out.out HOut3.out (fun b hb _ => by simp at hb; subst hb; rw [hmb]; intro e; cases e)
          have hB6 := hB3.out hO6 (fun b hb _ => by
            rcases List.mem_cons.1 hb with rfl | hb
            · rw [hM3.r7]; intro e; cases e
            · obtain ⟨-, -, cur, hc⟩ := own_mem hM3.ro hb; rw [hc]; intro e; cases e)
          exact hB6.out hO7 (fun b hb _ => by
            rcases List.mem_cons.1 hb with rfl | hb
            · rw [hM6.r8]; intro e; cases e
            · obtain ⟨cur, hc⟩ := hM6.rq.typ hb; rw [hc]; intro e; cases e)
        have HM7 : Hid (WkM w n A m c (fmL a.toNat (ps' ++ [q ++ [yn]])) (outsI a (ps' ++ [q ++ [yn]])) ((quI a (ps' ++ [q ++ [yn]])).drop k) g8 A6 k6 A7 k7 (X7.setCell ⟨g8, 0, none⟩ (.slice A7 (ql + 1) k7))) := by
          rw [← Hql.out] at hM7
          have e1 : (quI a (ps' ++ [q ++ [yn]])).drop k = (quI a ps').drop k ++ [((yn : Nat) : Int)] := by
            rw [quI_snoc, List.drop_append_of_le_length]
            have := (List.getElem?_eq_some_iff.1 HQ3.out).1
            omega
          show WkM _ _ _ _ _ _ _ _ _ _ _ _ _ _
          rw [e1, outsI_snoc]
          exact hM7
        have HQ7 : Hid ((quI a (ps' ++ [q ++ [yn]]))[k]? = some x) := by
          show _ = _
          rw [quI_snoc, List.getElem?_append_left (List.getElem?_eq_some_iff.1 HQ3.out).1]
          exact HQ3.out
        have HN6 : Hid (∀ b ∈ blkOf A6, b ∈ S ∨ N ≤ b) := fun b hb => by
          rcases hn6 b hb with h5 | h5
          · exact HQ5.out b h5
          · right; omega
        have HN7 : Hid (∀ b ∈ blkQ A7, b ∈ S ∨ N ≤ b) := fun b hb => by
          rcases hn7 b hb with h5 | h5
          · exact HQ6.out b h5
          · right
            have := hO6.size
            omega
        rw [← Hol.out] at hr6 x6
        rw [← Hql.out] at hr7 x7
        have HR6 := Lib.hid hr6
        have HR7 := Lib.hid hr7
        have hws : (X6.setCell ⟨w.heap.size + 3, 0, none⟩ (.slice A6 (ol + 1) k6)).heap.size = X6.heap.size := by simp
        rw [← Hol.out, hws] at HR7
        clear hws hM3 hM6 hM7 hO6 hO7 hn6 hn7 hr6 hr7 HM2 HM3 HQ3 HQ5 HQ6 HB2 HOut3 HM0 Hv0 HSb
        refine region_once (fun a0 a' w' => a' = (((((a0.put (some 34) (.map (some (w.heap.size + 1)))).put (some 35) (.int .i64 ((yn : Nat) : Int))).put (some 36) (.slice (some ⟨b3, o3, none⟩) ql ct')).put (some 37) (.pointer (some ⟨b3, o3, none⟩))).put (some 38) (.int .i64 x)) ∧ w' = w3) ?_ ?_
        · gi_region
          all_goals exact ⟨rfl, rfl, rfl⟩
        · rintro a' w' ⟨rfl, rfl⟩
          simp only [Act.put, List.setIfInBounds_toArray, List.set_cons_succ, List.set_cons_zero]
          clear hup c6 c8 hc3 hlk
          gi_wp2_with (first
            | (gi_at_builtin; refine wpListIn_app (o := ⟨some 42, _, _, _, _, _⟩) rfl _ _ _ rfl _ _ rfl rfl (HR6.out _) ?_)
            | (gi_at_builtin; refine wpListIn_app (o := ⟨some 46, _, _, _, _, _⟩) rfl _ _ _ rfl _ _ rfl rfl (HR7.out _) ?_))
          exact ⟨HT7.out, ps' ++ [q ++ [yn]], A6, k6, A7, k7, prN ++ [yn], by simp, HW5.out, HQ7.out, HM7.out, HN6.out, HN7.out, HB7.out⟩
    case done =>
      rintro N xs V hxs ⟨ps', Ao', co', At', ct', prN, q1, q2, q3, q4, q5, q6, q7⟩ hD
      have HDl := (Array.getElem?_eq_some_iff.1 hD).1
      have hprN : prN = ys := by
        have h5 : xs = ys.map (fun y : Nat => (y : Int)) := hxs.out
        rw [h5] at q1
        exact (cast_inj q1).symm
      have HW3 := Lib.hid (HEnd.out ps' (by rw [← hprN]; exact q2) q3)
      have HX3 := Lib.hid q3
      have HM3 := Lib.hid q4
      have hb0 : w1.heap.size ∉ Bs := fun h => by have := HBl.out _ h; omega
      have HMk3 := Lib.hid (q7.add (b := w1.heap.size) hb0 (by omega) hD)
      clear hxs q1 q2 q3 q4 q5 q6 q7 hD HQ HM1 HMk1 HStep HEnd hprN
      have hd3 : (quI a ps').drop k = x :: (quI a ps').drop (k + 1) := by
        obtain ⟨hlt, he⟩ := List.getElem?_eq_some_iff.1 HX3.out
        rw [List.drop_eq_getElem_cons hlt, he]
      have hk3 : k + 1 ≤ ps'.length + 1 := by
        have := (List.getElem?_eq_some_iff.1 HX3.out).1
        rw [quI_len] at this
        exact this
      have HM4 : Hid (WkM w n A m c (fmL a.toNat ps') (outsI a ps') (x :: (quI a ps').drop (k + 1)) g8 Ao' co' At' ct' V) := by have := HM3.out; rw [hd3] at this; exact this
      have HM5 := Lib.hid HM4.out.box
      obtain ⟨b3, o3, rfl, -, hct3, ht1, ht2⟩ := HM5.out.tail
      obtain ⟨q1, Hq1⟩ : ∃ q1, Hid (q1 = ((quI a ps').drop (k + 1)).length) := ⟨_, rfl⟩
      have hl3 : (x :: (quI a ps').drop (k + 1)).length = q1 + 1 := by rw [Hq1.out]; rfl
      have HR8 := HM4.out.r8
      have HR9 := HM5.out.r8
      rw [hl3] at HR8 HR9
      rw [← Hq1.out] at ht1 ht2
      rw [← Hq1.out] at hct3
      have c8 : V.cell? ⟨g8, 0, none⟩ = some (.slice (some ⟨b3, o3, none⟩) (q1 + 1) ct') := (cell_of_row _ _ 0 _ _ _ HR8).trans rfl
      have c9 : (V.alloc (.cells #[.slice (some ⟨b3, o3, none⟩) (q1 + 1) ct'] 58)).cell? ⟨V.heap.size, 0, none⟩ = some (.slice (some ⟨b3, o3, none⟩) (q1 + 1) ct') := (cell_of_row _ _ 0 _ _ _ (heapNew rfl)).trans rfl
      have f9 : (V.alloc (.cells #[.slice (some ⟨b3, o3, none⟩) (q1 + 1) ct'] 58)).frozen? ⟨V.heap.size, 0, none⟩ = false := frozen_of_row _ _ _ _ _ (heapNew rfl)
      have HMk5 : Hid (MarksOk (w.heap.size + 4) (w1.heap.size :: Bs) (V.alloc (.cells #[.slice (some ⟨b3, o3, none⟩) (q1 + 1) ct'] 58))) := HMk3.out.below (belowA (Below.refl _ _) _)
      rw [hl3] at HM5 ht1 ht2
      obtain ⟨i_, hi_, hi2_, hi3_, -⟩ := info_parts int_info1
      obtain ⟨A3, HA3⟩ : ∃ A3 : Option Addr, Hid (A3 = if ct' = 1 then some (⟨b3, o3, none⟩ : Addr) else some ⟨b3, o3 + 1, none⟩) := ⟨_, rfl⟩
      have hsl : ∀ W', (Instr.sliceAt 58 (.slice (some ⟨b3, o3, none⟩) (q1 + 1) ct') (some (.int .i64 1)) none none).run Tryz.prog W' = .ok (.slice A3 q1 (ct' - 1)) W' := by
        intro W'
        rw [HA3.out]
        by_cases h5 : ct' = 1
        · subst h5
          have : q1 = 0 := by omega
          subst this
          simp [Instr.sliceAt, Instr.slice, Instr.sliceBounds, Instr.sliceBound, asIntOf, run_underlying Tryz.underlying58, sizeOf, typeInfo, hi_, Addr.add]
        · simp [Instr.sliceAt, Instr.slice, Instr.sliceBounds, Instr.sliceBound, asIntOf, run_underlying Tryz.underlying58, sizeOf, typeInfo, hi_, hi3_, Addr.add, h5]
          intro h; omega
      have HSet : Hid (WkM w n A m c (fmL a.toNat ps') (outsI a ps') ((quI a ps').drop (k + 1)) V.heap.size Ao' co' A3 (ct' - 1) ((V.alloc (.cells #[.slice (some ⟨b3, o3, none⟩) (q1 + 1) ct'] 58)).setCell ⟨V.heap.size, 0, none⟩ (.slice A3 q1 (ct' - 1)))) := by
        show WkM _ _ _ _ _ _ _ _ _ _ _ _ _ _
        rw [HA3.out]
        by_cases h5 : ct' = 1
        · rw [if_pos h5]; exact ht2 h5
        · rw [if_neg h5]; exact ht1 (by omega)
      have hV0 : w1.heap.size < V.heap.size := HDl
      have HMk6 : Hid (MarksOk (w.heap.size + 4) (w1.heap.size :: Bs) ((V.alloc (.cells #[.slice (some ⟨b3, o3, none⟩) (q1 + 1) ct'] 58)).setCell ⟨V.heap.size, 0, none⟩ (.slice A3 q1 (ct' - 1)))) :=
        HMk5.out.same (fun b hb => World.heap_setCells_other' (fun e => by
          rcases List.mem_cons.1 hb with h | h
          · omega
          · have := HBl.out b h; omega))
      have hse : (V.alloc (.cells #[.slice (some ⟨b3, o3, none⟩) (q1 + 1) ct'] 58)).setCell ⟨V.heap.size, 0, none⟩ (.slice A3 q1 (ct' - 1)) = V.alloc (.cells #[.slice A3 q1 (ct' - 1)] 58) := by simp [go_sem]
      rw [hse] at HSet HMk6
      clear ht1 ht2 hse HR8 HR9 HM5 HMk5 hl3 hd3 HMk3 HM3 HM4 hi_ hi2_ hi3_ Hq1
      go_wp2_with fail
      exact HK2.out _ _ ⟨gk - 1, by omega, HJ2.out _ _ _ ⟨ps', k + 1, V.heap.size, Ao', co', A3, ct' - 1, w1.heap.size :: Bs, by omega, hk3, rfl, rfl, rfl, rfl, rfl, rfl, rfl, HW3.out, HSet.out, HMk6.out⟩⟩
    case stop => exact fun _ _ _ _ _ h _ => h.elim
end Go.Proofs.YtgphngjniplonaaGreatDoor

namespace Go.Proofs.YtgphngjniplonaaGreatDoor
open Go.RowKit Go.Shelf
open Classical in
noncomputable def reachO (n : Int) (l : List GEdge) (a : Int) : List Nat := if okA n l a then (List.range n.toNat).filter (fun b => decide (0 < farN n.toNat (hasN l) a.toNat b)) else []
theorem hasN_lt {N : Nat} {l : List GEdge} (hr : rightG (N : Int) l = true) : ∀ x y, hasN l x y = true → y < N := fun x y h => by
  unfold hasN hasL at h
  rw [List.any_eq_true] at h
  obtain ⟨e, he, h1⟩ := h
  simp only [Bool.and_eq_true, decide_eq_true_eq] at h1
  have := right_in hr e he
  simp only [withinE, Bool.and_eq_true, decide_eq_true_eq] at this
  omega
theorem WS.reached {n : Int} {l : List GEdge} {a : Int} {ps : List (List Nat)} (h : WS n l a ps (ps.length + 1) []) {q : List Nat} (hp : q.Perm (outs a.toNat ps)) (hq : q.Pairwise (· ≤ ·)) : q = reachO n l a := by
  unfold reachO
  rcases h with ⟨hk, h⟩ | ⟨hk, rfl, -, -⟩
  · rw [if_pos hk]
    obtain ⟨N, A, rfl, rfl, hAN, hN, hr⟩ := okA_nat hk
    simp only [Int.toNat_natCast] at *
    have hnd : q.Nodup := hp.nodup_iff.2 h.b.nod
    have hlt : q.Pairwise (· < ·) := (hq.and hnd).imp (fun hh => Nat.lt_of_le_of_ne hh.1 hh.2)
    exact h.b.reached (hasN_lt hr) hAN (by simp [outs]) hlt (fun x => hp.mem_iff)
  · rw [if_neg hk]
    exact List.Perm.eq_nil hp
def ReachedP (n : Int) (l : List GEdge) (a : Int) (w : World) (e : Ending) (w' : World) : Prop :=
  ∃ A' c', e = .returned (.slice A' (reachO n l a).length c') ∧ w'.ownsRow w.heap.size 3 1 (.slice A' (reachO n l a).length c') (reachO n l a).length ((reachO n l a).map natC) ∧ Below w.heap.size w w'
theorem outsI_nat (a : Int) (ps : List (List Nat)) : (outsI a ps).map intV = (outs a.toNat ps).map natC := by
  unfold outsI
  rw [List.map_map]
  rfl
theorem reached_any (n a : Int) (A : Option Addr) (m c : Nat) (l : List GEdge) (w : World) (hl : SliceIs Enc.edge w w.heap.size A m c l) : Calls Tryz.prog 25 #[graphV n A m c, .int .i64 a] w (ReachedP n l a w) := by
  have hb0 : Below w.heap.size w (w.alloc (.cells #[.int .i64 n, .slice A m c] 31)) := belowA (Below.refl _ _) _
  have HW := Lib.hid (walk_any n a A m c l _ (hl.keep hb0))
  have HB0 := Lib.hid hb0
  obtain ⟨P, HP⟩ : ∃ P : Ending → World → Prop, Hid (P = ReachedP n l a w) := ⟨_, rfl⟩
  rw [← HP.out]
  clear hl hb0
  go_enter Tryz.func25, Tryz.ntmps25
  go_wp2_with fail
  have hz0 : (w.alloc (.cells #[.int .i64 n, .slice A m c] 31)).heap.size = w.heap.size + 1 := by simp
  have Hz0 := Lib.hid hz0
  clear hz0
  generalize w.alloc (.cells #[.int .i64 n, .slice A m c] 31) = w1 at *
  refine HW.out.mono ?_
  rintro e w2 ⟨ps, Ao, co, rfl, hws, -, ho, hb2⟩
  rw [outsI_nat] at ho
  have hB2 : Below w.heap.size w w2 := HB0.out.trans (hb2.mono HB0.out.size)
  have hm := hws.most
  have ho2 : w2.ownsRow w.heap.size 3 1 (.slice Ao ps.length co) ps.length ((outs a.toNat ps).map natC) := by
    refine ⟨ho.1, ?_⟩
    rcases ho.2 with h0 | ⟨g, cap, cur, hv, h1, h2⟩
    · exact .inl h0
    · exact .inr ⟨g, cap, cur, hv, by have := HB0.out.size; omega, h2⟩
  have HB2 := Lib.hid hB2
  have HWS := Lib.hid hws
  have HO2 := Lib.hid ho2
  clear ho hb2 hB2 HW ho2 hws
  cases Ao with
  | none =>
    have h0 : ps = [] ∧ co = 0 := by
      rcases HO2.out.2 with ⟨h0, h1⟩ | ⟨g, cap, cur, hv, -⟩
      · injection h0 with _ h2 h3
        exact ⟨List.eq_nil_of_length_eq_zero h1, h3⟩
      · injection hv with h0 _ _; cases h0
    obtain ⟨rfl, rfl⟩ := h0
    have hq : ([] : List Nat) = reachO n l a := HWS.out.reached (List.Perm.refl _) List.Pairwise.nil
    have HFin : Hid (∀ W, Below w2.heap.size w2 W → P (.returned (.slice none 0 0)) W) := fun W hW => by
      rw [HP.out]
      refine ⟨none, 0, by rw [← hq]; rfl, ?_, HB2.out.trans (hW.mono HB2.out.size)⟩
      rw [← hq]
      exact World.ownsRow_nil _ _ _ _
    have HSn := Lib.hid (Any.slices_Sort_int_none Tryz.lays189 none 0 w2)
    clear hq hm HO2 HWS
    go_wp2_with fail
    refine HSn.out.mono ?_
    rintro e w3 ⟨rfl, hw3⟩
    have HE := Lib.hid (HFin.out w3 (by rw [hw3]; exact Below.refl _ _))
    clear hw3 HFin HSn
    go_wp2_with fail
    first | exact HE.out | (go_ret; exact HE.out)
  | some ad =>
    have h0 : ∃ g, ad = ⟨g, 0, none⟩ := by
      rcases HO2.out.2 with ⟨h0, -⟩ | ⟨g, cap, cur, hv, -⟩
      · cases h0
      · injection hv with h0 _ _; injection h0 with h0; exact ⟨g, h0⟩
    obtain ⟨g, rfl⟩ := h0
    have HSo := Lib.hid (sortN_any w.heap.size g ps.length co (outs a.toNat ps) w2 HO2.out (by omega))
    have HFin : Hid (∀ (W : World) (q : List Nat), q.Perm (outs a.toNat ps) → q.Pairwise (· ≤ ·) → W.ownsRow w.heap.size 3 1 (.slice (some ⟨g, 0, none⟩) ps.length co) ps.length (q.map natC) → Out [g] w2 W → P (.returned (.slice (some ⟨g, 0, none⟩) ps.length co)) W) := fun W q h1 h2 h3 h4 => by
      have hq := HWS.out.reached h1 h2
      have hle : ps.length = (reachO n l a).length := by rw [← hq, h1.length_eq]; simp [outs]
      rw [HP.out]
      refine ⟨some ⟨g, 0, none⟩, co, by rw [hle], by rw [← hle, ← hq]; exact h3, HB2.out.trans (h4.below (fun b hb => ?_) HB2.out.size)⟩
      simp at hb
      subst hb
      exact (own_blk HO2.out rfl).1
    clear hm HWS
    go_wp2_with fail
    refine HSo.out.mono ?_
    rintro e w3 ⟨rfl, q, q1, q2, q3, q4⟩
    have HE := Lib.hid (HFin.out w3 q q1 q2 q3 q4)
    clear q1 q2 q3 q4 HSo HFin HO2
    go_wp2_with fail
    first | exact HE.out | (go_ret; exact HE.out)
end Go.Proofs.YtgphngjniplonaaGreatDoor
