/- The document's Inside and Round. -/
import Derived.Test.YtdbpbchhkdconaaScDd
namespace Go.Proofs.Ytdbpbchhkdconaa
open Go.RowKit

theorem info_redge : (Try.prog.info? 45).map (fun i => (i.zero, i.size, i.bytes)) = some (some (.agg #[.int .i64 0, .int .i64 0, .bool false]), 3, 24) := by kernel_rfl
theorem fits_sm {x : Int} (h : 0 ≤ x ∧ x < 1000000) : fits x := by
  show (Lit.int .i64 x).wf = true
  simp [Lit.wf, IntKind.min, IntKind.max, IntKind.signed, IntKind.bits]; omega
def insL (N : Nat) (l : List GEdge) : List GEdge := l.filter (fun e => togN N (hasN l) e.a.toNat e.b.toNat)
def InsPost (L : List GEdge) (w : World) (e : Ending) (w' : World) : Prop :=
  ∃ A k c, e = .returned (.slice A k c) ∧ SliceIs Enc.edge w' w'.heap.size A k c L ∧ Below w.heap.size w w'

set_option maxRecDepth 100000 in
set_option maxHeartbeats 8000000 in
theorem refInside_any (N : Nat) (hN : N ≤ 1000) (A : Option Addr) (m c : Nat) (l : List GEdge) (w : World) (h : SliceIs Enc.edge w w.heap.size A m c l) (hw : ∀ e ∈ l, withinE e (N : Int) = true) (hm : m ≤ 10000) :
    Calls Try.prog 20 #[.agg #[.int .i64 (N : Int), .slice A m c]] w (InsPost (insL N l) w) := by
  have mixed : Try.prog.follows .mixedOrders = true := by kernel_rfl
  have cg0 : (w.alloc (.cells #[.int .i64 (N : Int), .slice A m c] 36)).cell? ⟨w.heap.size, 0, none⟩ = some (.int .i64 (N : Int)) := (cell_of_row _ _ 0 _ _ _ (heapNew (w := w) rfl)).trans rfl
  have cg1 : (w.alloc (.cells #[.int .i64 (N : Int), .slice A m c] 36)).cell? ⟨w.heap.size, 1, none⟩ = some (.slice A m c) := (cell_of_row _ _ 1 _ _ _ (heapNew (w := w) rfl)).trans rfl
  have hb0 : Below w.heap.size w (w.alloc (.cells #[.int .i64 (N : Int), .slice A m c] 36)) := belowA (Below.refl _ _) _
  have HTa := Lib.hid (table_any N hN A m c l _ (h.mono hb0.size hb0.block))
  have hg0 : (w.alloc (.cells #[.int .i64 (N : Int), .slice A m c] 36)).heap[w.heap.size]? = some (.cells #[.int .i64 (N : Int), .slice A m c] 36 (0, 0)) := heapNew rfl
  have HB0 := Lib.hid hb0
  have HG0 := Lib.hid hg0
  have HS := Lib.hid h
  have HW := Lib.hid hw
  have Hlen := Lib.hid h.1
  have hmb := h.bound
  obtain ⟨P, HP⟩ : ∃ P : Ending → World → Prop, Hid (P = InsPost (insL N l) w) := ⟨_, rfl⟩
  rw [← HP.out]
  clear h hw hb0 hg0
  go_enter Try.func20, Try.ntmps20
  go_wp2_with fail
  refine HTa.out.mono ?_
  rintro e w1 ⟨At, ct, rfl, hst, hb1⟩
  have hw1 : w.heap.size < w1.heap.size := by have := hb1.size; simp at this; omega
  have HSt := Lib.hid hst
  have HB1 : Hid (Below w.heap.size w w1) := HB0.out.trans (hb1.mono HB0.out.size)
  have HG1 : Hid (w1.heap[w.heap.size]? = some (.cells #[.int .i64 (N : Int), .slice A m c] 36 (0, 0))) := (hb1.block _ (by simp)).trans HG0.out
  clear hst hb1 HB0 HG0 HTa cg0 cg1
  go_wp2_with fail
  go_loopw [4, 5] (fun s i wr => ∃ (q k : Nat) (Ao : Option Addr) (co : Nat), q ≤ m ∧ i = .int .i64 (q : Int) ∧ s = .slice Ao k co ∧ k ≤ q ∧ Hid (RowOf Enc.edge wr w1.heap.size 45 (blkOf Ao) Ao k co ((l.take q).filter (fun e => togN N (hasN l) e.a.toNat e.b.toNat))) ∧ Hid (Below w1.heap.size w1 wr)) (fun _ i _ => m - (intOf i).toNat)
  case atStart => exact ⟨0, 0, none, 0, by omega, rfl, rfl, by omega, RowOf.nil _, Below.refl _ _⟩
  case round =>
    obtain ⟨q, k, Ao, co, hq, rfl, rfl, hkq, HR, HB⟩ := hrel
    have q0 : (0 : Int) ≤ (q : Int) := by omega
    have hsz := HB.out.size
    have hgr := (HB.out.block _ hw1).trans HG1.out
    have c1 : wr.cell? ⟨w.heap.size, 1, none⟩ = some (.slice A m c) := (cell_of_row _ _ 1 _ _ _ hgr).trans rfl
    by_cases hlq : q < m
    · have q1 : (q : Int) < (m : Int) := by omega
      obtain ⟨b, o, ua, ub, ne, rfl, hbl, hx, hua, hub, x0, x1, x2⟩ := (HS.out.below (HB1.out.trans (HB.out.mono HB1.out.size))).nedge_at HW.out hlq
      obtain ⟨bt, ot, br, ob, cr, rfl, t1, t2⟩ := tab_at (HSt.out.below HB.out) hua
      have s0 := t2 ub hub
      have u0 : (0 : Int) ≤ (ua : Int) := by omega
      have u1 : (ua : Int) < (N : Int) := by omega
      have v0 : (0 : Int) ≤ (ub : Int) := by omega
      have v1 : (ub : Int) < (N : Int) := by omega
      have Htake : Hid (l.take (q + 1) = l.take q ++ [⟨(ua : Int), (ub : Int), ne⟩]) := by
        show _ = _
        rw [List.take_add_one, hx.out]; rfl
      have hdr : Below wr.heap.size wr wr.drew := Below.drew (Below.refl _ _)
      have HBd : Hid (Below w1.heap.size w1 wr.drew) := HB.out.trans (hdr.mono hsz)
      cases htv : togN N (hasN l) ua ub with
      | false =>
        rw [htv] at s0
        have HR2 : Hid (RowOf Enc.edge wr.drew w1.heap.size 45 (blkOf Ao) Ao k co ((l.take (q + 1)).filter (fun e => togN N (hasN l) e.a.toNat e.b.toNat))) := by
          show RowOf _ _ _ _ _ _ _ _ _
          have h1 := HR.out.below hdr
          rw [Htake.out, List.filter_append]
          simpa [htv] using h1
        clear t2 hgr hx HR HB Htake htv hdr
        go_wp2_with fail
        refine drawnS mixed _ (fun W => W = wr.drew) rfl (by kernel_rfl) rfl rfl ?_
        iterate 17
          apply seqS_op
          · rintro W rfl
            go_wp2_with fail
            exact ⟨rfl, rfl, fun d hd => by cases hd; simp only [List.getElem?_toArray, List.getElem?_cons_succ, List.getElem?_cons_zero]; rfl, rfl⟩
          simp only [Act.put, List.setIfInBounds_toArray, List.set_cons_succ, List.set_cons_zero]
        apply seqS_end
        rintro W rfl
        go_wp2_with fail
        go_roundw
        case rel => exact ⟨q + 1, k, Ao, co, by omega, by go_num, rfl, by omega, HR2, HBd⟩
        case measure => simp [intOf]; omega
      | true =>
        rw [htv] at s0
        have h1 := HR.out.below hdr
        have ha := h1.below (belowA (Below.refl wr.drew.heap.size wr.drew) (.cells #[.int .i64 (ua : Int), .int .i64 (ub : Int), .bool ne] 45))
        have hok : Enc.edge.ok (sans (wr.drew.alloc (.cells #[.int .i64 (ua : Int), .int .i64 (ub : Int), .bool ne] 45)) (blkOf Ao)) (wr.drew.alloc (.cells #[.int .i64 (ua : Int), .int .i64 (ub : Int), .bool ne] 45)).heap.size [.int .i64 (ua : Int), .int .i64 (ub : Int), .bool ne] ⟨(ua : Int), (ub : Int), ne⟩ := ⟨rfl, by
          have f : ∀ x : Nat, x < 1000 → fits (x : Int) := fun x hx => fits_sm (by omega)
          exact ⟨f ua (by omega), f ub (by omega)⟩⟩
        obtain ⟨A2, c2, w2, u2, r2, o2, q2⟩ := ha.push (P := Try.prog) (t := 34) (ty := 34) Try.underlying34 info_redge rfl rfl (by decide) _ wr.drew.heap.size [.int .i64 (ua : Int), .int .i64 (ub : Int), .bool ne] (heapNew rfl) hok (by intro u hu; simp at hu; rcases hu with rfl | rfl | rfl <;> rfl) (by simp [maxLen]; omega) (by omega) (by simp; omega) (fun b hb => hb)
        have U2 := Lib.hid u2
        have HR2 : Hid (RowOf Enc.edge w2 w1.heap.size 45 (blkOf A2) A2 (k + 1) c2 ((l.take (q + 1)).filter (fun e => togN N (hasN l) e.a.toNat e.b.toNat))) := by
          have h3 := r2 (blkOf A2) (fun b hb hlt => by
            rcases q2 b hb with hh | hh
            · exact hh
            · omega)
          show RowOf _ _ _ _ _ _ _ _ _
          rw [Htake.out, List.filter_append]
          simpa [htv] using h3
        have HB2 : Hid (Below w1.heap.size w1 w2) := HBd.out.trans (((Below.refl w1.heap.size wr.drew).alloc (by simpa using hsz) (.cells #[.int .i64 (ua : Int), .int .i64 (ub : Int), .bool ne] 45)).trans (o2.below (fun b hb => (HR.out.blk hb).1) (by simp; omega)))
        clear t2 hgr hx HR HB Htake htv hdr ha hok u2 r2 o2 q2 h1 HBd
        go_wp2_with fail
        refine drawnS mixed _ (fun W => W = wr.drew) rfl (by kernel_rfl) rfl rfl ?_
        iterate 17
          apply seqS_op
          · rintro W rfl
            go_wp2_with fail
            exact ⟨rfl, rfl, fun d hd => by cases hd; simp only [List.getElem?_toArray, List.getElem?_cons_succ, List.getElem?_cons_zero]; rfl, rfl⟩
          simp only [Act.put, List.setIfInBounds_toArray, List.set_cons_succ, List.set_cons_zero]
        apply seqS_end
        rintro W rfl
        go_wp2_with (at_builtin; refine wpList_append_run (o := ⟨some 39, _, _, _, _, _⟩) rfl _ _ _ rfl _ _ rfl rfl U2.out ?_)
        go_roundw
        case rel => exact ⟨q + 1, k + 1, A2, c2, by omega, by go_num, rfl, by omega, HR2, HB2⟩
        case measure => simp [intOf]; omega
    · have q1 : ¬ (q : Int) < (m : Int) := by omega
      have HE : Hid (P (.returned (.slice Ao k co)) wr) := by
        show P _ _
        rw [HP.out]
        have h1 := (HR.out.slice (T := []) (by simp [reachN]; omega) (fun b _ hh => by cases hh) (fun b hh _ => by cases hh)).is
        rw [List.take_of_length_le (by rw [Hlen.out]; omega)] at h1
        exact ⟨Ao, k, co, rfl, h1, HB1.out.trans (HB.out.mono HB1.out.size)⟩
      clear HR hgr
      go_wp2_with fail
      first
        | exact HE.out
        | (go_ret; exact HE.out)

def roundR (N : Nat) (l : List GEdge) (n : Int) : Bool := (insL N l).any (fun e => togR N l e.a n)
set_option maxRecDepth 100000 in
set_option maxHeartbeats 8000000 in
theorem refRound_any (N : Nat) (hN : N ≤ 1000) (A : Option Addr) (m c : Nat) (l : List GEdge) (n : Int) (w : World) (h : SliceIs Enc.edge w w.heap.size A m c l) (hw : ∀ e ∈ l, withinE e (N : Int) = true) (hm : m ≤ 10000) :
    Calls Try.prog 22 #[.agg #[.int .i64 (N : Int), .slice A m c], .int .i64 n] w (RetBool (roundR N l n) w) := by
  have mixed : Try.prog.follows .mixedOrders = true := by kernel_rfl
  have cg0 : (w.alloc (.cells #[.int .i64 (N : Int), .slice A m c] 36)).cell? ⟨w.heap.size, 0, none⟩ = some (.int .i64 (N : Int)) := (cell_of_row _ _ 0 _ _ _ (heapNew (w := w) rfl)).trans rfl
  have cg1 : (w.alloc (.cells #[.int .i64 (N : Int), .slice A m c] 36)).cell? ⟨w.heap.size, 1, none⟩ = some (.slice A m c) := (cell_of_row _ _ 1 _ _ _ (heapNew (w := w) rfl)).trans rfl
  have hb0 : Below w.heap.size w (w.alloc (.cells #[.int .i64 (N : Int), .slice A m c] 36)) := belowA (Below.refl _ _) _
  have HIn := Lib.hid (refInside_any N hN A m c l _ (h.mono hb0.size hb0.block) hw hm)
  have hg0 : (w.alloc (.cells #[.int .i64 (N : Int), .slice A m c] 36)).heap[w.heap.size]? = some (.cells #[.int .i64 (N : Int), .slice A m c] 36 (0, 0)) := heapNew rfl
  have HTg := Lib.hid (fun (x : Int) (W : World) (hW : Below w.heap.size w W) => refTog_any N hN A m c l x n W (h.mono hW.size hW.block))
  have HB0 := Lib.hid hb0
  have HG0 := Lib.hid hg0
  obtain ⟨L, HLe⟩ : ∃ L, Hid (L = insL N l) := ⟨_, rfl⟩
  rw [← HLe.out] at HIn
  obtain ⟨r, Hr⟩ : ∃ r, Hid (roundR N l n = r) := ⟨_, rfl⟩
  rw [Hr.out]
  have HT : Hid (∀ e ∈ L, togR N l e.a n = true → r = true) := fun e he h1 => by
    rw [HLe.out] at he
    rw [← Hr.out]; unfold roundR; rw [List.any_eq_true]; exact ⟨e, he, h1⟩
  have HF : Hid ((∀ e ∈ L, togR N l e.a n = false) → r = false) := fun h1 => by
    rw [← Hr.out]; unfold roundR; rw [List.any_eq_false]; intro e he; rw [← HLe.out] at he; simp [h1 e he]
  clear h hw hb0 hg0 Hr HLe
  go_enter Try.func22, Try.ntmps22
  go_wp2_with fail
  refine HIn.out.mono ?_
  rintro e w1 ⟨Ai, k, ci, rfl, hst, hb1⟩
  have hw1 : w.heap.size < w1.heap.size := by have := hb1.size; simp at this; omega
  have hkb := hst.bound
  have Hlen := Lib.hid hst.1
  have HSt := Lib.hid hst
  have HB1 : Hid (Below w.heap.size w w1) := HB0.out.trans (hb1.mono HB0.out.size)
  have HG1 : Hid (w1.heap[w.heap.size]? = some (.cells #[.int .i64 (N : Int), .slice A m c] 36 (0, 0))) := (hb1.block _ (by simp)).trans HG0.out
  clear hst hb1 HB0 HG0 HIn cg0 cg1
  go_wp2_with fail
  go_loopw [6] (fun i wr => ∃ q : Nat, q ≤ k ∧ i = .int .i64 (q : Int) ∧ Hid (∀ e ∈ L.take q, togR N l e.a n = false) ∧ Hid (Below w1.heap.size w1 wr)) (fun i _ => k - (intOf i).toNat)
  case atStart => exact ⟨0, by omega, rfl, (fun e he => by simp at he), Below.refl _ _⟩
  case round =>
    obtain ⟨q, hq, rfl, HA, HB⟩ := hrel
    have q0 : (0 : Int) ≤ (q : Int) := by omega
    have hsz := HB.out.size
    by_cases hlq : q < k
    · have q1 : (q : Int) < (k : Int) := by omega
      obtain ⟨b, o, x, rfl, -, hx, x0, x1, x2, -⟩ := (HSt.out.below HB.out).edge_at hlq
      have HBw : Hid (Below w.heap.size w wr) := HB1.out.trans (HB.out.mono HB1.out.size)
      have HK : Hid (∀ W, Below wr.heap.size wr W → W.cell? ⟨w.heap.size, 0, none⟩ = some (.int .i64 (N : Int)) ∧ W.cell? ⟨w.heap.size, 1, none⟩ = some (.slice A m c) ∧ W.cell? ⟨b, o + q * 3, none⟩ = some (.int .i64 x.a) ∧ Below w1.heap.size w1 W) := fun W hW => by
        have hr := (hW.block _ (by omega)).trans ((HB.out.block _ hw1).trans HG1.out)
        exact ⟨(cell_of_row _ _ 0 _ _ _ hr).trans rfl, (cell_of_row _ _ 1 _ _ _ hr).trans rfl, below_cell hW x0, HB.out.trans (hW.mono hsz)⟩
      have HC := Lib.hid (fun (W : World) (hW : Below wr.heap.size wr W) => HTg.out x.a W (HBw.out.trans (hW.mono HBw.out.size)))
      have hxm := List.mem_of_getElem? hx.out
      cases ht : togR N l x.a n with
      | true =>
        obtain rfl : r = true := HT.out x hxm ht
        rw [ht] at HC
        have HBx : Hid (∀ W, Below w1.heap.size w1 W → Below w.heap.size w W) := fun W hW => HB1.out.trans (hW.mono HB1.out.size)
        clear hx hxm ht x0 x1 x2 HA
        go_wp2_with fail
        refine drawnS mixed _ (Below wr.heap.size wr) rfl (by kernel_rfl) rfl (Below.drew (Below.refl _ _)) ?_
        iterate 7
          apply seqS_op
          · intro W hW
            have k0 := (HK.out W hW).1
            have k1 := (HK.out W hW).2.1
            have k2 := (HK.out W hW).2.2.1
            go_wp2_with fail
            exact ⟨rfl, rfl, fun d hd => by cases hd; simp only [List.getElem?_toArray, List.getElem?_cons_succ, List.getElem?_cons_zero]; rfl, hW⟩
          simp only [Act.put, List.setIfInBounds_toArray, List.set_cons_succ, List.set_cons_zero]
        apply seqS_op
        · intro W hW
          go_wp2_with fail
          refine (HC.out W hW).mono ?_
          rintro e w1 ⟨rfl, hb1⟩
          go_wp2_with fail
          exact ⟨rfl, rfl, fun d hd => by cases hd; simp only [List.getElem?_toArray, List.getElem?_cons_succ, List.getElem?_cons_zero]; rfl, hW.trans (hb1.mono hW.size)⟩
        simp only [Act.put, List.setIfInBounds_toArray, List.set_cons_succ, List.set_cons_zero]
        apply seqS_end
        intro W hW
        have HE := Lib.hid (HBx.out W (HK.out W hW).2.2.2)
        clear hW
        go_wp2_with fail
        go_ret
        exact ⟨rfl, HE.out⟩
      | false =>
        rw [ht] at HC
        have HA2 : Hid (∀ e ∈ L.take (q + 1), togR N l e.a n = false) := fun e he => by
          rw [List.take_add_one, hx.out] at he
          rcases List.mem_append.1 he with he | he
          · exact HA.out e he
          · simp at he; subst he; exact ht
        clear hx hxm ht x0 x1 x2 HA
        go_wp2_with fail
        refine drawnS mixed _ (Below wr.heap.size wr) rfl (by kernel_rfl) rfl (Below.drew (Below.refl _ _)) ?_
        iterate 7
          apply seqS_op
          · intro W hW
            have k0 := (HK.out W hW).1
            have k1 := (HK.out W hW).2.1
            have k2 := (HK.out W hW).2.2.1
            go_wp2_with fail
            exact ⟨rfl, rfl, fun d hd => by cases hd; simp only [List.getElem?_toArray, List.getElem?_cons_succ, List.getElem?_cons_zero]; rfl, hW⟩
          simp only [Act.put, List.setIfInBounds_toArray, List.set_cons_succ, List.set_cons_zero]
        apply seqS_op
        · intro W hW
          go_wp2_with fail
          refine (HC.out W hW).mono ?_
          rintro e w1 ⟨rfl, hb1⟩
          go_wp2_with fail
          exact ⟨rfl, rfl, fun d hd => by cases hd; simp only [List.getElem?_toArray, List.getElem?_cons_succ, List.getElem?_cons_zero]; rfl, hW.trans (hb1.mono hW.size)⟩
        simp only [Act.put, List.setIfInBounds_toArray, List.set_cons_succ, List.set_cons_zero]
        apply seqS_end
        intro W hW
        have HE := Lib.hid (HK.out W hW).2.2.2
        clear hW
        go_wp2_with fail
        go_roundw
        case rel => exact ⟨q + 1, by omega, by go_num, HA2, HE⟩
        case measure => simp [intOf]; omega
    · have q1 : ¬ (q : Int) < (k : Int) := by omega
      obtain rfl : r = false := HF.out (fun e he => HA.out e (by rw [List.take_of_length_le (by rw [Hlen.out]; omega)]; exact he))
      go_wp2_with fail
      go_ret
      exact ⟨rfl, HB1.out.trans (HB.out.mono HB1.out.size)⟩
end Go.Proofs.Ytdbpbchhkdconaa
