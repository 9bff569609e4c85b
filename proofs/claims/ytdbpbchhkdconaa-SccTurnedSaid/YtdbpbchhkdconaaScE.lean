/- Tarjan's way begins a node. -/
import Derived.Test.YtdbpbchhkdconaaScTs
import Derived.Test.YtdbpbchhkdconaaScC
import Derived.Test.YtdbpbchhkdconaaDrawnS
import Derived.Deep.RegionHeld3
import Derived.Deep.RegionWith
namespace Go.Proofs.Ytdbpbchhkdconaa
open Go.RowKit

def needsN (N : Int) (l : List GEdge) (k : Nat) : List Nat := (needsG N l (k : Int)).map Int.toNat
theorem okE_within {n : Int} {l : List GEdge} {k : Nat} {x : GEdge} (h : okE n l k = true) (hx : l[k]? = some x) : withinE x n = true := by
  unfold okE at h
  rw [hx] at h
  simp only [Bool.and_eq_true] at h
  exact h.1
theorem rightG_mem {n : Int} {l : List GEdge} (h : rightG n l = true) {x : GEdge} (hx : x ∈ l) : withinE x n = true := by
  simp only [rightG, Bool.and_eq_true, List.all_eq_true, List.mem_range] at h
  obtain ⟨i, hi⟩ := List.mem_iff_getElem?.1 hx
  exact okE_within (h.2 i (List.getElem?_eq_some_iff.1 hi).1) hi
theorem needsG_in {n : Int} {l : List GEdge} {a x : Int} (h : x ∈ needsG n l a) : 0 ≤ x ∧ x < n ∧ x ≤ 32 := by
  unfold needsG at h
  split at h
  · rename_i hr
    rcases (needsF_mem a l (-1) x).1 (.inl h) with ⟨e, he, h1, rfl⟩ | rfl
    · have hw := rightG_mem hr he
      simp only [rightG, Bool.and_eq_true, decide_eq_true_eq] at hr
      simp only [withinE, Bool.and_eq_true, decide_eq_true_eq] at hw
      omega
    · exfalso
      have : ∀ (l : List GEdge), (∀ e ∈ l, withinE e n = true) → ∀ last : Int, ¬ (-1 : Int) ∈ needsF a last l := by
        intro l
        induction l with
        | nil => intro _ last hh; simp [needsF] at hh
        | cons e l ih =>
          intro hl last hh
          unfold needsF at hh
          have hw := hl e (List.mem_cons_self ..)
          simp only [withinE, Bool.and_eq_true, decide_eq_true_eq] at hw
          split at hh
          · rcases List.mem_cons.1 hh with hh | hh
            · omega
            · exact ih (fun x hx => hl x (List.mem_cons_of_mem _ hx)) _ hh
          · exact ih (fun x hx => hl x (List.mem_cons_of_mem _ hx)) _ hh
      exact this l (fun e he => rightG_mem hr he) _ h
  · simp at h
theorem needsN_in {N : Int} {l : List GEdge} {k x : Nat} (h : x ∈ needsN N l k) : (x : Int) < N ∧ x ≤ 32 := by
  obtain ⟨y, hy, rfl⟩ := List.mem_map.1 h
  have := needsG_in hy
  omega
/-- what was collected, as a slice of small numbers -/
theorem coll_nat {w w' : World} {L : List Int} {A : Option Addr} {c : Nat} {S : List Nat} (h : w'.ownsRow w.heap.size 3 1 (.slice A L.length c) L.length (L.flatMap intC)) (hx : ∀ x ∈ L, 0 ≤ x ∧ x ≤ 32) (hl : L.length ≤ 10000) (hS : ∀ b ∈ S, b < w.heap.size) :
    SliceFar Enc.nat w' S A L.length c (L.map Int.toNat) := by
  have hs : (sans w' S).ownsRow w.heap.size 3 1 (.slice A L.length c) L.length ((L.map Int.toNat).flatMap fun (n : Nat) => [.int .i64 (n : Int)]) := by
    have e : (L.map Int.toNat).flatMap (fun (n : Nat) => [Value.int .i64 (n : Int)]) = L.flatMap intC := by
      rw [List.flatMap_map]
      clear h hl
      induction L with
      | nil => rfl
      | cons x L ih =>
        rw [List.flatMap_cons, List.flatMap_cons, ih (fun y hy => hx y (List.mem_cons_of_mem _ hy))]
        have := hx x (List.mem_cons_self ..)
        rw [show ((x.toNat : Nat) : Int) = x by omega]; rfl
    rw [e]
    refine ⟨h.1, ?_⟩
    rcases h.2 with hn | ⟨g, cap, cur, hv, hg, hh, r⟩
    · exact .inl hn
    · exact .inr ⟨g, cap, cur, hv, hg, (sans_out (fun hb => by have := hS g hb; omega)).trans hh, r⟩
  have := SliceIs.of_flat (E := Enc.nat) (fun (n : Nat) => [Value.int .i64 (n : Int)]) (fun _ => rfl) hs (by simp) (by simp [reachN]; omega) (fun x hx' => ⟨rfl, by
    obtain ⟨y, hy, rfl⟩ := List.mem_map.1 hx'
    have := hx y hy
    omega⟩)
  rw [sans_size] at this
  exact this

theorem step_call {P : Program} {w : World} {ops : Array Oper} {o : Oper} {a : Act} {K : Act → World → Prop} {Q : Exit → Act → World → Prop} {E : Prop} (hgd : o.guard = none) (h : o.wp P a w K Q) : if Region.wanted o (yielded ops a.tmps) = true then Oper.wp P o a w K Q else E := by
  rw [if_pos (by simp [Region.wanted, hgd])]
  exact h
def EnterPost (B p : Nat) (N : Int) (EV : Value) (kI kL kO : Nat) (Ao : Option Addr) (co : Nat) (fI fL fO : Nat → Nat) (cnt : Nat) (stk : List Nat) (wrk : List (Nat × List Nat)) (outs : List (List Nat)) (w : World) (e : Ending) (w' : World) : Prop :=
  e = .returned (.tuple #[]) ∧ (∃ As cs Aw cw, TarAt w' B p N EV kI kL kO As cs Aw cw Ao co fI fL fO cnt stk wrk outs) ∧ Below B w w'

set_option maxRecDepth 100000 in
set_option maxHeartbeats 8000000 in
theorem enter_any {w : World} {B p : Nat} {N : Int} {A : Option Addr} {m c : Nat} {kI kL kO : Nat} {As : Option Addr} {cs : Nat} {Aw : Option Addr} {cw : Nat} {Ao : Option Addr} {co : Nat} {fI fL fO : Nat → Nat} {cnt : Nat} {stk : List Nat} {wrk : List (Nat × List Nat)} {outs : List (List Nat)} {l : List GEdge}
    (h : TarAt w B p N (.slice A m c) kI kL kO As cs Aw cw Ao co fI fL fO cnt stk wrk outs) (hB : B ≤ w.heap.size) (hl : SliceIs Enc.edge w B A m c l) (hm : m ≤ 10000) (k : Nat) (hk : k ≤ 32) (h0 : fI k = 0) (h1 : fO k = 0) (hcnt : cnt ≤ 32) (hs : stk.length ≤ 1000) (hw : wrk.length ≤ 1000) :
    Calls Try.prog 54 #[.pointer (some ⟨p, 0, none⟩), .int .i64 (k : Int)] w (EnterPost B p N (.slice A m c) kI kL kO Ao co (updN fI k (cnt + 1)) (updN fL k (cnt + 1)) (updN fO k 1) (cnt + 1) (stk ++ [k]) (wrk ++ [(k, needsN N l k)]) outs w) := by
  have hdr : ∀ W : World, Below W.heap.size W W.drew := fun W => Below.drew (Below.refl _ _)
  -- index
  have ha := h.on (hdr w)
  have hlenI := fun ty => ha.mI.len under_map ty
  obtain ⟨w1, u1, v1, o1, z1⟩ := ha.mI.put under_map under_int k (cnt + 1) (by omega)
  rw [if_pos h0] at v1
  have hb := (ha.mapI o1 v1)
  have b1 : Below B w w1 := (Below.drew (Below.refl B w)).trans (ha.out_below (by simpa using hB) o1 (fun b hb => by simp at hb; subst hb; exact mem_tarS.2 (by simp)))
  -- low
  have hc := hb.on (hdr w1)
  have hlk := hc.mI.look under_map under_int (zero_num _) k
  rw [updN_same] at hlk
  obtain ⟨nL, hnL⟩ := hc.mL
  obtain ⟨w2, u2, v2, o2, z2⟩ := hnL.put under_map under_int k (cnt + 1) (by omega)
  have hd := hc.mapL o2 v2
  have b2 : Below B w w2 := b1.trans ((Below.drew (Below.refl B w1)).trans (hc.out_below (by have := b1.size; simpa using (Nat.le_trans hB this)) o2 (fun b hb => by simp at hb; subst hb; exact mem_tarS.2 (by simp))))
  -- the stack
  have hB2 : B ≤ w2.heap.size := Nat.le_trans hB b2.size
  have he := hd.on (belowA (Below.refl _ w2) (.cells #[.int .i64 (k : Int)] 3))
  obtain ⟨As', cs', w3, u3, r3, o3, q3⟩ := he.rs.push (P := Try.prog) (t := 29) (ty := 29) Try.underlying29 info_nat rfl rfl (by decide) k w2.heap.size [.int .i64 (k : Int)] (heapNew rfl) ⟨rfl, by omega⟩ (by intro u hu; simp at hu; subst hu; rfl) (by simp [maxLen]; omega) (by omega) (by simp; omega) (fun b hb => mem_tarS.2 (by simp [hb]))
  have hf := he.setS o3 (fun b hb => hb) (by simp) r3 q3
  have hrow3 := (o3.block p he.plt (fun hh => (he.apart.2.1 p hh).1 rfl)).trans he.row
  have c34 : w3.cell? ⟨p, 4, none⟩ = some (.slice As stk.length cs) := (cell_of_row _ _ 4 _ _ _ hrow3).trans rfl
  have f34 : w3.frozen? ⟨p, 4, none⟩ = false := frozen_of_row _ _ _ _ _ hrow3
  have b3 : Below B w (w3.setCell ⟨p, 4, none⟩ (.slice As' (stk.length + 1) cs')) := b2.trans (((Below.refl B w2).alloc hB2 _).trans ((he.out_below (by simp; omega) o3 (fun b hb => mem_tarS.2 (by simp [hb]))).setCell h.ge.1 _))
  -- on the stack
  obtain ⟨nO, hnO⟩ := hf.mO
  have hlO := hnO.look under_map under_int (zero_num _) k
  rw [h1] at hlO
  obtain ⟨w4, u4, v4, o4, z4⟩ := hnO.put under_map under_int k 1 (by omega)
  have hg := hf.mapO o4 v4
  have b4 : Below B w w4 := b3.trans (hf.out_below (Nat.le_trans hB b3.size) o4 (fun b hb => by simp at hb; subst hb; exact mem_tarS.2 (by simp)))
  have hB4 : B ≤ w4.heap.size := Nat.le_trans hB b4.size
  -- the work
  have hh := hg.on (hdr w4)
  have hl4 : SliceIs Enc.edge w4 B A m c l := hl.below b4
  have hNL : Hid (∀ x ∈ needsG N l (k : Int), 0 ≤ x ∧ x ≤ 32) := fun x hx => ⟨(needsG_in hx).1, (needsG_in hx).2.2⟩
  have hNl : (needsG N l (k : Int)).length ≤ 10000 := by
    have e1 := needsF_len (k : Int) l (-1)
    have e2 := hl.1
    unfold needsG
    split
    · omega
    · simp
  have hNn : stk.length + 1 ≤ 1000000 := by omega
  have HP : Hid (∀ w', (∃ As cs Aw cw, TarAt w' B p N (.slice A m c) kI kL kO As cs Aw cw Ao co (updN fI k (cnt + 1)) (updN fL k (cnt + 1)) (updN fO k 1) (cnt + 1) (stk ++ [k]) (wrk ++ [(k, needsN N l k)]) outs) → Below B w w' → EnterPost B p N (.slice A m c) kI kL kO Ao co (updN fI k (cnt + 1)) (updN fL k (cnt + 1)) (updN fO k 1) (cnt + 1) (stk ++ [k]) (wrk ++ [(k, needsN N l k)]) outs w (.returned (.tuple #[])) w') := fun w' h1 h2 => ⟨rfl, h1, h2⟩
  obtain ⟨P, HPe⟩ : ∃ P : Ending → World → Prop, Hid (P = EnterPost B p N (.slice A m c) kI kL kO Ao co (updN fI k (cnt + 1)) (updN fL k (cnt + 1)) (updN fO k 1) (cnt + 1) (stk ++ [k]) (wrk ++ [(k, needsN N l k)]) outs w) := ⟨_, rfl⟩
  rw [← HPe.out] at HP ⊢
  have hb5 : Below w4.drew.heap.size w4.drew ((w4.drew.alloc (.cells #[.int .i64 N, .slice A m c] 24)).alloc (.cells #[.int .i64 (k : Int)] 3)) := belowA (belowA (Below.refl _ _) _) _
  have hg5 : ((w4.drew.alloc (.cells #[.int .i64 N, .slice A m c] 24)).alloc (.cells #[.int .i64 (k : Int)] 3)).heap[w4.heap.size]? = some (.cells #[.int .i64 N, .slice A m c] 24 (0, 0)) := heapOld (heapNew (by simp))
  have hg6 : ((w4.drew.alloc (.cells #[.int .i64 N, .slice A m c] 24)).alloc (.cells #[.int .i64 (k : Int)] 3)).heap[w4.heap.size + 1]? = some (.cells #[.int .i64 (k : Int)] 3 (0, 0)) := heapNew (by simp)
  have HN := Lib.hid (needs_any N A m c (k : Int) w4.drew)
  have HC := Lib.hid (collect_any (w0 := w4.drew) (hl4.mono (by simpa using hB4) (fun _ _ => rfl)) hb5 hg5 hg6 hm)
  -- behind the collecting
  have HW : Hid (∀ (w6 : World) (A1 : Option Addr) (c1 : Nat), w6.ownsRow ((w4.drew.alloc (.cells #[.int .i64 N, .slice A m c] 24)).alloc (.cells #[.int .i64 (k : Int)] 3)).heap.size 3 1 (.slice A1 (needsG N l (k : Int)).length c1) (needsG N l (k : Int)).length ((needsG N l (k : Int)).flatMap intC) →
      Below ((w4.drew.alloc (.cells #[.int .i64 N, .slice A m c] 24)).alloc (.cells #[.int .i64 (k : Int)] 3)).heap.size ((w4.drew.alloc (.cells #[.int .i64 N, .slice A m c] 24)).alloc (.cells #[.int .i64 (k : Int)] 3)) w6 →
      ∃ Aw' cw' w7, (∀ ty, (Builtin.append_ #[75, 75] ty #[.slice Aw wrk.length cw, .slice (some ⟨w6.heap.size, 0, none⟩) 1 1]).run Try.prog (w6.alloc (.cells #[.int .i64 (k : Int), .slice A1 (needsG N l (k : Int)).length c1] 91)) = .ok (.slice Aw' (wrk.length + 1) cw') w7) ∧
        w7.cell? ⟨p, 6, none⟩ = some (.slice Aw wrk.length cw) ∧ w7.frozen? ⟨p, 6, none⟩ = false ∧ (w6.alloc (.cells #[.int .i64 (k : Int), .slice A1 (needsG N l (k : Int)).length c1] 91)).cell? ⟨p, 6, none⟩ = some (.slice Aw wrk.length cw) ∧ w6.cell? ⟨p, 6, none⟩ = some (.slice Aw wrk.length cw) ∧
        TarAt (w7.setCell ⟨p, 6, none⟩ (.slice Aw' (wrk.length + 1) cw')) B p N (.slice A m c) kI kL kO As' cs' Aw' cw' Ao co (updN fI k (cnt + 1)) (updN fL k (cnt + 1)) (updN fO k 1) (cnt + 1) (stk ++ [k]) (wrk ++ [(k, needsN N l k)]) outs ∧ Below B w4 (w7.setCell ⟨p, 6, none⟩ (.slice Aw' (wrk.length + 1) cw'))) := by
    intro w6 A1 c1 hrow hb6
    have hz5 := hb5.size
    have hz6 := hb6.size
    have hz7 : w4.heap.size + 2 ≤ w6.heap.size := by have := hb6.size; simpa using this
    have b46 : Below w4.drew.heap.size w4.drew w6 := hb5.trans (hb6.mono hz5)
    have t6 := hh.on b46
    have t7 := t6.on (belowA (Below.refl _ w6) (.cells #[.int .i64 (k : Int), .slice A1 (needsG N l (k : Int)).length c1] 91))
    have hfar := coll_nat (S := tarS p kI kL kO As' Aw Ao) hrow hNL.out hNl (fun b hb => by have := (hh.low b hb).2; omega)
    have hfar7 : SliceFar Enc.nat (w6.alloc (.cells #[.int .i64 (k : Int), .slice A1 (needsG N l (k : Int)).length c1] 91)) (tarS p kI kL kO As' Aw Ao) A1 (needsG N l (k : Int)).length c1 (needsN N l k) := hfar.on (belowA (Below.refl _ w6) _)
    obtain ⟨Aw', cw', w7, u7, r7, o7, q7⟩ := t7.rw.push (P := Try.prog) (t := 75) (ty := 75) Try.underlying75 info_frame rfl rfl (by decide) (k, needsN N l k) w6.heap.size [.int .i64 (k : Int), .slice A1 (needsG N l (k : Int)).length c1] (heapNew rfl) ⟨A1, _, c1, rfl, by omega, hfar7⟩ (by intro u hu; simp at hu; rcases hu with rfl | rfl <;> rfl) (by simp [maxLen]; omega) (by omega)
      (by simp; have : B ≤ w4.heap.size := hB4; omega) (fun b hb => mem_tarS.2 (by simp [hb]))
    have hrow7 := (o7.block p t7.plt (fun hx => (t7.apart.2.2.1 p hx).1 rfl)).trans t7.row
    have B6 : B ≤ w6.heap.size := by have : B ≤ w4.heap.size := hB4; omega
    exact ⟨Aw', cw', w7, fun _ => u7, (cell_of_row _ _ 6 _ _ _ hrow7).trans rfl, frozen_of_row _ _ _ _ _ hrow7, t7.cells.2.2.2.2.2.2.1, t6.cells.2.2.2.2.2.2.1, t7.setW o7 (fun b hb => hb) (by simp) r7 q7,
      (Below.drew (Below.refl B w4)).trans ((b46.mono (by simpa using hB4)).trans (((Below.refl B w6).alloc B6 _).trans ((t7.out_below (by simp; omega) o7 (fun b hb => mem_tarS.2 (by simp [hb]))).setCell h.ge.1 _)))⟩
  obtain ⟨-, -, p2, -, -, -, -, -⟩ := ha.cells
  obtain ⟨x0, x1, -, -, -, -, x6, -⟩ := hh.cells
  have X0 := Lib.hid x0
  have X1 := Lib.hid x1
  have X6 := Lib.hid x6
  obtain ⟨-, -, q2, qq3, -, -, -, -⟩ := hc.cells
  obtain ⟨-, -, -, -, r4, -, -, -⟩ := hd.cells
  obtain ⟨-, -, -, -, -, s5, -, -⟩ := hf.cells
  have mixed : Try.prog.follows .mixedOrders = true := by kernel_rfl
  have e1 : ((cnt + 1 : Nat) : Int) = (cnt : Int) + 1 := by omega
  have e2 : ((stk.length + 1 : Nat) : Int) = (stk.length : Int) + 1 := by omega
  rw [e1] at u1 hlk u2
  rw [show ((1 : Nat) : Int) = 1 from rfl] at u4
  have U1 := Lib.hid u1
  have U2 := Lib.hid u2
  have U3 := Lib.hid u3
  have U4 := Lib.hid u4
  have HLI := Lib.hid hlenI
  have HLK := Lib.hid hlk
  have HLO := Lib.hid hlO
  have C3 := Lib.hid c34
  have F3 := Lib.hid f34
  have Hh := Lib.hid hh
  have Hb4 := Lib.hid b4
  have Hl4 := Lib.hid hl4
  have P2 := Lib.hid p2
  have Q2 := Lib.hid q2
  have Q3 := Lib.hid qq3
  have R4 := Lib.hid r4
  have S5 := Lib.hid s5
  clear h hl ha hb hc hd he hf hg hh b1 b2 b3 b4 o1 o2 o3 o4 v1 v2 v4 r3 hnL hnO hrow3 HPe u1 u2 u3 u4 hlenI hlk hlO c34 f34 hl4 p2 q2 qq3 r4 s5 hdr e1 e2 h0 h1 q3 z1 z2 z4 hb5 hg5 hg6 x0 x1 x6 hB4
  go_enter Try.func54, Try.ntmps54
  go_wp2_with fail
  refine drawnM mixed _ (fun W => W = w.drew) rfl (by kernel_rfl) rfl rfl ?_
  have u1 := U1.out
  have hlenI := HLI.out
  have p2 := P2.out
  iterate 11
    apply seqL_op
    · rintro W rfl
      go_wp2_with fail
      exact ⟨rfl, rfl, fun d hd => by cases hd; simp only [List.getElem?_toArray, List.getElem?_cons_succ, List.getElem?_cons_zero]; rfl, rfl⟩
    simp only [Act.put, List.setIfInBounds_toArray, List.set_cons_succ, List.set_cons_zero]
  apply seqL_end
  rintro W rfl
  go_wp2_with fail
  clear u1 hlenI p2
  refine drawnM mixed _ (fun W => W = w1.drew) rfl (by kernel_rfl) rfl rfl ?_
  have u2 := U2.out
  have hlk := HLK.out
  have q2 := Q2.out
  have qq3 := Q3.out
  iterate 11
    apply seqL_op
    · rintro W rfl
      go_wp2_with fail
      exact ⟨rfl, rfl, fun d hd => by cases hd; simp only [List.getElem?_toArray, List.getElem?_cons_succ, List.getElem?_cons_zero]; rfl, rfl⟩
    simp only [Act.put, List.setIfInBounds_toArray, List.set_cons_succ, List.set_cons_zero]
  apply seqL_end
  rintro W rfl
  clear hlk q2 qq3
  have r4 := R4.out
  have c34 := C3.out
  have f34 := F3.out
  have s5 := S5.out
  have u4 := U4.out
  have hlO := HLO.out
  go_wp2_with (at_builtin; refine wpList_append_run (o := ⟨some 33, _, _, _, _, _⟩) rfl _ _ _ rfl _ _ rfl rfl U3.out ?_)
  clear u2 u4 hlO r4 c34 f34 s5
  have x0 := X0.out
  have x1 := X1.out
  have x6 := X6.out
  have x6a : ((w4.alloc (.cells #[.int .i64 N, .slice A m c] 24)).alloc (.cells #[.int .i64 (k : Int)] 3)).cell? ⟨p, 6, none⟩ = some (.slice Aw wrk.length cw) := cellA (cellA X6.out)
  go_region_law ((first
    | (refine step_call rfl (op_call 70 _ rfl rfl #[graphV N A m c, .int .i64 (k : Int)] (by simp [Act.eval]) _ Try.func70 (by kernel_rfl) (by kernel_rfl) (HN.out.mono ?_))
       rintro e w5 ⟨rfl, rfl⟩
       refine ⟨_, rfl, ?_⟩)
    | (refine step_call rfl (op_call 69 _ rfl rfl #[.func (.func 82) #[] #[.pointer (some ⟨w4.heap.size, 0, none⟩), .pointer (some ⟨w4.heap.size + 1, 0, none⟩)]] (by simp [Act.eval]) _ Try.func69 (by kernel_rfl) (by kernel_rfl) (HC.out.mono ?_))
       rintro e w6 ⟨A1, c1, rfl, hrow, hb6⟩
       obtain ⟨Aw', cw', w7, u7, y6, f6, z6, v6, ht, hbl⟩ := HW.out w6 A1 c1 hrow hb6
       have U7 := Lib.hid u7
       have Ht := Lib.hid ht
       have Hbl := Lib.hid hbl
       clear ht hbl hrow hb6 u7
       refine ⟨_, rfl, ?_⟩)
    | (refine step_append_ex rfl (.tmp 47) (.tmp 57) 75 rfl _ _ rfl rfl (fun v' w' => v' = .slice Aw' (wrk.length + 1) cw' ∧ w' = w7) ⟨_, _, U7.out _, rfl, rfl⟩ ?_
       rintro v9 w9 ⟨rfl, rfl⟩)))
  all_goals
    go_end0
    exact HP.out _ ⟨As', cs', Aw', cw', Ht.out⟩ (Hb4.out.trans Hbl.out)
end Go.Proofs.Ytdbpbchhkdconaa
