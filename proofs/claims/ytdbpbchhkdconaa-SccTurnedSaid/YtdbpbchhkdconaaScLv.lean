/- Tarjan's way ends a node: the walk. -/
import Derived.Test.YtdbpbchhkdconaaScL
namespace Go.Proofs.Ytdbpbchhkdconaa
open Go.RowKit

theorem own_cell1 {w : World} {base e : Nat} {A : Option Addr} {n c : Nat} {xs : List Value} (h : w.ownsRow base e 1 (.slice A n c) n xs) {k : Nat} {v : Value} (hk : xs[k]? = some v) : ∃ b, A = some ⟨b, 0, none⟩ ∧ w.cell? ⟨b, k, none⟩ = some v := by
  obtain ⟨h1, h2⟩ := h
  rcases h2 with ⟨hv, hn⟩ | ⟨g, cap, cur, hv, hg, hh, hnc, hcm, hsz, htk⟩
  · subst hn
    have : xs = [] := List.eq_nil_of_length_eq_zero (by omega)
    subst this; simp at hk
  · simp only [Value.slice.injEq] at hv
    obtain ⟨rfl, _, rfl⟩ := hv
    refine ⟨g, rfl, ?_⟩
    rw [cell_of_row w g _ cur e (0, 0) hh]
    rw [← htk, List.getElem?_take] at hk
    split at hk
    · simpa [Array.getElem?_toList] using hk
    · cases hk
theorem flat_nat : ∀ q : List Nat, q.flatMap (fun (x : Nat) => [Value.int .i64 (x : Int)]) = q.map natC
  | [] => rfl
  | x :: q => by rw [List.flatMap_cons, flat_nat q]; rfl
theorem part_far {w : World} {base n c : Nat} {A : Option Addr} {q : List Nat} {S : List Nat} (h : w.ownsRow base 3 1 (.slice A n c) n (q.map natC)) (hS : ∀ b ∈ S, b < base) (hq : ∀ x ∈ q, x ≤ 1000) (hl : q.length = n) (hn : n ≤ 1000000) : SliceFar Enc.nat w S A n c q := by
  have hs : (sans w S).ownsRow base 3 1 (.slice A n c) n (q.flatMap fun (x : Nat) => [.int .i64 (x : Int)]) := by
    have e : q.flatMap (fun (x : Nat) => [Value.int .i64 (x : Int)]) = q.map natC := by
      exact flat_nat q
    rw [e]
    refine ⟨h.1, ?_⟩
    rcases h.2 with hn | ⟨g, cap, cur, hv, hg, hh, r⟩
    · exact .inl hn
    · exact .inr ⟨g, cap, cur, hv, hg, (sans_out (fun hb => by have := hS g hb; omega)).trans hh, r⟩
  have := SliceIs.of_flat (E := Enc.nat) (fun (x : Nat) => [Value.int .i64 (x : Int)]) (fun _ => rfl) hs hl (by simp [reachN]; omega) (fun x hx => ⟨rfl, hq x hx⟩)
  rw [sans_size] at this
  exact this
theorem wpList_delete_run {P : Program} {w w' : World} {ops : Array Oper} {rest : List Oper} {o : Oper} {a : Act} {Q : Exit → Act → World → Prop} {v' : Value} (hg : o.guard = none) (s x : Operand) (t k : TypeId)
    (ho : o.op = .call { callee := .builtin .delete, args := #[s, x], argTypes := #[t, k] }) (v xv : Value) (hs : a.eval s = v) (hx : a.eval x = xv)
    (hrun : (Builtin.delete_ #[t, k] o.type #[v, xv]).run P w = .ok v' w') (h : wpList P ops Q rest (a.put o.dst v') w') : wpList P ops Q (o :: rest) a w :=
  wpList_plain hg fun K hK => by
    unfold Oper.wp execOp
    simp only [ho, resolve, invoke, builtin, Sem.run_bind, Sem.run_pure, Result.andThen_ok, List.map_toArray, List.map_cons, List.map_nil, hs, hx, hrun]
    exact hK _ _ h

def LeaveIs (fI fL fO : Nat → Nat) (stk : List Nat) (outs : List (List Nat)) (n : Nat) (fO' : Nat → Nat) (stk' : List Nat) (outs' : List (List Nat)) : Prop :=
  (fL n ≠ fI n ∧ fO' = fO ∧ stk' = stk ∧ outs' = outs) ∨
  (fL n = fI n ∧ stk' = stk.take (stk.idxOf n) ∧ (∃ q : List Nat, q.Perm (stk.drop (stk.idxOf n)) ∧ q.Pairwise (· ≤ ·) ∧ outs' = outs ++ [q]) ∧ fO' = fun v => if v ∈ stk.drop (stk.idxOf n) then 0 else fO v)
def LeavePost (B p : Nat) (N : Int) (EV : Value) (kI kL kO : Nat) (Aw : Option Addr) (cw : Nat) (fI fL fO : Nat → Nat) (cnt : Nat) (stk : List Nat) (wrk : List (Nat × List Nat)) (outs : List (List Nat)) (n : Nat) (w : World) (e : Ending) (w' : World) : Prop :=
  e = .returned (.tuple #[]) ∧ (∃ As cs Ao co fO' stk' outs', TarAt w' B p N EV kI kL kO As cs Aw cw Ao co fI fL fO' cnt stk' wrk outs' ∧ LeaveIs fI fL fO stk outs n fO' stk' outs') ∧ Below B w w'

set_option maxRecDepth 100000 in
set_option maxHeartbeats 8000000 in
theorem leave_any {w : World} {B p : Nat} {N : Int} {EV : Value} {kI kL kO : Nat} {As : Option Addr} {cs : Nat} {Aw : Option Addr} {cw : Nat} {Ao : Option Addr} {co : Nat} {fI fL fO : Nat → Nat} {cnt : Nat} {stk : List Nat} {wrk : List (Nat × List Nat)} {outs : List (List Nat)}
    (h : TarAt w B p N EV kI kL kO As cs Aw cw Ao co fI fL fO cnt stk wrk outs) (hB : B ≤ w.heap.size) (n : Nat) (hn : n ∈ stk) (hs : stk.length ≤ 1000) (ho : outs.length ≤ 1000) (hb : ∀ v ∈ stk, v ≤ 1000) :
    Calls Try.prog 55 #[.pointer (some ⟨p, 0, none⟩), .int .i64 (n : Int)] w (LeavePost B p N EV kI kL kO Aw cw fI fL fO cnt stk wrk outs n w) := by
  have mixed : Try.prog.follows .mixedOrders = true := by kernel_rfl
  have hdr : Below w.heap.size w w.drew := Below.drew (Below.refl _ _)
  have ha := h.on hdr
  have HA := Lib.hid ha
  obtain ⟨-, -, p2, p3, p4, p5, -, p7⟩ := ha.cells
  have lkI := ha.mI.look under_map under_int (zero_num _) n
  obtain ⟨nL, hL⟩ := ha.mL
  have lkL := hL.look under_map under_int (zero_num _) n
  obtain ⟨P, HPe⟩ : ∃ P : Ending → World → Prop, Hid (P = LeavePost B p N EV kI kL kO Aw cw fI fL fO cnt stk wrk outs n w) := ⟨_, rfl⟩
  rw [← HPe.out]
  by_cases hne : fL n = fI n
  rotate_left
  · have HE : Hid (P (.returned (.tuple #[])) w.drew) := by
      show P _ _
      rw [HPe.out]
      exact ⟨rfl, ⟨As, cs, Ao, co, fO, stk, outs, ha, .inl ⟨hne, rfl, rfl, rfl⟩⟩, Below.drew (Below.refl _ _)⟩
    have z : (((fL n : Nat) : Int) != ((fI n : Nat) : Int)) = true := by simp; omega
    clear ha HA h hL HPe hn hs ho hb hdr p4 p5 p7 hne
    generalize ((fL n : Nat) : Int) = x at *
    generalize ((fI n : Nat) : Int) = y at *
    go_enter Try.func55, Try.ntmps55
    go_wp2_with fail
    refine drawnS mixed _ (fun W => W = w.drew) rfl (by kernel_rfl) rfl rfl ?_
    iterate 13
      apply seqS_op
      · rintro W rfl
        go_wp2_with fail
        exact ⟨rfl, rfl, fun d hd => by cases hd; simp only [List.getElem?_toArray, List.getElem?_cons_succ, List.getElem?_cons_zero]; rfl, rfl⟩
      simp only [Act.put, List.setIfInBounds_toArray, List.set_cons_succ, List.set_cons_zero]
    apply seqS_end
    rintro W rfl
    go_wp2_with fail
    first | (go_end0; exact HE.out) | exact HE.out | (refine bodyPost_ret (results_none rfl _ _ _) rfl ?_; exact HE.out)
  -- its component is whole
  have hat : stk.idxOf n < stk.length := List.idxOf_lt_length_of_mem hn
  obtain ⟨at', Hat⟩ : ∃ k, Hid (k = stk.idxOf n) := ⟨_, rfl⟩
  have hat' : at' < stk.length := by rw [Hat.out]; exact hat
  have hst := ha.rs.slice (T := []) (by simp [reachN]; omega) (fun b _ hh => by cases hh) (fun b hh _ => by cases hh)
  have HI := Lib.hid (indexN_any As stk.length cs stk n w.drew hst.is hn)
  rw [← Hat.out] at HI
  obtain ⟨sh1, sh2, sh3, sh4⟩ := ha.rs.shape
  cases hAs : As with
  | none => have := (sh3 hAs).1; omega
  | some aS =>
  obtain ⟨bS, rfl⟩ := sh4 aS hAs
  subst hAs
  -- the slice behind the place
  have hcut : SliceIs Enc.nat w.drew w.drew.heap.size (some ⟨bS, at', none⟩) (stk.length - at') (cs - at') (stk.drop at') := by
    obtain ⟨q1, q2, q3, q4, q5⟩ := hst.is
    refine ⟨by simp, by omega, by omega, by omega, ?_⟩
    rcases q5 with q5 | ⟨b', o', hA, hbl, hc⟩
    · rw [q5] at hat'; simp at hat'
    · injection hA with hA; injection hA with e1 e2 _; subst e1; subst e2
      refine .inr ⟨bS, at', rfl, hbl, fun i x hx => ?_⟩
      rw [List.getElem?_drop] at hx
      obtain ⟨cs', hok, hcs⟩ := hc (at' + i) x hx
      refine ⟨cs', hok, fun j v hv => ?_⟩
      have := hcs j v hv
      have e : at' + i * Enc.nat.sz + j = 0 + (at' + i) * Enc.nat.sz + j := by show at' + i * 1 + j = 0 + (at' + i) * 1 + j; omega
      rw [e]; exact this
  have HCl := Lib.hid (cloneN_any (some ⟨bS, at', none⟩) (stk.length - at') (cs - at') (stk.drop at') w.drew hcut (by omega) (by omega))
  -- behind the clone: the stack is cut
  have HW : Hid (∀ (w1 : World) (b5 c5 : Nat), w1.ownsRow w.drew.heap.size 3 1 (.slice (some ⟨b5, 0, none⟩) (stk.length - at') c5) (stk.length - at') ((stk.drop at').map natC) → Below w.drew.heap.size w.drew w1 →
      w1.cell? ⟨p, 4, none⟩ = some (.slice (some ⟨bS, 0, none⟩) stk.length cs) ∧ w1.frozen? ⟨p, 4, none⟩ = false ∧
      TarAt (w1.setCell ⟨p, 4, none⟩ (.slice (some ⟨bS, 0, none⟩) at' cs)) B p N EV kI kL kO (some ⟨bS, 0, none⟩) cs Aw cw Ao co fI fL fO cnt (stk.take at') wrk outs ∧
      (w1.setCell ⟨p, 4, none⟩ (.slice (some ⟨bS, 0, none⟩) at' cs)).ownsRow w.drew.heap.size 3 1 (.slice (some ⟨b5, 0, none⟩) (stk.length - at') c5) (stk.length - at') ((stk.drop at').map natC) ∧ Below B w (w1.setCell ⟨p, 4, none⟩ (.slice (some ⟨bS, 0, none⟩) at' cs)) ∧
      w.drew.heap.size ≤ b5 ∧ Out [p, kO] w.drew (w1.setCell ⟨p, 4, none⟩ (.slice (some ⟨bS, 0, none⟩) at' cs))) := by
    intro w1 b5 c5 hr5 hb1
    have t1 := ha.on hb1
    have g5 := (own_blk hr5 (b := b5) rfl).1
    refine ⟨t1.cells.2.2.2.2.1, t1.free 4, t1.setS (T := []) (Out.refl [] w1) (fun b hh => by cases hh) (by simp; omega) (fun U hU => (t1.rs.out (T := []) (Out.refl [] w1) (fun b _ hh => by cases hh) (fun b hh _ => by cases hh) hU).cut (by omega)) (fun b hh => .inl hh), ?_, ?_, g5, (Out.of_below hb1 [p, kO]).trans ((set_out w1 p 4 _).mono (fun b hb _ => List.mem_cons.2 (.inl (by simpa using hb)))) (fun b hb _ => hb)⟩
    · exact own_out' hr5 (set_out w1 p 4 _) (fun b hh => by injection hh with hh; subst hh; have := ha.plt; simp; omega)
    · exact (Below.drew (Below.refl B w)).trans ((hb1.mono (by simpa using hB)).setCell h.ge.1 _)
  have z : (((fL n : Nat) : Int) != ((fI n : Nat) : Int)) = false := by simp [hne]
  have a0 : (0 : Int) ≤ (at' : Int) := by omega
  have a1 : (at' : Int) ≤ (stk.length : Int) := by omega
  have a2 : (stk.length : Int) ≤ (cs : Int) := by omega
  have a3 : (at' : Int) ≤ (cs : Int) := by omega
  have P4 := Lib.hid p4
  have Hne := Lib.hid hne
  have HSs := Lib.hid hs
  have HBb := Lib.hid hb
  clear ha hst hcut h hL hs hb hdr hat p5 p7 hne
  generalize ((fL n : Nat) : Int) = x at *
  generalize ((fI n : Nat) : Int) = y at *
  go_enter Try.func55, Try.ntmps55
  go_wp2_with fail
  refine drawnS mixed _ (fun W => W = w.drew) rfl (by kernel_rfl) rfl rfl ?_
  iterate 13
    apply seqS_op
    · rintro W rfl
      go_wp2_with fail
      exact ⟨rfl, rfl, fun d hd => by cases hd; simp only [List.getElem?_toArray, List.getElem?_cons_succ, List.getElem?_cons_zero]; rfl, rfl⟩
    simp only [Act.put, List.setIfInBounds_toArray, List.set_cons_succ, List.set_cons_zero]
  apply seqS_end
  rintro W rfl
  clear p2 p3 lkI lkL
  go_wp2_with fail
  refine HI.out.mono ?_
  rintro e w0 ⟨rfl, rfl⟩
  go_wp2_with fail
  refine HCl.out.mono ?_
  rintro e w1 ⟨b5, c5, rfl, hr5, hb1⟩
  have hw := HW.out w1 b5 c5 hr5 hb1
  have c4 := hw.1
  have f4 := hw.2.1
  have HT := Lib.hid hw.2.2.1
  have HR := Lib.hid hw.2.2.2.1
  have HB := Lib.hid hw.2.2.2.2.1
  have Hb5 := Lib.hid hw.2.2.2.2.2.1
  have HOo := Lib.hid hw.2.2.2.2.2.2
  have Hm5 : Hid (stk.length - at' ≤ 1000) := by have := HSs.out; show _ ≤ _; omega
  have hpart : Hid ((stk.drop at').length = stk.length - at') := by show _ = _; simp
  clear hw hr5 hb1 HW HCl HI
  generalize hm : stk.length - at' = m5 at *
  have Hm := Lib.hid hm
  clear hm
  go_wp2_with fail
  clear c4 f4
  have hm51 := Hm5.out
  go_loopw [7, 45] (fun _ i wr => ∃ j : Nat, j ≤ m5 ∧ i = .int .i64 (j : Int) ∧ Hid (TarAt wr B p N EV kI kL kO (some ⟨bS, 0, none⟩) cs Aw cw Ao co fI fL (fun v => if v ∈ (stk.drop at').take j then 0 else fO v) cnt (stk.take at') wrk outs) ∧
      Hid (wr.ownsRow w.drew.heap.size 3 1 (.slice (some ⟨b5, 0, none⟩) m5 c5) m5 ((stk.drop at').map natC)) ∧ Hid (Below B w wr) ∧ Hid (Out [p, kO] w.drew wr)) (fun _ i _ => m5 - (intOf i).toNat)
  case atStart => exact ⟨0, by omega, rfl, HT.out.funs (fun _ => rfl) (fun _ => rfl) (fun v => by simp), HR, HB, HOo⟩
  case round =>
    obtain ⟨j, hj, rfl, HTj, HRj, HBj, HOj⟩ := hrel
    have i0 : (0 : Int) ≤ (j : Int) := by omega
    by_cases hlt : j < m5
    · have i1 : (j : Int) < (m5 : Int) := by omega
      obtain ⟨x5, Hx5⟩ : ∃ x5, Hid ((stk.drop at')[j]? = some x5) := ⟨_, List.getElem?_eq_getElem (by rw [hpart.out]; exact hlt)⟩
      obtain ⟨b5', hb5', y0⟩ : ∃ b, some (⟨b5, 0, none⟩ : Addr) = some ⟨b, 0, none⟩ ∧ wr.cell? ⟨b, j, none⟩ = some (.int .i64 (x5 : Int)) := own_cell1 HRj.out (k := j) (v := .int .i64 (x5 : Int)) (by rw [List.getElem?_map, Hx5.out]; rfl)
      obtain rfl : b5 = b5' := by injection hb5' with hh; injection hh
      have q5 := HTj.out.cells.2.2.2.2.2.1
      obtain ⟨nO, hO⟩ := HTj.out.mO
      obtain ⟨v9, w9, m9, u9, n9, o9, z9⟩ := hO.del under_map under_int 0 x5
      have HT9 : Hid (TarAt w9 B p N EV kI kL kO (some ⟨bS, 0, none⟩) cs Aw cw Ao co fI fL (fun v => if v ∈ (stk.drop at').take (j + 1) then 0 else fO v) cnt (stk.take at') wrk outs) := by
        refine (HTj.out.mapO o9 n9).funs (fun _ => rfl) (fun _ => rfl) (fun v => ?_)
        unfold updN
        dsimp only
        rw [List.take_add_one, Hx5.out]
        by_cases hv : v = x5
        · subst hv; simp
        · rw [if_neg hv]
          by_cases hm : v ∈ (stk.drop at').take j
          · rw [if_pos hm, if_pos (List.mem_append_left _ hm)]
          · rw [if_neg hm, if_neg]
            intro hh
            rcases List.mem_append.1 hh with hh | hh
            · exact hm hh
            · simp at hh; exact hv hh
      have HR9 : Hid (w9.ownsRow w.drew.heap.size 3 1 (.slice (some ⟨b5, 0, none⟩) m5 c5) m5 ((stk.drop at').map natC)) := own_out' HRj.out o9 (fun b hh hb => by
        injection hh with hh; subst hh
        have h1 := (HA.out.low kO (mem_tarS.2 (by simp))).2
        have h2 := Hb5.out
        simp at hb; omega)
      have HB9 : Hid (Below B w w9) := HBj.out.trans (HTj.out.out_below (Nat.le_trans hB HBj.out.size) o9 (fun b hh => by simp at hh; subst hh; exact mem_tarS.2 (by simp)))
      have HO9 : Hid (Out [p, kO] w.drew w9) := HOj.out.trans (o9.mono (fun b hb _ => List.mem_cons_of_mem _ hb)) (fun b hb _ => hb)
      clear n9 o9 z9 hO HT HR HB hb5'
      go_wp2_with fail
      go_roundw
      case rel => exact ⟨j + 1, by omega, by go_num, HT9, HR9, HB9, HO9⟩
      case measure => simp [intOf]; omega
    · have i1 : ¬ (j : Int) < (m5 : Int) := by omega
      obtain rfl : j = m5 := by omega
      obtain ⟨w6, hw6⟩ : ∃ V, V = wr := ⟨_, rfl⟩
      subst hw6
      have HSo := Lib.hid (sortN_any w.drew.heap.size b5 j c5 (stk.drop at') w6 HRj.out (by omega))
      go_wp2_with fail
      refine HSo.out.mono ?_
      rintro e w7 ⟨rfl, q, hq1, hq2, hq3, hq4⟩
      have hS5 : ∀ b ∈ tarS p kI kL kO (some ⟨bS, 0, none⟩) Aw Ao, b < w.drew.heap.size := fun b hb => (HA.out.low b hb).2
      have hn5 : ∀ b ∈ tarS p kI kL kO (some ⟨bS, 0, none⟩) Aw Ao, b ∉ [b5] := fun b hb hh => by have := hS5 b hb; have := Hb5.out; simp at hh; omega
      have HO7 : Out [p, kO] w.drew w7 := HOj.out.trans hq4 (fun b hb hbl => by have := Hb5.out; simp at hb; omega)
      have hz6 := HOj.out.size
      obtain ⟨a1, a2, a3, a4⟩ := HA.out.apart
      have hTS : ∀ b ∈ [p, kO], b < w.drew.heap.size → b ∈ tarS p kI kL kO (some ⟨bS, 0, none⟩) Aw Ao := fun b hb _ => by
        rcases List.mem_cons.1 hb with rfl | hb
        · exact mem_tarS.2 (by simp)
        · simp at hb; subst hb; exact mem_tarS.2 (by simp)
      have t7 : TarAt w7 B p N EV kI kL kO (some ⟨bS, 0, none⟩) cs Aw cw Ao co fI fL (fun v => if v ∈ (stk.drop at').take j then 0 else fO v) cnt (stk.take at') wrk outs := by
        have t6 := HTj.out
        obtain ⟨n1, l1⟩ := t6.mL
        obtain ⟨n2, l2⟩ := t6.mO
        refine ⟨(hq4.block p t6.plt (hn5 p (mem_tarS.2 (by simp)))).trans t6.row, t6.mI.same (hq4.block _ t6.mI.lt (hn5 kI (mem_tarS.2 (by simp)))), ⟨n1, l1.same (hq4.block _ l1.lt (hn5 kL (mem_tarS.2 (by simp))))⟩, ⟨n2, l2.same (hq4.block _ l2.lt (hn5 kO (mem_tarS.2 (by simp))))⟩, ?_, ?_, ?_, t6.ne, t6.ge⟩
        · have := (HA.out.rs.out HO7 (fun b hb hh => by
            rcases List.mem_cons.1 hh with hh | hh
            · exact (a2 b hb).1 hh
            · simp at hh; exact (a2 b hb).2.2.2.1 hh) hTS (fun _ hb _ => hb)).cut (k := at') (by omega)
          rw [show (stk.take at').length = at' by simp; omega]
          exact this
        · exact HA.out.rw.out HO7 (fun b hb hh => by
            rcases List.mem_cons.1 hh with hh | hh
            · exact (a3 b hb).1 hh
            · simp at hh; exact (a3 b hb).2.2.2.1 hh) hTS (fun _ hb _ => hb)
        · exact HA.out.ro.out HO7 (fun b hb hh => by
            rcases List.mem_cons.1 hh with hh | hh
            · exact (a4 b hb).1 hh
            · simp at hh; exact (a4 b hb).2.2.2.1 hh) hTS (fun _ hb _ => hb)
      have hB7 : Below B w6 w7 := hq4.below (fun b hb => by have := Hb5.out; simp at hb; subst hb; simp at this; omega) (by simp at hz6; omega)
      have hfar : SliceFar Enc.nat w7 (tarS p kI kL kO (some ⟨bS, 0, none⟩) Aw Ao) (some ⟨b5, 0, none⟩) j c5 q := part_far hq3 hS5 (fun x hx => HBb.out x (List.mem_of_mem_drop (hq1.mem_iff.1 hx))) (by have := hq1.length_eq; rw [hpart.out] at this; omega) (by omega)
      have t8 := t7.on (belowA (Below.refl _ w7) (.cells #[.slice (some ⟨b5, 0, none⟩) j c5] 29))
      obtain ⟨Ao', co', w9, u9, r9, o9, q9⟩ := t8.ro.push (P := Try.prog) (t := 27) (ty := 27) Try.underlying27 info_part rfl rfl (by decide) q w7.heap.size [.slice (some ⟨b5, 0, none⟩) j c5] (heapNew rfl) ⟨_, _, _, rfl, hfar.on (belowA (Below.refl _ w7) _)⟩ (by intro u hu; simp at hu; subst hu; rfl) (by simp [maxLen]; omega) (by omega)
        (by have := hq4.size; simp at hz6 ⊢; omega) (fun b hb => mem_tarS.2 (by simp [hb]))
      have t9 := t8.setO o9 (fun b hb => hb) (by simp) r9 q9
      have hrow9 := (o9.block p t8.plt (fun hx => (t8.apart.2.2.2 p hx).1 rfl)).trans t8.row
      have c97 : w9.cell? ⟨p, 7, none⟩ = some (.slice Ao outs.length co) := (cell_of_row _ _ 7 _ _ _ hrow9).trans rfl
      have f97 : w9.frozen? ⟨p, 7, none⟩ = false := frozen_of_row _ _ _ _ _ hrow9
      have c77 : w7.cell? ⟨p, 7, none⟩ = some (.slice Ao outs.length co) := t7.cells.2.2.2.2.2.2.2
      have HE : Hid (P (.returned (.tuple #[])) (w9.setCell ⟨p, 7, none⟩ (.slice Ao' (outs.length + 1) co'))) := by
        show P _ _
        rw [HPe.out]
        refine ⟨rfl, ⟨_, _, _, _, _, _, _, t9, .inr ⟨Hne.out, by rw [← Hat.out], ⟨q, by rw [← Hat.out]; exact hq1, hq2, rfl⟩, ?_⟩⟩, ?_⟩
        · rw [← Hat.out, List.take_of_length_le (by rw [hpart.out]; exact Nat.le_refl _)]
        · exact HBj.out.trans (hB7.trans (((Below.refl B w7).alloc (by have := hq4.size; simp at hz6; omega) _).trans ((t8.out_below (by have := hq4.size; simp at hz6 ⊢; omega) o9 (fun b hb => mem_tarS.2 (by simp [hb]))).setCell t8.ge.1 _)))
      have U9 := Lib.hid u9
      clear u9 r9 o9 q9 t9 t8 t7 hrow9 hfar hB7 hTS a1 a2 a3 a4 HO7 hn5 hS5 hq1 hq2 hq3 hq4 hz6 HTj HRj HBj HOj HSo HT HR HB
      go_wp2_with (at_builtin; refine wpList_append_run (o := ⟨some 64, _, _, _, _, _⟩) rfl _ _ _ rfl _ _ rfl rfl U9.out ?_)
      go_end0
      exact HE.out
end Go.Proofs.Ytdbpbchhkdconaa
