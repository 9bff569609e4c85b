/- TupleOrders: the walk. -/
import Derived.Test.YtgomfmfaoeojkaaDoorTupJoins
namespace Go.Proofs.YtgomfmfaoeojkaaDoor
open Go.RowKit

theorem three_tuples {w : World} {A B C : Option Addr} {n c m d q f : Nat} {a b e : List GV} (ha : SliceIs Enc.val w w.heap.size A n c a) (hb : SliceIs Enc.val w w.heap.size B m d b) (he : SliceIs Enc.val w w.heap.size C q f e) :
    SliceIs (Enc.slice Enc.val) (w.alloc (.cells #[.slice A n c, .slice B m d, .slice C q f] 23)) (w.alloc (.cells #[.slice A n c, .slice B m d, .slice C q f] 23)).heap.size (some ⟨w.heap.size, 0, none⟩) 3 3 [a, b, e] := by
  have hbe : Below w.heap.size w (w.alloc (.cells #[.slice A n c, .slice B m d, .slice C q f] 23)) := belowA (Below.refl _ _) _
  refine ⟨rfl, by omega, by simp [maxLen], by simp [reachN], .inr ⟨w.heap.size, 0, rfl, by simp, ?_⟩⟩
  have hrow := Go.heap_alloc_new w (.cells #[.slice A n c, .slice B m d, .slice C q f] 23)
  intro i x hx
  match i, hx with
  | 0, hx =>
    simp at hx; subst hx
    refine ⟨[.slice A n c], ⟨A, n, c, rfl, (ha.below hbe).mono (by simp) (fun _ _ => rfl)⟩, ?_⟩
    intro j v hv
    match j, hv with
    | 0, hv => simp at hv; subst hv; exact (cell_of_row _ _ 0 _ _ _ hrow).trans rfl
  | 1, hx =>
    simp at hx; subst hx
    refine ⟨[.slice B m d], ⟨B, m, d, rfl, (hb.below hbe).mono (by simp) (fun _ _ => rfl)⟩, ?_⟩
    intro j v hv
    match j, hv with
    | 0, hv => simp at hv; subst hv; exact (cell_of_row _ _ 1 _ _ _ hrow).trans rfl
  | 2, hx =>
    simp at hx; subst hx
    refine ⟨[.slice C q f], ⟨C, q, f, rfl, (he.below hbe).mono (by simp) (fun _ _ => rfl)⟩, ?_⟩
    intro j v hv
    match j, hv with
    | 0, hv => simp at hv; subst hv; exact (cell_of_row _ _ 2 _ _ _ hrow).trans rfl
  | i + 3, hx => simp at hx

theorem app_on {w W : World} {A : Option Addr} {n c m : Nat} {l : List GV} {v : Value} {xs : List Value} (hl : SliceIs Enc.val w w.heap.size A n c l) (hn : n ≤ 1000000) (hm : m ≤ 1000000) (hb : Below w.heap.size w W) (hown : W.ownsRow w.heap.size 30 3 v m xs) :
    ∃ v' w', (∀ ty, (Builtin.append_ #[23, 23] ty #[v, .slice A n c]).run Tryd.prog W = .ok v' w') ∧
      (w'.ownsRow w.heap.size 30 3 v' (m + n) (xs ++ l.flatMap GV.cells) ∧ Below w.heap.size w w') := by
  obtain ⟨v', w', h1, h2, h3, h4⟩ := run_append_slice (P := Tryd.prog) (E := Enc.val) (B := w.heap.size) (ty := 23) GV.cells (fun _ => rfl) (fun h => h.1) val_one W (base := w.heap.size) Tryd.underlying23 val_info rfl (by decide)
    hown (hl.below hb) (by simp [maxLen]; omega) (by omega) hb.size
  exact ⟨v', w', fun _ => h1, h2, hb.trans h4⟩

theorem wpList_append_want {P : Program} {w w' : World} {ops : Array Oper} {rest : List Oper} {o : Oper} {a : Act} {Q : Exit → Act → World → Prop} {v' : Value} (hw : Region.wanted o (yielded ops a.tmps) = true) (s x : Operand) (t : TypeId)
    (ho : o.op = .call { callee := .builtin .append, args := #[s, x], argTypes := #[t, t] }) (v xv : Value) (hs : a.eval s = v) (hx : a.eval x = xv)
    (hrun : (Builtin.append_ #[t, t] o.type #[v, xv]).run P w = .ok v' w') (h : wpList P ops Q rest (a.put o.dst v') w') : wpList P ops Q (o :: rest) a w :=
  wpList_step fun K hK => by
    rw [if_pos hw]
    unfold Oper.wp execOp
    simp only [ho, resolve, invoke, builtin, Sem.run_bind, Sem.run_pure, Result.andThen_ok, List.map_toArray, List.map_cons, List.map_nil, hs, hx, hrun]
    exact hK _ _ h

theorem is_arity (w : World) : Calls Tryd.prog 22 #[.iface 43 (.int .i64 6), .int .i64 6] w (RetBool true w) := by
  have hn := Lib.hid (show ∀ w, Calls Tryd.prog 27 #[.iface 43 (.int .i64 6)] w (RetInt 6 w) from fun w => num_any 6 w)
  go_enter Tryd.func22, Tryd.ntmps22
  go_wp2_with fail
  refine (hn.out _).mono ?_
  rintro e w1 ⟨rfl, hq1⟩
  go_wp2_with fail
  go_ret
  exact ⟨rfl, hq1⟩

set_option maxRecDepth 100000 in
set_option maxHeartbeats 4000000 in
theorem tupleOrders_walk (A B C : Option Addr) (n c m d q f : Nat) (a b k : List GV) (w : World) (ha : SliceIs Enc.val w w.heap.size A n c a) (hb : SliceIs Enc.val w w.heap.size B m d b) (hk : SliceIs Enc.val w w.heap.size C q f k) (h : TabW w) :
    Calls Tryd.prog 4 #[.slice A n c, .slice B m d, .slice C q f] w (RetBool true w) := by
  have hn := ha.bound
  have hm := hb.bound
  have hla := Lib.hid ha.1
  have hlb := Lib.hid hb.1
  have HA := Lib.hid ha
  have HB := Lib.hid hb
  have HC := Lib.hid hk
  have HW := Lib.hid h
  have Hok : Hid (∀ x ∈ a ++ b, x.ok) := fun x hx => by
    rcases List.mem_append.1 hx with hx | hx
    · exact vals_ok ha x hx
    · exact vals_ok hb x hx
  clear ha hb hk h
  go_enter Tryd.func4, Tryd.ntmps4
  go_wp2_with fail
  refine (alive_any _ HW.out).mono ?_
  rintro e2 w1 ⟨rfl, hbw⟩
  have HL := Lib.hid (long02_any (some ⟨w1.heap.size, 0, none⟩) 3 3 [a, b, k] _ (three_tuples (HA.out.keep hbw) (HB.out.keep hbw) (HC.out.keep hbw)))
  go_wp2_with fail
  refine HL.out.mono ?_
  clear HL
  rintro e2 w2 ⟨r, rfl, hr, hq2⟩
  replace hbw := below_next (belowA hbw _) hq2
  clear hq2
  cases r with
  | true =>
    clear hr
    go_wp2_with fail
    go_ret
    exact ⟨rfl, hbw⟩
  | false =>
  have hn50 : n ≤ 50 := by have := hr rfl a (by simp); have := hla.out; omega
  have hm50 : m ≤ 50 := by have := hr rfl b (by simp); have := hlb.out; omega
  clear hr
  obtain ⟨ct, hct⟩ : ∃ ct, cmpL a b = ct := ⟨_, rfl⟩
  have hct' : ct = if lessL b a = true then 1 else if lessL a b = true then -1 else 0 := by rw [← hct, cmpL_of_less]
  have hneg : cmpL b a = -ct := by rw [cmpL_neg, hct]
  have hcs := cmpL_cases a b
  rw [hct] at hcs
  have hwn : wrap64 (-ct) = -ct := by unfold wrap64; omega
  have Htr := Lib.hid (fun (h1 : ct ≤ 0) (h2 : cmpL b k ≤ 0) => show cmpL a k ≤ 0 from cmpL_trans a b k (by omega) h2)
  have hl1 := Lib.hid (fun W (hb : Below w.heap.size w W) => refTLess_any A B n c m d a b W (HA.out.keep hb) (HB.out.keep hb))
  have hl2 := Lib.hid (fun W (hb : Below w.heap.size w W) => refTLess_any B A m d n c b a W (HB.out.keep hb) (HA.out.keep hb))
  have hAB := Lib.hid (fun W (hb : Below w.heap.size w W) => tcompare_any A B n c m d a b W (HA.out.keep hb) (HB.out.keep hb))
  have hBA := Lib.hid (fun W (hb : Below w.heap.size w W) => tcompare_any B A m d n c b a W (HB.out.keep hb) (HA.out.keep hb))
  have hBC := Lib.hid (fun W (hb : Below w.heap.size w W) => tcompare_any B C m d q f b k W (HB.out.keep hb) (HC.out.keep hb))
  have hAC := Lib.hid (fun W (hb : Below w.heap.size w W) => tcompare_any A C n c q f a k W (HA.out.keep hb) (HC.out.keep hb))
  rw [hct] at hAB
  rw [hneg] at hBA
  generalize lessL a b = l1 at hl1 hct'
  generalize lessL b a = l2 at hl2 hct'
  generalize cmpL b k = cbc at hBC Htr
  generalize cmpL a k = cac at hAC Htr
  have HC' := Lib.hid hct'
  have HWN := Lib.hid hwn
  clear hct hct' hneg hwn
  go_wp2_with fail
  refine (hl1.out _ hbw).mono ?_
  rintro e3 w3 ⟨rfl, hq⟩
  replace hbw := below_next hbw hq
  clear hq
  go_upto_if 20 with fail
  obtain ⟨k1, hk1⟩ : ∃ k1 : Int, (if l1 = true then -1 else 0) = k1 := ⟨_, rfl⟩
  have HK1 := Lib.hid hk1
  clear hk1
  go_cut [7] (fun v W => v = .int .i64 k1 ∧ Below w.heap.size w W)
  case first =>
    cases hl : l1 with
    | false =>
      have e : k1 = 0 := by have := HK1.out; rw [hl] at this; simpa using this.symm
      subst e
      go_wp2_with fail
      go_meet
      exact ⟨rfl, hbw⟩
    | true =>
      have e : k1 = -1 := by have := HK1.out; rw [hl] at this; simpa using this.symm
      subst e
      go_wp2_with fail
      go_meet
      exact ⟨rfl, hbw⟩
  case rest =>
  obtain ⟨rfl, hbw⟩ := hcut
  go_wp2_with fail
  refine (hl2.out _ hbw).mono ?_
  rintro e3 w4 ⟨rfl, hq⟩
  replace hbw := below_next hbw hq
  clear hq
  go_upto_if 23 with fail
  go_cut [7] (fun v W => v = .int .i64 ct ∧ Below w.heap.size w W)
  case first =>
    cases hl : l2 with
    | false =>
      have e : k1 = ct := by have := HC'.out; rw [hl] at this; rw [this, ← HK1.out]; simp
      subst e
      go_wp2_with fail
      go_meet
      exact ⟨rfl, hbw⟩
    | true =>
      have e : ct = 1 := by have := HC'.out; rw [hl] at this; simpa using this
      subst e
      go_wp2_with fail
      go_meet
      exact ⟨rfl, hbw⟩
  case rest =>
  obtain ⟨rfl, hbw⟩ := hcut
  clear hl1 hl2 HC' HK1
  have hwn := HWN.out
  have r1 : (ct != ct) = false := by simp
  have r2 : (-ct != -ct) = false := by simp
  go_wp2_with fail
  refine (hAB.out _ hbw).mono ?_
  rintro e3 w5 ⟨rfl, hq⟩
  replace hbw := below_next hbw hq
  clear hq
  go_wp2_with fail
  refine (hBA.out _ hbw).mono ?_
  rintro e3 w6 ⟨rfl, hq⟩
  replace hbw := below_next hbw hq
  clear hq
  go_upto_region 13 with fail
  clear r1 r2 hwn
  go_cut [53] (fun v W => v = .bool false ∧ Below w.heap.size w W)
  case first =>
    go_wp2_with fail
    refine (hAB.out _ hbw).mono ?_
    rintro e3 w7 ⟨rfl, hq⟩
    replace hbw := below_next hbw hq
    clear hq
    by_cases h1 : ct ≤ 0
    · go_wp2_with fail
      refine (hBC.out _ hbw).mono ?_
      rintro e3 w8 ⟨rfl, hq⟩
      replace hbw := below_next hbw hq
      clear hq
      by_cases h2 : cbc ≤ 0
      · have h3 : ¬ (0 < cac) := by have := Htr.out h1 h2; omega
        go_wp2_with fail
        refine (hAC.out _ hbw).mono ?_
        rintro e3 w9 ⟨rfl, hq⟩
        replace hbw := below_next hbw hq
        clear hq
        go_wp2_with fail
        go_meet
        exact ⟨by simp <;> omega, hbw⟩
      · go_wp2_with fail
        go_meet
        exact ⟨by simp <;> omega, hbw⟩
    · go_wp2_with fail
      go_meet
      exact ⟨by simp <;> omega, hbw⟩
  case rest =>
  obtain ⟨rfl, hbw⟩ := hcut
  clear hAB hBA hBC hAC Htr HWN hcs
  by_cases h6 : 6 < n + m
  · have i1 : (6 : Int) < (n : Int) + (m : Int) := by omega
    have HJ := Lib.hid (fun W (hb : Below w.heap.size w W) => tjoin_no A B n c m d a b W (HA.out.keep hb) (HB.out.keep hb) h6)
    go_wp2_with fail
    refine (HJ.out _ hbw).mono ?_
    rintro e3 w7 ⟨rfl, rfl⟩
    go_wp2_with fail
    refine (is_arity _).mono ?_
    rintro e3 w8 ⟨rfl, hq⟩
    go_wp2_with fail
    go_ret
    exact ⟨by simp, below_next hbw hq⟩
  · have i1 : ¬ (6 : Int) < (n : Int) + (m : Int) := by omega
    have HJ := Lib.hid (fun W (hb : Below w.heap.size w W) => tjoin_any A B n c m d a b W (HA.out.keep hb) (HB.out.keep hb) h6)
    go_wp2_with fail
    refine (HJ.out _ hbw).mono ?_
    rintro e3 w7 ⟨A3, c3, rfl, hj, hq⟩
    have hjl : (a ++ b).length = n + m := by rw [List.length_append, hla.out, hlb.out]
    rw [hjl] at hj ⊢
    replace hbw := below_next hbw hq
    have HJ := Lib.hid hj
    have Hjl := Lib.hid hjl
    clear hq hj hjl
    obtain ⟨v4, w4, hrun4, hown4, hq4⟩ := clone_app (HA.out.keep hbw) (by omega) (belowA (Below.refl _ w7) (.cells #[] 30)) (Nat.le_refl _) (heapNew (w := w7) rfl)
    obtain ⟨v5, w5, hrun5, hown5, hq5⟩ := app_on (HB.out.keep hbw) (by omega) (by omega) hq4 hown4
    obtain ⟨A4, c4, rfl⟩ := own_form hown4
    obtain ⟨A5, c5, rfl⟩ := own_form hown5
    have hs5 : SliceIs Enc.val w5 w5.heap.size A5 (n + m) c5 (a ++ b) := by
      refine TupOwn.is (base := w7.heap.size) ?_ Hjl.out (by simp [reachN]; omega) Hok.out
      unfold TupOwn
      rw [Hjl.out, List.flatMap_append]; exact hown5
    have HEq := Lib.hid (tuple_eq A3 A5 (n + m) (n + m) c3 c5 (a ++ b) w5 (HJ.out.keep hq5) hs5)
    have HR4 := Lib.hid hrun4
    have HR5 := Lib.hid hrun5
    clear hrun4 hrun5 hown4 hown5 hs5 HJ
    go_wp2_with (first
      | (at_builtin; refine wpList_append_want rfl (.tmp 77) (.tmp 78) _ rfl _ _ rfl rfl (HR4.out _) ?_)
      | (at_builtin; refine wpList_append_want rfl (.tmp 79) (.tmp 80) _ rfl _ _ rfl rfl (HR5.out _) ?_))
    refine HEq.out.mono ?_
    rintro e w8 ⟨rfl, hq⟩
    go_wp2_with fail
    go_ret
    exact ⟨by simp, below_next (below_next hbw hq5) hq⟩
end Go.Proofs.YtgomfmfaoeojkaaDoor
