/- StampKeeps answers true for every two paths and every two times and leaves them as they were. Conditions: the three tables of the library that its row lists hold what their initialisers lay (the card ties them to the program text). -/
import Derived.Test.YtmaahfcniedfhaaDoorStFrameP
import Derived.Test.YtmaahfcniedfhaaDoorStKeeps
import Derived.Test.YtmaahfcniedfhaaDoorCards
import Derived.Test.YtmaahfcniedfhaaDoorTie
import Derived.SevenTiedAt
namespace Go.Proofs.YtmaahfcniedfhaaDoor
open Go.ChangeShapes Go.WideShapes Go.ChangeAt Go.RowKit
set_option linter.unusedVariables false

/-- two times as an argument -/
theorem open_two {H : Type} {enc : TypeId × Value → H} {P : Program} {w : World} {t e a b : TypeId} {v : Value} {d : DataW H} {p : List MemPlace} {r : Reach} {b0 : Nat} (ht : P.underlying t = some (.array 2 e)) (hz : P.cellsOf t = 4) (hf : fieldsOf P e = [(a, 0, 1), (b, 1, 1)]) (hze : P.cellsOf e = 2) (ha : P.underlying a = some (.int .i64)) (hb : P.underlying b = some (.int .i64))
    (hval : Value.okWide P w r b0 t v) (h : DataW.Trod enc P w 0 (fun _ => true) true t v d p) :
    ∃ x y x' y', v = .agg #[.int .i64 x, .int .i64 y, .int .i64 x', .int .i64 y'] := by
  obtain ⟨cs, rfl, hsz, _⟩ : ∃ cs, v = .agg cs ∧ cs.size = P.cellsOf t ∧ Row.okWide P w r b0 t cs := by
    simpa [Value.okWide, ht] using hval
  obtain ⟨fuel, hx⟩ := h
  obtain ⟨xs, m, _, _, hl, hxl, hel⟩ := DataW.trod_array ht hx
  have one : ∀ (m : Nat) (cs : List Value) (x : DataW H × List MemPlace), DataW.trod enc P w 0 (fun _ => true) true m e cs = some x → ∃ p q, cs = [.int .i64 p, .int .i64 q] := by
    intro m cs x hx
    unfold fieldsOf at hf
    split at hf
    · rename_i fs hs
      obtain ⟨ys, n, _, _, hl, hlen, hat⟩ := DataW.trod_struct hs hx
      have h0 : (fs.toList.map fun f => (f.type, f.offset, P.cellsOf f.type))[0]? = some (a, 0, 1) := by rw [hf]; rfl
      have h1 : (fs.toList.map fun f => (f.type, f.offset, P.cellsOf f.type))[1]? = some (b, 1, 1) := by rw [hf]; rfl
      rw [List.getElem?_map, Option.map_eq_some_iff] at h0 h1
      obtain ⟨fd0, hfd0, he0⟩ := h0
      obtain ⟨fd1, hfd1, he1⟩ := h1
      simp only [Prod.mk.injEq] at he0 he1
      obtain ⟨ht0, ho0, hc0⟩ := he0
      obtain ⟨ht1, ho1, hc1⟩ := he1
      rw [hze] at hl
      have g0 := hat 0 fd0 (by simpa using hfd0)
      have g1 := hat 1 fd1 (by simpa using hfd1)
      rw [ho0, hc0, ht0] at g0
      rw [ho1, hc1, ht1] at g1
      have k0 : 0 < fs.size := by have := (List.getElem?_eq_some_iff.1 hfd0).1; simpa using this
      have k1 : 1 < fs.size := by have := (List.getElem?_eq_some_iff.1 hfd1).1; simpa using this
      rw [List.getElem?_eq_getElem (by omega)] at g0
      rw [List.getElem?_eq_getElem (by omega)] at g1
      obtain ⟨p, e0, _, _⟩ := DataW.trod_int ha g0
      obtain ⟨q, e1, _, _⟩ := DataW.trod_int hb g1
      match cs, hl with
      | [u0, u1], _ =>
        simp at e0 e1
        subst e0 e1
        exact ⟨p, q, rfl⟩
    · cases hf
  have h0 := hel 0 (by omega)
  have h1 := hel 1 (by omega)
  rw [hze, List.getElem?_eq_getElem (by omega)] at h0
  rw [hze, List.getElem?_eq_getElem (by omega)] at h1
  obtain ⟨p0, q0, e0⟩ := one _ _ _ h0
  obtain ⟨p1, q1, e1⟩ := one _ _ _ h1
  obtain ⟨cs⟩ := cs
  rw [hz] at hsz
  match cs, hsz with
  | [u0, u1, u2, u3], _ =>
    simp [Value.cells] at e0 e1
    obtain ⟨rfl, rfl⟩ := e0
    obtain ⟨rfl, rfl⟩ := e1
    exact ⟨p0, q0, p1, q1, rfl⟩
theorem u_two : Tryd.prog.underlying 49 = some (.array 2 23) := by kernel_rfl
theorem z_two : Tryd.prog.cellsOf 49 = 4 := by kernel_rfl

theorem params : Tryd.f5.params = #[29, 29, 49] := by kernel_rfl

set_option maxRecDepth 100000 in
theorem lifted (os : Os) (started : os.Started) (H : Type) (enc : TypeId × Value → H) :
    ReturnsInHanded {} Tryd.checked os 5 .any (fun w args => (Rows.stampKeepsSpec.pre enc Tryd.prog Tryd.f5 Rows.stampKeepsRow.domain false w args ∧ laidMet Tryd.prog laid w) ∧ sizedMet enc Tryd.prog Tryd.f5 (OpenSpec.ofChange Rows.stampKeepsSpec) false w args)
      (Rows.stampKeepsSpec.post enc Tryd.prog Tryd.f5 false true false false) := by
  refine returnsInHanded_of_change_and (C := Tryd.checked) (X := fun w _ => laidMet Tryd.prog laid w) (fun _ _ _ hh h => h.of_heap hh) own started (by kernel_rfl) Tryd.func5
    (ChangeSpec.witness_at (enc := enc) (C := Tryd.checked) (os := os) (X := fun w _ => laidMet Tryd.prog laid w) false (laidWorld os) #[pv false 0, pv false 0, .agg #[.int .i64 0, .int .i64 0, .int .i64 0, .int .i64 0]] 8 rfl (by kernel_rfl) (by kernel_rfl) (by kernel_rfl) (by kernel_rfl) (by kernel_rfl) (laidWorld_met os _)) ?_
  intro W base args ds gs before hval0 hW hcnd hsz0 hL _
  have hval : ∀ (j : Nat) t v, Tryd.f5.params[j]? = some t → args[j]? = some v → Value.okWide Tryd.prog W .any base t v := hval0
  have hW' := hW
  obtain ⟨p, q, hA0, hV, rfl, hfz, hnd⟩ := hW
  have hA : DataW.TrodAll enc Tryd.prog W 0 (fun _ => true) true Tryd.f5.params.toList args.toList ds p := hA0
  have hsz : (DataW.weightsEach Tryd.prog (Tryd.f5.params.toList ++ Rows.stampKeepsSpec.plain.varTypes Tryd.prog) (ds ++ gs)).all (· ≤ reachBytes) = true := hsz0
  rw [params] at hA hval hsz
  obtain ⟨v0, vs0, d0, ds0, p0, q0, hargs, rfl, rfl, h0, r0⟩ := trodAll_cons hA
  obtain ⟨v1, vs1, d1, ds1, p1, q1, rfl, rfl, rfl, h1, r1⟩ := trodAll_cons r0
  obtain ⟨v2, vs2, d2, ds2, p2, q2, rfl, rfl, rfl, h2, r2⟩ := trodAll_cons r1
  obtain ⟨rfl, rfl, rfl⟩ := trodAll_nil r2
  obtain rfl : args = #[v0, v1, v2] := by cases args; simp_all
  obtain ⟨rfl, rfl⟩ := trodVars_none hV
  have hwt : ∀ (j : Nat) (t : TypeId) (d : DataW H), [29, 29, 49][j]? = some t → [d0, d1, d2][j]? = some d → ∀ n ∈ d.weights Tryd.prog t, n ≤ reachBytes := fun j t d ht hd n hn => by
    have := List.all_eq_true.1 hsz n (DataW.weights_mem_each (j := j) (by rw [List.getElem?_append_left (by simpa using (List.getElem?_eq_some_iff.1 ht).1)]; exact ht) (by rw [List.getElem?_append_left (by simpa using (List.getElem?_eq_some_iff.1 hd).1)]; exact hd) n hn)
    simpa using this
  have lt0 : ∀ x ∈ p0, x.block < W.heap.size := by obtain ⟨m, hm⟩ := h0; exact DataW.trod_lt m _ _ _ hm
  have lt1 : ∀ x ∈ p1, x.block < W.heap.size := by obtain ⟨m, hm⟩ := h1; exact DataW.trod_lt m _ _ _ hm
  have lt2 : ∀ x ∈ p2, x.block < W.heap.size := by obtain ⟨m, hm⟩ := h2; exact DataW.trod_lt m _ _ _ hm
  obtain ⟨a1, a2, rfl, fa2⟩ := open_path f_path z_path u_bool u_int (hval 0 29 v0 rfl rfl) h0 (hwt 0 _ _ rfl rfl)
  obtain ⟨b1, b2, rfl, fb2⟩ := open_path f_path z_path u_bool u_int (hval 1 29 v1 rfl rfl) h1 (hwt 1 _ _ rfl rfl)
  obtain ⟨e1, e2, e3, e4, rfl⟩ := open_two u_two z_two f_time z_time u_int u_int (hval 2 49 v2 rfl rfl) h2
  clear hA0 hval0
  refine (stampKeeps_walk a1 b1 a2 b2 e1 e2 e3 e4 W (tab_of_laid hL)).mono fun e W' ⟨he, bel⟩ => ?_
  subst he
  exact ⟨_, rfl, _, _, _, [], _, [], hW', trodAll_mk1 (shut_bool u_bool _),
    (trodAll_cons_mk (Below.trod laidOut (by kernel_rfl) (of_decide_eq_true (by kernel_rfl)) h0 bel lt0)
      (trodAll_cons_mk (Below.trod laidOut (by kernel_rfl) (of_decide_eq_true (by kernel_rfl)) h1 bel lt1)
        (trodAll_cons_mk (Below.trod laidOut (by kernel_rfl) (of_decide_eq_true (by kernel_rfl)) h2 bel lt2) trodAll_mk0))), rfl, bel.frame _, fun h => by cases h⟩

theorem over : Rows.stampKeepsRow.holds Tryd.pinned (OpenSpec.ofChange Rows.stampKeepsSpec) :=
  OpenClaim.holds_of_wide 5 Tryd.f5 rfl rfl rfl rfl rfl rfl rfl ⟨rfl, rfl, rfl, rfl, rfl⟩ rfl rfl rfl rfl rfl (by kernel_rfl) Tryd.func5 (by kernel_rfl)
    (of_decide_eq_true (by kernel_rfl)) (by unfold Func.isWrapper; first | (rw [if_pos (by decide +kernel)]; kernel_rfl) | (rw [if_neg (by decide +kernel)]; exact ⟨rfl, rfl⟩))
    (fun os started H enc _ => lifted os started H enc)

/-- the card -/
theorem proved : Rows.StampKeepsCardSaid :=
  Claim7.holds_tied_plain_at .later [] [.data, .data, .data] true (true, "d541861b903894b9316b97e0a8cadd450a3f18c8150de5ef2f260cf5710c5426") true
    over (fun _ h => by cases h) (by kernel_rfl) (fun _ h => by cases h) stampKeeps_row_tie rfl ⟨rfl, rfl⟩ (by kernel_rfl) rfl
    (fun f fn hf hfn => by
      obtain rfl : f = 5 := Option.some.inj ((show Tryd.prog.funcNamed "corollary/corollarylaw20.StampKeeps" = some 5 by kernel_rfl).symm.trans hf) |>.symm
      obtain rfl : fn = Tryd.f5 := (Option.some.inj (Tryd.func5.symm.trans hfn)).symm
      refine ⟨by kernel_rfl, fun j t ht => ?_⟩
      have hm : t ∈ Tryd.f5.params.toList := by
        obtain ⟨hlt, rfl⟩ := Array.getElem?_eq_some_iff.1 ht
        simp
      have hall : (Tryd.f5.params.toList.all fun t => Tryd.prog.wantsStandIn t == false) = true := by kernel_rfl
      have hb := List.all_eq_true.1 hall t hm
      show Tryd.prog.wantsStandIn t = false
      simpa using hb)
    (by kernel_rfl)
#print axioms proved
end Go.Proofs.YtmaahfcniedfhaaDoor
