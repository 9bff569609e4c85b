/- My own texts SfUn, SfAlv, SfChk, SdC, RegR, as far as this claim needs them. -/
import Derived.Test.YtfklheagafffmaaGreatDoorZo5
import Derived.Test.YtfklheagafffmaaGreatDoorZo8
import Derived.Test.YtfklheagafffmaaGreatDoorZo9
import Derived.Test.YtfklheagafffmaaGreatDoorZo10
import Derived.Test.YtfklheagafffmaaGreatDoorZo12
import Derived.Test.YtfklheagafffmaaGreatDoorZo24
import Derived.Test.YtfklheagafffmaaGreatDoorZo28
import Derived.Test.YtfklheagafffmaaGreatDoorZo29
import Derived.Test.YtfklheagafffmaaGreatDoorZo34
import Derived.Test.YtfklheagafffmaaGreatDoorZo35
set_option linter.unusedVariables false
set_option linter.unusedSimpArgs false
namespace Go.Proofs.YtfklheagafffmaaGreatDoor
open Go.RowKit
def UnPost (x : GRule) (w : World) (e : Ending) (w' : World) : Prop :=
  ∃ S A m c, e = .returned (.slice A m c) ∧ BoundTo x.body (posV x.body) S ∧ SliceIs Enc.str w' w'.heap.size A m c (sieveL x S false) ∧ Below w.heap.size w w'
set_option maxRecDepth 100000 in
set_option maxHeartbeats 8000000 in
theorem unbound_any {w : World} {d : Nat} {x : GRule} {a b : Hd} (hx : RuleAt d w w.heap.size x a b) (hsz : (ruleT x).length ≤ 1500) (hbn : x.body.length ≤ 1500) :
    Calls Tryz.prog 17 #[.agg (ruleC x a b).toArray] w (UnPost x w) := by
  obtain ⟨V, hV⟩ : ∃ V, V = w.alloc (.cells (ruleC x a b).toArray 27) := ⟨_, rfl⟩
  have HVe := Lib.hid hV.symm
  have hr0 : V.heap[w.heap.size]? = some (.cells (ruleC x a b).toArray 27 (0, 0)) := by rw [hV]; exact heapNew rfl
  have hzV : V.heap.size = w.heap.size + 1 := by rw [hV]; simp
  have hbV : Below w.heap.size w V := by rw [hV]; exact belowA (Below.refl _ _) _
  have HbV := Lib.hid hbV
  have Hk : Hid (∀ W, Below V.heap.size V W → W.cell? ⟨w.heap.size, 0, none⟩ = some (.string x.head.rel) ∧ W.cell? ⟨w.heap.size, 1, none⟩ = some (a.v) ∧ W.cell? ⟨w.heap.size, 2, none⟩ = some (.int .i64 x.agg) ∧ W.cell? ⟨w.heap.size, 3, none⟩ = some (.int .i64 x.col) ∧ W.cell? ⟨w.heap.size, 4, none⟩ = some (b.v) ∧ W.cell? ⟨w.heap.size, 5, none⟩ = some (.int .i64 x.pos)) := fun W hW => facts6 ((hW.block _ (by omega)).trans hr0)
  have K27 : Hid ((Tryz.prog.info? 27).map (·.size) = some (ruleC x a b).length) := by show _ = some 6; kernel_rfl
  have HRA : Hid (∀ W, Below V.heap.size V W → RuleAt d W W.heap.size x a b) := fun W hW => (hx.keep hbV).keep hW
  have HBd := Lib.hid (fun (W : World) (hW : Below V.heap.size V W) => bound_any (HRA.out W hW) hsz hbn)
  have HSz := Lib.hid hsz
  obtain ⟨P, HP⟩ : ∃ P : Ending → World → Prop, Hid (P = UnPost x w) := ⟨_, rfl⟩
  rw [← HP.out]
  clear hx hV hr0 hbV hsz hbn
  go_enter Tryz.func17, Tryz.ntmps17
  go_wp2_with (rw [HVe.out])
  have hq1 := Below.refl V.heap.size V
  go_region_held3 (fun W => W.cell? ⟨w.heap.size, 0, none⟩ = some (.string x.head.rel) ∧ W.cell? ⟨w.heap.size, 1, none⟩ = some (a.v) ∧ W.cell? ⟨w.heap.size, 2, none⟩ = some (.int .i64 x.agg) ∧ W.cell? ⟨w.heap.size, 3, none⟩ = some (.int .i64 x.col) ∧ W.cell? ⟨w.heap.size, 4, none⟩ = some (b.v) ∧ W.cell? ⟨w.heap.size, 5, none⟩ = some (.int .i64 x.pos))
    (first
      | (refine Hk.out _ ?_; (repeat (first | with_reducible exact Below.refl _ _ | with_reducible assumption | with_reducible refine Below.drew ?_ | with_reducible refine belowA ?_ _)); done)
      | go_keep)
    ((first
      | (go_at_call 45
         refine (HBd.out V.drew (Below.refl _ _).drew).mono ?_
         rintro e w1 ⟨g, S, M, rfl, hS1, hbd1, hb1⟩
         have hq2 : Below V.heap.size V w1 := ((Below.refl V.heap.size V).drew).trans hb1
         have HS1 := Lib.hid hS1
         have HBd1 := Lib.hid hbd1
         clear hb1 hS1 hbd1)
      | (go_at_call 36
         refine (sieve_any d g S M false x a b w1 HS1.out (HRA.out w1 hq2) HSz.out).mono ?_
         rintro e w2 ⟨A, m, c, rfl, hs2, hb2, -⟩
         have hq3 : Below V.heap.size V w2 := hq2.trans (hb2.mono hq2.size)
         have HE : Hid (UnPost x w (.returned (.slice A m c)) w2) := ⟨S, A, m, c, rfl, HBd1.out, hs2, HbV.out.trans (hq3.mono HbV.out.size)⟩
         clear hs2 hb2)))
  all_goals
    go_wp2_with fail
    rw [HP.out]
    exact HE.out
end Go.Proofs.YtfklheagafffmaaGreatDoor

namespace Go.Proofs.YtfklheagafffmaaGreatDoor
open Go.RowKit
def al9 : ByteArray := ⟨#[112, 40, 88, 41, 32, 58, 45, 32, 89, 32, 60, 32, 88, 44, 32, 113, 40, 89, 41, 44, 32, 88, 32, 61, 32, 89, 32, 43, 32, 49, 46]⟩
def al9L : List UInt8 := [112, 40, 88, 41, 32, 58, 45, 32, 89, 32, 60, 32, 88, 44, 32, 113, 40, 89, 41, 44, 32, 88, 32, 61, 32, 89, 32, 43, 32, 49, 46]
def al9Y : GRule := (readP al9L).1
def al9U : List ByteArray := posV al9Y.body ++ ((al9Y.body[2]?).map varsL).getD []
set_option maxRecDepth 100000 in
theorem al9_read : ((readP al9L).2.2, orderK al9Y.body, al9Y.body.length, decide ((ruleT al9Y).length ≤ 1500)) = (0, [1, 2, 0], 3, true) := by kernel_rfl
set_option maxRecDepth 100000 in
theorem al9_bound : ((al9Y.body[2]?).any (fun z => setsB (posV al9Y.body) z), al9Y.body.all (fun x => !setsB al9U x), (sieveL al9Y al9U false).isEmpty, al9Y.body.all (fun x => !(decide (x.k = 3)) || x.atom.args.isEmpty)) = (true, true, true, true) := by kernel_rfl
theorem al9_list : al9.toList = al9L := toList_mk _
theorem al9_un {S : List ByteArray} (h : BoundTo al9Y.body (posV al9Y.body) S) : sieveL al9Y S false = [] := by
  have hb := al9_bound
  simp only [Prod.mk.injEq] at hb
  obtain ⟨h1, h2, h3, h4⟩ := hb
  have hU : BoundTo al9Y.body (posV al9Y.body) al9U := by
    unfold al9U at h2 ⊢
    cases hz : al9Y.body[2]? with
    | none => rw [hz] at h1; cases h1
    | some z =>
      rw [hz] at h1 h2
      refine .step (List.mem_of_getElem? hz) h1 (.stop fun x hx => ?_)
      have := List.all_eq_true.1 h2 x hx
      simpa using this
  have hc : CmpBare al9Y.body := fun x hx hk => by
    have := List.all_eq_true.1 h4 x hx
    simp only [hk, decide_true, Bool.not_true, Bool.false_or, List.isEmpty_iff] at this
    exact this
  rw [sieveL_congr (bound_same hc (fun _ => Iff.rfl) h hU)]
  exact List.isEmpty_iff.1 h3
def Al9Post (y : GRule) (w : World) (e : Ending) (w' : World) : Prop := Below w.heap.size w w' ∧ ∃ (d : Nat) (a b : Hd) (at_ : Nat), e = .returned (.tuple #[.agg (ruleC y a b).toArray, .int .i64 at_, .nilIface]) ∧ RuleAt d w' w'.heap.size y a b
theorem al9_calls (w : World) (hW : ParW w) : Calls Tryz.prog 25 #[.string al9] w (Al9Post al9Y w) := by
  refine (readRule_any al9 (by decide) w hW).mono ?_
  rintro e w1 ⟨hb, d, a, b, rfl, ha⟩
  have hr := al9_read
  simp only [Prod.mk.injEq] at hr
  have h0 := hr.1
  rw [← al9_list] at h0
  have hy : al9Y = (readP al9.toList).1 := by rw [al9_list]; rfl
  refine ⟨hb, d, a, b, (readP al9.toList).2.1, ?_, ?_⟩
  · rw [h0, hy]; rfl
  · rw [hy]; exact ha.mono' (Nat.le_refl _) (kept_up _ _ _)
set_option maxRecDepth 100000 in
set_option maxHeartbeats 4000000 in
theorem alive9_any (w : World) (hW : ParW w) : Calls Tryz.prog 6 #[] w (RetBool true w) := by
  have HC := Lib.hid (al9_calls w hW)
  have hr := al9_read
  simp only [Prod.mk.injEq, decide_eq_true_eq] at hr
  obtain ⟨-, ho, hl, ht⟩ := hr
  unfold al9 at HC
  clear hW
  generalize hY : al9Y = y at HC
  rw [hY] at ho hl ht
  have HO := Lib.hid (fun (W : World) (d : Nat) (a b : Hd) (h : RuleAt d W W.heap.size y a b) => order_any h ht (by omega))
  have HU := Lib.hid (fun (W : World) (d : Nat) (a b : Hd) (h : RuleAt d W W.heap.size y a b) => unbound_any h ht (by omega))
  rw [ho] at HO
  have HUn : Hid (∀ S, BoundTo y.body (posV y.body) S → sieveL y S false = []) := fun S h => by rw [← hY] at h ⊢; exact al9_un h
  clear ho hl ht hY
  go_enter Tryz.func6, Tryz.ntmps6
  go_wp2_with fail
  refine HC.out.mono ?_
  rintro e w1 ⟨hb, d, a, b, at_, rfl, hra⟩
  obtain ⟨V, hV⟩ : ∃ V, V = w1.alloc (.cells (ruleC y a b).toArray 27) := ⟨_, rfl⟩
  have HVe := Lib.hid hV.symm
  have hr0 : V.heap[w1.heap.size]? = some (.cells (ruleC y a b).toArray 27 (0, 0)) := by rw [hV]; exact heapNew rfl
  have hbV : Below w1.heap.size w1 V := by rw [hV]; exact belowA (Below.refl _ _) _
  have hgl := (Array.getElem?_eq_some_iff.1 hr0).1
  have HRow : Hid (∀ W, Below V.heap.size V W → ∀ j v, (ruleC y a b)[j]? = some v → W.cell? ⟨w1.heap.size, 0 + j, none⟩ = some v) := fun W hW => row_cells ((hW.block _ hgl).trans hr0)
  have HRA : Hid (∀ W, Below V.heap.size V W → RuleAt d W W.heap.size y a b) := fun W hW => (hra.keep hbV).keep hW
  have K27 : Hid ((Tryz.prog.info? 27).map (·.size) = some (ruleC y a b).length) := by show _ = some 6; kernel_rfl
  have HbV : Hid (Below w.heap.size w V) := hb.trans (hbV.mono hb.size)
  have HO1 := Lib.hid (HO.out V d a b (HRA.out V (Below.refl _ _)))
  have HR0 := Lib.hid (HRow.out V (Below.refl _ _))
  clear hb hra hV hr0 hbV HC HO
  go_wp2_with (first
    | rw [HVe.out]
    | refine wpList_load_at w1.heap.size 0 (ruleC y a b) _ HR0.out Tryz.underlying27 rfl K27.out rfl rfl ?_)
  refine HO1.out.mono ?_
  rintro e w2 ⟨A1, c1, rfl, ho1, hb2⟩
  have hb3 : Below w2.heap.size w2 (w2.alloc (.cells #[.int .i64 1, .int .i64 2, .int .i64 0] 3)) := belowA (Below.refl _ _) _
  have hbV3 : Below V.heap.size V (w2.alloc (.cells #[.int .i64 1, .int .i64 2, .int .i64 0] 3)) := hb2.trans (hb3.mono hb2.size)
  have hq : SliceIs Enc.int (w2.alloc (.cells #[.int .i64 1, .int .i64 2, .int .i64 0] 3)) (w2.alloc (.cells #[.int .i64 1, .int .i64 2, .int .i64 0] 3)).heap.size (some ⟨w2.heap.size, 0, none⟩) 3 3 [1, 2, 0] :=
    SliceIs.of_block (fun n => [.int .i64 n]) (fun _ => rfl) (Go.heap_alloc_new w2 _) rfl (by simp [reachN]) (fun x hx => ⟨rfl, fits_sm (by simp at hx; omega)⟩)
  have hp : SliceIs Enc.int w2 w2.heap.size A1 3 c1 [1, 2, 0] := ints_is ho1 rfl (by omega) (fun k hk => fits_sm (by simp [intL] at hk; omega))
  have HI := Lib.hid (ints_eq _ _ _ _ _ _ _ _ (hp.keep hb3) hq)
  obtain ⟨W3, hW3⟩ : ∃ W3, W3 = w2.alloc (.cells #[.int .i64 1, .int .i64 2, .int .i64 0] 3) := ⟨_, rfl⟩
  have HW3 := Lib.hid hW3.symm
  rw [← hW3] at HI hbV3
  have HB3 := Lib.hid hbV3
  have i3 : ([1, 2, 0] : List Nat).length = 3 := rfl
  clear ho1 hb2 hb3 hbV3 hq hp HO1 hW3
  go_wp2_with (rw [HW3.out])
  refine HI.out.mono ?_
  rintro e w4 ⟨rfl, hb4⟩
  have hbV4 : Below V.heap.size V w4 := HB3.out.trans (hb4.mono HB3.out.size)
  have HR4 := Lib.hid (HRow.out w4 hbV4)
  have HU4 := Lib.hid (HU.out w4 d a b (HRA.out w4 hbV4))
  have HB4 := Lib.hid hbV4
  clear hb4 hbV4 HI HU
  go_wp2_with (refine wpList_load_at w1.heap.size 0 (ruleC y a b) _ HR4.out Tryz.underlying27 rfl K27.out rfl rfl ?_)
  refine HU4.out.mono ?_
  rintro e w5 ⟨S, A5, m5, c5, rfl, hbd5, hs5, hb5⟩
  obtain rfl : m5 = 0 := by have := hs5.1; rw [HUn.out S hbd5] at this; exact this.symm
  have HE : Hid (Below w.heap.size w w5) := HbV.out.trans ((HB4.out.trans (hb5.mono HB4.out.size)).mono HbV.out.size)
  clear hbd5 hs5 hb5 HU4
  go_wp2_with fail
  go_ret
  exact ⟨rfl, HE.out⟩
end Go.Proofs.YtfklheagafffmaaGreatDoor

namespace Go.Proofs.YtfklheagafffmaaGreatDoor
open Go.RowKit
abbrev zRuleC : List Value := ruleC ⟨⟨⟨#[]⟩, []⟩, 0, 0, [], 0⟩ ⟨none, 0, 0⟩ ⟨none, 0, 0⟩
theorem rule_oneS (x : GRule) (a b : Hd) : (ruleC x a b).toArray.all (·.oneCell') = true := by simp [Value.oneCell']
end Go.Proofs.YtfklheagafffmaaGreatDoor

namespace Go.Proofs.YtfklheagafffmaaGreatDoor
open Go.RowKit
theorem rrule_info : (Tryz.prog.info? 35).map (fun i => (i.zero, i.size)) = some (some (.agg zRuleC.toArray), zRuleC.toArray.size) := by kernel_rfl
theorem rrule_size (x : GRule) (a b : Hd) : (Tryz.prog.info? 35).map (·.size) = some (ruleC x a b).length := by
  show _ = some 6
  kernel_rfl
end Go.Proofs.YtfklheagafffmaaGreatDoor

namespace Go.Proofs.YtfklheagafffmaaGreatDoor
open Go.RowKit
section
variable {n l : Nat} {P : Program} {ops : Array Oper} {Q : Exit → Act → World → Prop} {md : Region.Mode}
def noDefer (ops : Array Oper) : Bool := ops.toList.all fun o => match o.op with | .defer _ => false | _ => true
theorem noDefer_at {i : Nat} {o : Oper} (h : noDefer ops = true) (ho : ops[i]? = some o) : ∀ c, o.op ≠ .defer c := fun c hc => by
  unfold noDefer at h
  rw [List.all_eq_true] at h
  have h1 := h o (by rw [← Array.getElem?_toList] at ho; exact List.mem_of_getElem? ho)
  rw [hc] at h1
  cases h1
theorem opIn_round {o : Oper} {a : Act} {w : World} {K : Act → World → Prop} (hd : ∀ c, o.op ≠ .defer c) (h : o.wpIn Fence.wide n P a w K Q) : o.wpIn (Fence.wide.inRound l) n P a w K Q := by
  unfold Oper.wpIn at h ⊢
  refine ⟨h.1, ?_⟩
  have h2 := h.2
  rw [Oper.semAt_plain _ _ _ hd] at h2 ⊢
  exact h2
theorem anyIn_round (hd : noDefer ops = true) : ∀ (fuel : Nat) (listed : Array Bool) (a : Act) (w : World), wpAnyIn Fence.wide n P md ops Q fuel listed a w → wpAnyIn (Fence.wide.inRound l) n P md ops Q fuel listed a w
  | 0, _, _, _, h => h
  | fuel + 1, listed, a, w, h => ⟨h.1, fun i hi => by
    have h1 := wpOpIn_mono (fun a' w' h' => anyIn_round hd fuel _ a' w' h') (h.2 i hi)
    unfold wpOpIn at h1 ⊢
    cases ho : ops[i]? with
    | none => rw [ho] at h1; exact h1
    | some o =>
      rw [ho] at h1
      dsimp only at h1 ⊢
      split
      · rename_i hw; rw [if_pos hw] at h1; exact opIn_round (noDefer_at hd ho) h1
      · rename_i hw; rw [if_neg hw] at h1; exact h1⟩
theorem region_post {F : Fence} {c : Code} {a : Act} {w : World} (Post : Act → Act → World → Prop) (h : c.wpIn F n P (fun e a' w' => e = .normal ∧ Post a a' w') a w) (h2 : ∀ a' w', Post a a' w' → Q .normal a' w') : c.wpIn F n P Q a w :=
  wpIn_mono h (fun e a' w' hp => by rw [hp.1]; exact h2 a' w' hp.2)
theorem region_round {id : Nat} {a : Act} {w : World} (Post : Act → Act → World → Prop) (hm : P.follows .mixedOrders = true) (hd : noDefer ops = true)
    (h : ∀ QQ : Exit → Act → World → Prop, (∀ c a' a'' w', QQ (.panic c) a' w' → QQ (.panic c) a'' w') → (∀ a' w', Post a a' w' → QQ .normal a' w') → wpAnyIn Fence.wide n P .any ops QQ ops.size (Array.replicate ops.size false) a w.drew)
    (h2 : ∀ a' w', Post a a' w' → Q .normal a' w') : (Code.region id ops true).wpIn (Fence.wide.inRound l) n P Q a w :=
  region_post Post (wpIn_region_any hm (anyIn_round hd _ _ _ _ (h _ (fun _ _ _ _ h => by cases h.1) (fun _ _ h => ⟨rfl, h⟩)))) h2
theorem opIn_app {F : Fence} {w w' : World} {o : Oper} {a : Act} {K : Act → World → Prop} {E : Prop} {v' : Value} (hg : o.guard = none) (s x : Operand) (t : TypeId)
    (ho : o.op = .call { callee := .builtin .append, args := #[s, x], argTypes := #[t, t] }) (v xv : Value) (hs : a.eval s = v) (hx : a.eval x = xv)
    (hrun : (Builtin.append_ #[t, t] o.type #[v, xv]).run P w = .ok v' w') (h : K (a.put o.dst v') w') :
    if Region.wanted o (yielded ops a.tmps) = true then Oper.wpIn F n P o a w K Q else E := by
  rw [if_pos (by simp [Region.wanted, hg])]
  unfold Oper.wpIn
  refine ⟨by simp [Oper.about, ho, resolve, Target.leads, Sem.run_pure], ?_⟩
  rw [Oper.semAt_plain F _ _ (by rw [ho]; intro c hc'; cases hc')]
  simp [execOp, ho, resolve, invoke, builtin, hs, hx, hrun, Result.andThen]
  exact h
end
end Go.Proofs.YtfklheagafffmaaGreatDoor
