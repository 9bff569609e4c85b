/- My own texts SfInt, TVars, SfSv, as far as this claim needs them. -/
import Derived.Test.YtfklheagafffmaaGreatDoorZs26
set_option linter.unusedVariables false
set_option linter.unusedSimpArgs false
set_option maxRecDepth 1000000
set_option maxHeartbeats 16000000
namespace Go.Proofs.YtfklheagafffmaaGreatDoor
open Go.RowKit Go.Shelf
attribute [local go_sem] Oper.semAt_some
theorem wpListIn_load_at {F : Fence} {n : Nat} {P : Program} {ops : Array Oper} {rest : List Oper} {a : Act} {w : World} {Q : Exit → Act → World → Prop} {dst : Option Tmp} {ty : TypeId} {x : Operand} {tt : TypeId} {ps : String} {af : Array Edge}
    (g off : Nat) (cs : List Value) (d : TypeDesc) (hc : ∀ j v, cs[j]? = some v → w.cell? ⟨g, off + j, none⟩ = some v)
    (hu : P.underlying ty = some d) (hd : (match d with | .struct _ | .array _ _ => true | _ => false) = true) (hi : (P.info? ty).map (·.size) = some cs.length)
    (hx : a.eval x = .pointer (some ⟨g, off, none⟩))
    (h : wpListIn F n P ops Q rest (a.put dst (.agg cs.toArray)) w) : wpListIn F n P ops Q (Oper.mk dst (.load ty x) tt ps af none :: rest) a w := by
  refine wpListIn_plain rfl fun K hK' => ?_
  unfold Oper.wpIn
  refine ⟨?_, ?_⟩
  · simp [Oper.about]
  · rw [Oper.semAt_plain F _ _ (by intro c hc'; cases hc')]
    simp [execOp, hx, Instr.loadAt, Instr.sureAddr, run_loadVar_cells w g off ty cs d hc hu hd hi, Result.andThen]
    exact hK' _ _ h
def intC (x : Int) : List Value := [.int .i64 x]
theorem int_push {W : World} {base : Nat} {A : Option Addr} {c k : Nat} {xs : List Int} (hown : W.ownsRow base 3 1 (.slice A k c) k (xs.flatMap intC)) (q : Int) (hn : k + 1 ≤ 1000000) (hb : base ≤ W.heap.size) :
    ∃ A' c' w', (∀ ty, (Builtin.append_ #[37, 37] ty #[.slice A k c, .slice (some ⟨W.heap.size, 0, none⟩) 1 1]).run Tryz.prog (W.alloc (.cells #[.int .i64 q] 3)) = .ok (.slice A' (k + 1) c') w') ∧
      w'.ownsRow base 3 1 (.slice A' (k + 1) c') (k + 1) ((xs ++ [q]).flatMap intC) ∧ Out (Value.slice A k c).ownBlock.toList W w' ∧ Below base W w' := by
  have ho : (W.alloc (.cells #[.int .i64 q] 3)).ownsRow base 3 1 (.slice A k c) k (xs.flatMap intC) := own_below hown (belowA (Below.refl _ _) _)
  obtain ⟨v', w', h1, h2, h3, h4⟩ := run_push_at (P := Tryz.prog) (ty := 37) (W.alloc (.cells #[.int .i64 q] 3)) (base := base) Tryz.underlying37 int_infoD rfl (by decide) ho W.heap.size (intC q) rfl (heapNew rfl) (by intro u hu; simp [intC] at hu; subst hu; rfl)
    (by simp [maxLen]; omega) (by omega) (by simp; omega)
  obtain ⟨A', c', rfl⟩ := own_form h2
  refine ⟨A', c', w', fun _ => h1, ?_, ?_, ?_⟩
  · rw [List.flatMap_append]; simpa using h2
  · have h5 := (Out.of_below (belowA (Below.refl W.heap.size W) (.cells #[.int .i64 q] 3)) (Value.slice A k c).ownBlock.toList)
    exact h5.trans (grown_out h3) (fun b hb _ => hb)
  · exact ((Below.refl base W).alloc hb _).trans h4
theorem own_same {w w' : World} {base e sz : Nat} {v : Value} {n : Nat} {xs : List Value} (h : w.ownsRow base e sz v n xs) (hs : ∀ b, v.ownBlock = some b → w'.heap[b]? = w.heap[b]?) : w'.ownsRow base e sz v n xs := by
  refine ⟨h.1, ?_⟩
  rcases h.2 with hn | ⟨g, cap, cur, rfl, hg, hh, r⟩
  · exact .inl hn
  · exact .inr ⟨g, cap, cur, rfl, hg, (hs g rfl).trans hh, r⟩
theorem own_lift {w : World} {base base' e sz : Nat} {v : Value} {n : Nat} {xs : List Value} (h : w.ownsRow base e sz v n xs) (hs : ∀ b, v.ownBlock = some b → base' ≤ b) : w.ownsRow base' e sz v n xs := by
  refine ⟨h.1, ?_⟩
  rcases h.2 with hn | ⟨g, cap, cur, rfl, hg, hh, r⟩
  · exact .inl hn
  · exact .inr ⟨g, cap, cur, rfl, hs g rfl, hh, r⟩
theorem own_sansS {w : World} {S : List Nat} {base e sz : Nat} {v : Value} {n : Nat} {xs : List Value} (h : w.ownsRow base e sz v n xs) (hS : ∀ b ∈ S, b < base) : (sans w S).ownsRow base e sz v n xs := by
  refine ⟨h.1, ?_⟩
  rcases h.2 with hn | ⟨g, cap, cur, rfl, hg, hh, r⟩
  · exact .inl hn
  · exact .inr ⟨g, cap, cur, rfl, hg, (sans_out (fun hs => by have := hS g hs; omega)).trans hh, r⟩
theorem own_farS {w : World} {base : Nat} {A : Option Addr} {n c : Nat} {l : List ByteArray} (h : w.ownsRow base 9 1 (.slice A n c) n (l.flatMap strC)) (hl : l.length = n) (hn : n ≤ 1000000) (hok : ∀ s ∈ l, s.size ≤ reachN) : SliceFar Enc.str w (List.range base) A n c l := by
  have h2 := own_sansS (S := List.range base) h (fun b hb' => by have := List.mem_range.1 hb'; omega)
  have h3 := SliceIs.of_flat (E := Enc.str) strC (fun _ => rfl) h2 hl (by simp [reachN]; omega) (fun q hq => ⟨rfl, hok q hq⟩)
  rw [sans_size] at h3
  exact h3
theorem ints_is {w : World} {base : Nat} {A : Option Addr} {n c : Nat} {l : List Int} (h : w.ownsRow base 3 1 (.slice A n c) n (l.flatMap intC)) (hl : l.length = n) (hn : n ≤ 1000000) (hok : ∀ k ∈ l, fits k) : SliceIs Enc.int w w.heap.size A n c l :=
  SliceIs.of_flat (E := Enc.int) intC (fun _ => rfl) h hl (by simp [reachN]; omega) (fun q hq => ⟨rfl, hok q hq⟩)
theorem SliceFar.one {α : Type} {E : Enc α} {w : World} {n g : Nat} {A : Option Addr} {k c : Nat} {l : List α} (h : SliceFar E w (List.range n) A k c l) (hg : g < n) : SliceFar E w [g] A k c l :=
  h.out (S := []) (Out.refl _ _) (fun b hb _ => by cases hb) (fun b hb _ => by simp at hb; subst hb; exact List.mem_range.2 hg)
def valsK (L : List Nat) : List Value := (intL L).flatMap intC
theorem valsK_eq (L : List Nat) : valsK L = L.map (fun k : Nat => Value.int .i64 (k : Int)) := by
  unfold valsK intL
  induction L with
  | nil => rfl
  | cons a r ih => simp only [List.map_cons, List.flatMap_cons, ih]; rfl
theorem valsK_cut (L : List Nat) (j : Nat) : (valsK L).take j ++ (valsK L).drop (j + 1) = valsK (L.eraseIdx j) := by
  rw [valsK_eq, valsK_eq, ← List.map_take, ← List.map_drop, ← List.map_append, List.eraseIdx_eq_take_drop_succ]
theorem valsK_one (L : List Nat) : ∀ u ∈ valsK L, u.oneCell' = true := by
  intro u hu; rw [valsK_eq] at hu; obtain ⟨k, -, rfl⟩ := List.mem_map.1 hu; rfl
theorem valsK_range (k : Nat) : valsK (List.range (k + 1)) = ((intL (List.range k)) ++ [(k : Int)]).flatMap intC := by
  unfold valsK intL
  rw [List.range_succ, List.map_append]; rfl
theorem fits_sm {x : Int} (h : 0 ≤ x ∧ x < 1000000) : fits x := by
  show (Lit.int .i64 x).wf = true
  simp [Lit.wf, IntKind.min, IntKind.max, IntKind.signed, IntKind.bits]; omega
theorem intL_fits {L : List Nat} {n : Nat} (h : ∀ k ∈ L, k < n) (hn : n ≤ 100000) : ∀ q ∈ intL L, fits q := by
  intro q hq
  obtain ⟨k, hk, rfl⟩ := List.mem_map.1 hq
  have := h k hk
  show fits ((k : Nat) : Int)
  exact fits_sm (by omega)
theorem orderF_none {body : List GLit} {f : Nat} {S : List ByteArray} {L : List Nat} (h : nextK body S L = none) : orderF body f S L = [] := by
  cases f with
  | zero => rfl
  | succ f => rw [orderF, h]
theorem orderF_some {body : List GLit} {f : Nat} {S : List ByteArray} {L : List Nat} {k : Nat} (h : nextK body S L = some k) : orderF body (f + 1) S L = (k, S ++ litVars body k) :: orderF body f (S ++ litVars body k) (L.erase k) := by
  rw [orderF, h]
theorem litVars_at {body : List GLit} {k : Nat} {y : GLit} (h : body[k]? = some y) : litVars body k = varsL y := by unfold litVars; rw [h]
def RestK (body : List GLit) (done : Nat) (S : List ByteArray) (L : List Nat) : Prop := (orderS body).drop done = orderF body L.length S L
theorem RestK.start (body : List GLit) : RestK body 0 [] (List.range body.length) := by
  unfold RestK orderS; rw [List.drop_zero, List.length_range]
theorem RestK.step {body : List GLit} {done : Nat} {S : List ByteArray} {L : List Nat} {k j : Nat} (h : RestK body done S L) (hn : nextK body S L = some k) (hj : L[j]? = some k) (he : L.erase k = L.eraseIdx j) :
    (orderS body)[done]? = some (k, S ++ litVars body k) ∧ RestK body (done + 1) (S ++ litVars body k) (L.eraseIdx j) := by
  have hjl := (List.getElem?_eq_some_iff.1 hj).1
  have hl : L.length = (L.eraseIdx j).length + 1 := by rw [List.length_eraseIdx, if_pos hjl]; omega
  unfold RestK at h ⊢
  rw [hl, orderF_some hn, he] at h
  constructor
  · have h1 := congrArg (fun l => l[0]?) h
    simp only [List.getElem?_drop, List.getElem?_cons_zero, Nat.add_zero] at h1
    exact h1
  · have h1 := congrArg (List.drop 1) h
    rw [List.drop_drop] at h1
    simpa using h1
theorem RestK.stop {body : List GLit} {done : Nat} {S : List ByteArray} {L : List Nat} (h : RestK body done S L) (hn : nextK body S L = none) : (orderS body).length ≤ done := by
  unfold RestK at h
  rw [orderF_none hn] at h
  exact List.drop_eq_nil_iff.1 h
theorem fst_step {l : List (Nat × List ByteArray)} {P : List Nat} {k : Nat} {S : List ByteArray} (h : P = (l.map Prod.fst).take P.length) (hk : l[P.length]? = some (k, S)) : P ++ [k] = (l.map Prod.fst).take (P.length + 1) := by
  rw [List.take_add_one, List.getElem?_map, hk, ← h]; rfl
theorem fst_stop {l : List (Nat × List ByteArray)} {P : List Nat} (h : P = (l.map Prod.fst).take P.length) (hl : l.length ≤ P.length) : P = l.map Prod.fst := by
  rw [List.take_of_length_le (by simpa using hl)] at h; exact h
end Go.Proofs.YtfklheagafffmaaGreatDoor

namespace Go.Proofs.YtfklheagafffmaaGreatDoor
open Go.RowKit
theorem rule_ok {d : Nat} {w : World} {B : Nat} {x : GRule} {a b : Hd} (h : RuleAt d w B x a b) : ∀ t ∈ ruleT x, t.x.size ≤ reachN ∧ t.v.ok := by
  intro t ht
  unfold ruleT at ht
  rcases List.mem_append.1 ht with ht | ht
  · exact told_ok h.args t ht
  · obtain ⟨y, hy, hty⟩ := List.mem_flatMap.1 ht
    obtain ⟨i, hi⟩ := List.mem_iff_getElem?.1 hy
    have hil : i < b.n := by rw [← h.body.1]; exact (List.getElem?_eq_some_iff.1 hi).1
    obtain ⟨bb, o, y', a', p', q', -, -, hy', hl, -⟩ := h.body.lit_at hil
    have e1 : y' = y := by have := hy'.out; rw [hi] at this; injection this with this; exact this.symm
    subst e1
    exact inside_ok hl t hty
theorem flatMap_take {α β : Type} {l : List α} {f : α → List β} {k : Nat} {y : α} (hx : l[k]? = some y) : (l.take (k + 1)).flatMap f = (l.take k).flatMap f ++ f y := by
  rw [List.take_add_one, hx]; simp
theorem flatMap_len {α β : Type} (l : List α) (f : α → List β) (k : Nat) : ((l.take k).flatMap f).length ≤ (l.flatMap f).length := by
  have : l.flatMap f = (l.take k).flatMap f ++ (l.drop k).flatMap f := by rw [← List.flatMap_append, List.take_append_drop]
  rw [this]; simp only [List.length_append]; omega
theorem vars_any (d : Nat) (x : GRule) (a b : Hd) (w : World) (hx : RuleAt d w w.heap.size x a b) (hsz : (ruleT x).length ≤ 1500) :
    Calls Tryz.prog 19 #[.agg (ruleC x a b).toArray] w (TextsPost (putL [] (ruleT x)) w) := by
  have HX := Lib.hid hx
  have Hsz := Lib.hid hsz
  have Hok := Lib.hid (rule_ok hx)
  have hn := hx.body.bound
  have hsa : x.head.args.length ≤ 1500 := by unfold ruleT at hsz; simp only [List.length_append] at hsz; omega
  have hsb : (x.body.flatMap insideL).length ≤ 1500 := by unfold ruleT at hsz; simp only [List.length_append] at hsz; omega
  have hal := hx.args.1
  have Hlen := Lib.hid hx.body.1
  obtain ⟨P, HP⟩ : ∃ P : Ending → World → Prop, Hid (P = TextsPost (putL [] (ruleT x)) w) := ⟨_, rfl⟩
  rw [← HP.out]
  have hrb : (w.alloc (.cells (ruleC x a b).toArray 27)).heap[w.heap.size]? = some (.cells (ruleC x a b).toArray 27 (0, 0)) := heapNew rfl
  obtain ⟨b0, b1, b2, b3, b4, b5⟩ := facts6 hrb
  have hbw : Below w.heap.size w (w.alloc (.cells (ruleC x a b).toArray 27)) := belowA (Below.refl _ _) _
  have hz1 : (w.alloc (.cells (ruleC x a b).toArray 27)).heap.size = w.heap.size + 1 := by simp
  have HC := Lib.hid (put_any (w.heap.size + 1) none 0 0 [] a.A a.n a.c x.head.args (w.alloc (.cells (ruleC x a b).toArray 27)) (by omega) rfl (World.ownsRow_nil _ _ _ _) (fun _ h => by cases h) (fun W hk hb => HX.out.args.keep (hbw.trans (hb.mono (by omega)))) (by omega))
  clear hx hsz hal
  go_enter Tryz.func19, Tryz.ntmps19
  go_wp2_with fail
  refine HC.out.mono ?_
  rintro e w1 ⟨A1, c1, rfl, ho1, -, hb1⟩
  have hbw1 : Below w.heap.size w w1 := hbw.trans (hb1.mono (by omega))
  have hbs := hb1.size
  rw [hz1] at hbs
  have hrb1 := (hb1.block w.heap.size (by omega)).trans hrb
  obtain ⟨c0, c1', c2, c3, c4, c5⟩ := facts6 hrb1
  have hl0 := putL_len x.head.args []
  obtain ⟨L0, HL0⟩ : ∃ L0, Hid (putL [] x.head.args = L0) := ⟨_, rfl⟩
  rw [HL0.out] at ho1 hl0
  rw [HL0.out]
  have Ho1 := Lib.hid ho1
  have HM0 : Hid (L0.length = L0.length) := rfl
  obtain ⟨m0, Hm0⟩ : ∃ m0, Hid (L0.length = m0) := ⟨_, rfl⟩
  rw [Hm0.out] at Ho1 hl0
  rw [Hm0.out]
  have HT0 : Hid (putL [] (x.head.args ++ (x.body.take 0).flatMap insideL) = L0) := by show _ = _; simpa using HL0.out
  simp only [List.length_nil, Nat.zero_add] at hl0
  clear ho1 HM0 hbw hb1 hrb hrb1 HC hz1 HL0 b0 b1 b2 b3 b4 b5
  go_wp2_with fail
  go_loopw [3, 5, 13] (fun v _ i wr => ∃ (k m c' : Nat) (A' : Option Addr) (L : List ByteArray), k ≤ b.n ∧ i = .int .i64 k ∧ v = .slice A' m c' ∧ Hid (putL [] (x.head.args ++ (x.body.take k).flatMap insideL) = L) ∧ m ≤ 1500 ∧ Hid (L.length = m) ∧ Hid (wr.ownsRow (w.heap.size + 1) 9 1 (.slice A' m c') m (L.flatMap strC)) ∧ Below w.heap.size w wr ∧ w.heap.size + 1 ≤ wr.heap.size) (fun _ _ i _ => b.n - (intOf i).toNat)
  case atStart => exact ⟨0, m0, c1, A1, L0, by omega, rfl, rfl, HT0, by omega, Hm0, Ho1, hbw1, by omega⟩
  case round =>
    obtain ⟨k, m, c', A', L, hk, rfl, rfl, hL, hm, HLm, HO, hbr, hzr⟩ := hrel
    have i0 : (0 : Int) ≤ (k : Int) := by omega
    by_cases hlt : k < b.n
    · have i1 : (k : Int) < (b.n : Int) := by omega
      obtain ⟨bb, o, y, a', p', q', hA, hbb, hy, hly, Hr⟩ := (HX.out.keep hbr).body.lit_range hlt
      have hbx : Below wr.heap.size wr (wr.alloc (.cells (litC y a' p' q').toArray 70)) := belowA (Below.refl _ _) _
      have hzx : (wr.alloc (.cells (litC y a' p' q').toArray 70)).heap.size = wr.heap.size + 1 := by simp
      have hyl : (insideL y).length ≤ 1500 := by
        have h1 := flatMap_len x.body insideL (k + 1)
        rw [flatMap_take hy.out] at h1
        simp only [List.length_append] at h1
        omega
      have hmk : (putL [] (x.head.args ++ (x.body.take (k + 1)).flatMap insideL)).length ≤ 1500 := by
        have h1 := flatMap_len x.body insideL (k + 1)
        have h2 := putL_len (x.head.args ++ (x.body.take (k + 1)).flatMap insideL) []
        have h3 := Hsz.out
        unfold ruleT at h3
        simp only [List.length_append, List.length_nil] at h2 h3
        omega
      have HT : Hid (putL [] (x.head.args ++ (x.body.take (k + 1)).flatMap insideL) = putL L (insideL y)) := by
        show _ = _
        rw [flatMap_take hy.out, ← List.append_assoc, putL_app, hL.out]
      rw [HT.out] at hmk
      have HLs : Hid (∀ s ∈ L, s.size ≤ reachN) := fun s h => by
        rw [← hL.out] at h
        rcases putL_mem h with h | ⟨t, ht, e⟩
        · cases h
        · refine e ▸ (Hok.out t ?_).1
          unfold ruleT
          rcases List.mem_append.1 ht with ht | ht
          · exact List.mem_append_left _ ht
          · obtain ⟨z, hz, hzt⟩ := List.mem_flatMap.1 ht
            exact List.mem_append_right _ (List.mem_flatMap.2 ⟨z, List.mem_of_mem_take hz, hzt⟩)
      have Hly := Lib.hid (inside_ok hly)
      have HI := Lib.hid (insideT_any d y a' p' q' _ (hly.keep hbx) hyl)
      have hbx' : Below (w.heap.size + 1) wr (wr.alloc (.cells (litC y a' p' q').toArray 70)) := hbx.mono (by omega)
      have Hbx := Lib.hid hbx
      clear hL hly hy hbx
      have hbv : b.v = .slice (some ⟨bb, o, none⟩) b.n b.c := by unfold Hd.v; rw [hA]
      rw [hbv]
      have hrn : (wr.alloc (.cells (litC y a' p' q').toArray 70)).heap[wr.heap.size]? = some (.cells (litC y a' p' q').toArray 70 (0, 0)) := heapNew rfl
      have HRn := Lib.hid (range_row hrn)
      clear hrn
      go_wp2_with (first
        | refine wpList_load_mid rfl 70 (.tmp 15) rfl bb (o + k * 17) rfl (litC y a' p' q') _ Hr.out Tryz.underlying70 rfl (lit_size y a' p' q') ?_
        | refine wpList_new rfl rfl 70 5 (.tmp 16) rfl rfl rfl rfl _ (litC y a' p' q').toArray lit_info rfl (lit_one y a' p' q') rfl rfl ?_
        | refine wpList_load_mid rfl 70 (.tmp 5) rfl wr.heap.size 0 rfl (litC y a' p' q') _ HRn.out Tryz.underlying70 rfl (lit_size y a' p' q') ?_)
      refine HI.out.mono ?_
      rintro e w2 ⟨A2, c2', rfl, ho2, hb2⟩
      have hz2 := hb2.size
      have hbn : Below wr.heap.size wr w2 := below_next Hbx.out hb2
      have HP2 := Lib.hid (put_any (w.heap.size + 1) A' c' m L A2 (insideL y).length c2' (insideL y) w2 (by omega) HLm.out (own_below HO.out hbn) HLs.out (fun W hk hb => told_own (own_keepT ho2 hk (by decide)) rfl (by omega) Hly.out) (by omega))
      have HbN := Lib.hid hbn
      have hbw2 : Below w.heap.size w w2 := below_next hbr hbn
      clear ho2 hb2 HI hbn hbx'
      go_wp2_with fail
      refine HP2.out.mono ?_
      rintro e w3 ⟨A3, c3', rfl, ho3, -, hb3⟩
      have hz3 := hb3.size
      have hbw3 : Below w.heap.size w w3 := hbw2.trans (hb3.mono (by omega))
      obtain ⟨m3, Hm3⟩ : ∃ m3, Hid ((putL L (insideL y)).length = m3) := ⟨_, rfl⟩
      rw [Hm3.out] at ho3 hmk
      rw [Hm3.out]
      have HO3 := Lib.hid ho3
      clear ho3 hb3 HP2 hbw2
      go_wp2_with fail
      go_roundw
      case rel => exact ⟨k + 1, m3, c3', A3, _, by omega, by go_num, rfl, HT, by omega, Hm3, HO3, hbw3, by omega⟩
      case measure => simp [intOf]; omega
    · have i1 : ¬ (k : Int) < (b.n : Int) := by omega
      have e : putL [] (ruleT x) = L := by
        rw [← hL.out, List.take_of_length_le (by have := Hlen.out; omega)]; rfl
      have hPP : Hid (P (.returned (.slice A' m c')) wr) := by
        show P _ _
        rw [HP.out, e]
        exact ⟨A', c', by rw [HLm.out], by rw [HLm.out]; exact own_down HO.out (by omega), hbr⟩
      clear HP e
      go_wp2_with fail
      exact hPP.out
end Go.Proofs.YtfklheagafffmaaGreatDoor

namespace Go.Proofs.YtfklheagafffmaaGreatDoor
open Go.RowKit
theorem below_setCellsS (B g : Nat) (hg : B ≤ g) : ∀ (vs : List Value) (o : Nat) (w : World), Below B w (w.setCells g o vs)
  | [], _, _ => Below.refl _ _
  | v :: vs, o, w => ((Below.refl B w).setCell (p := ⟨g, o, none⟩) hg v).trans (below_setCellsS B g hg vs (o + 1) _)
theorem flat_strS (L : List ByteArray) : L.flatMap strC = L.map Value.string := by
  induction L with
  | nil => rfl
  | cons a l ih => simp only [List.flatMap_cons, List.map_cons, ih]; rfl
def staysB (p : ByteArray → Bool) (L : List ByteArray) : List ByteArray := L.filter fun s => !p s
theorem staysB_take {p : ByteArray → Bool} {L : List ByteArray} {k : Nat} {x : ByteArray} (hx : L[k]? = some x) : staysB p (L.take (k + 1)) = if p x = true then staysB p (L.take k) else staysB p (L.take k) ++ [x] := by
  unfold staysB
  rw [List.take_add_one, hx]
  by_cases h : p x = true <;> simp [h]
theorem staysB_all {p : ByteArray → Bool} {L : List ByteArray} (h : ∀ y ∈ L, p y = false) : staysB p L = L := by
  unfold staysB; rw [List.filter_eq_self]; intro a ha; simpa using h a ha
def FirstB (p : ByteArray → Bool) (L : List ByteArray) (w : World) (e : Ending) (w' : World) : Prop :=
  Below w.heap.size w w' ∧ ((e = .returned (.int .i64 (-1)) ∧ ∀ x ∈ L, p x = false) ∨ ∃ (k : Nat) (x : ByteArray), e = .returned (.int .i64 (k : Int)) ∧ L[k]? = some x ∧ p x = true ∧ ∀ y ∈ L.take k, p y = false)
theorem indexB_any {gf : Nat} {bs lb : Array Value} (eg : ∀ args w, (callFunc gf args).run Tryz.prog w = .ok (.enter gf args) w) (p : ByteArray → Bool) (A : Option Addr) (n c : Nat) (L : List ByteArray) (w : World) (hl : SliceIs Enc.str w w.heap.size A n c L)
    (hC : ∀ x ∈ L, ∀ W, Below w.heap.size w W → Calls Tryz.prog gf (bs.push (.string x) ++ lb) W (RetBool (p x) W)) :
    Calls Tryz.prog 91 #[.slice A n c, .func (.func gf) bs lb] w (FirstB p L w) := by
  have hn := hl.bound
  have HLen := Lib.hid hl.1
  have HC := Lib.hid hC
  have HL := Lib.hid hl
  clear hC hl
  go_enter Tryz.func91, Tryz.ntmps91
  go_wp2_with fail
  go_loopw [5, 8] (fun _ i wr => ∃ k : Nat, k ≤ n ∧ i = .int .i64 (k : Int) ∧ Hid (∀ y ∈ L.take k, p y = false) ∧ Hid (Below w.heap.size w wr)) (fun _ i _ => n - (intOf i).toNat)
  case atStart => exact ⟨0, by omega, rfl, (fun y hy => by simp at hy), Below.refl _ _⟩
  case round =>
    obtain ⟨k, hk, rfl, Hp, HB⟩ := hrel
    have i0 : (0 : Int) ≤ (k : Int) := by omega
    by_cases hlt : k < n
    · have i1 : (k : Int) < (n : Int) := by omega
      obtain ⟨b, o, x, rfl, -, HX, x0, -⟩ := (HL.out.mono HB.out.size HB.out.block).str_at hlt
      have HCx := Lib.hid (HC.out x (List.mem_of_getElem? HX.out) wr HB.out)
      go_wp2_with fail
      refine HCx.out.mono ?_
      rintro e w2 ⟨rfl, hb2⟩
      have HB2 : Hid (Below w.heap.size w w2) := HB.out.trans (hb2.mono HB.out.size)
      clear hb2
      cases hm : p x with
      | true =>
        have HE2 : Hid (FirstB p L w (.returned (.int .i64 (k : Int))) w2) := ⟨HB2.out, .inr ⟨k, x, rfl, HX.out, hm, Hp.out⟩⟩
        clear hm
        go_wp2_with fail
        go_ret
        exact HE2.out
      | false =>
        have Hp2 : Hid (∀ y ∈ L.take (k + 1), p y = false) := fun y hy => by
          rw [List.take_add_one, HX.out] at hy
          rcases List.mem_append.1 hy with hy | hy
          · exact Hp.out y hy
          · simp at hy; subst hy; exact hm
        clear hm
        go_wp2_with fail
        go_roundw
        case rel => exact ⟨k + 1, by omega, by go_num, Hp2, HB2⟩
        case measure => simp [intOf]; omega
    · have i1 : ¬ (k : Int) < (n : Int) := by omega
      have HE : Hid (FirstB p L w (.returned (.int .i64 (-1))) wr) := ⟨HB.out, .inl ⟨rfl, fun x hx => Hp.out x (by rw [List.take_of_length_le (by have := HLen.out; omega)]; exact hx)⟩⟩
      go_wp2_with fail
      go_ret
      exact HE.out
structure RewB (p : ByteArray → Bool) (L : List ByteArray) (g cap i j : Nat) (R : List Value) (w : World) : Prop where
  heap : w.heap[g]? = some (.cells R.toArray 9 (0, 0))
  size : R.length = cap
  kept : R.take i = (staysB p (L.take j)).map Value.string
  num : (staysB p (L.take j)).length = i
  high : ∀ t x, j ≤ t → L[t]? = some x → R[t]? = some (.string x)
  lt : i < j
section
variable {p : ByteArray → Bool} {L : List ByteArray} {g cap i j t : Nat} {R : List Value} {w w' : World}
theorem RewB.cell (h : RewB p L g cap i j R w) {v : Value} (hv : R[t]? = some v) : w.cell? ⟨g, t, none⟩ = some v := by
  rw [cell_of_row _ _ t _ _ _ h.heap]; simpa using hv
theorem RewB.frozen (h : RewB p L g cap i j R w) : w.frozen? ⟨g, t, none⟩ = false := by
  simp [World.frozen?, h.heap]
theorem RewB.on (h : RewB p L g cap i j R w) (hb : Below w.heap.size w w') : RewB p L g cap i j R w' :=
  ⟨(hb.block _ (Array.getElem?_eq_some_iff.1 h.heap).1).trans h.heap, h.size, h.kept, h.num, h.high, h.lt⟩
theorem RewB.skip (h : RewB p L g cap i j R w) {x : ByteArray} (hx : L[j]? = some x) (hm : p x = true) : RewB p L g cap i (j + 1) R w :=
  ⟨h.heap, h.size, by rw [staysB_take hx, if_pos hm]; exact h.kept, by rw [staysB_take hx, if_pos hm]; exact h.num, fun t y ht hy => h.high t y (by omega) hy, by have := h.lt; omega⟩
theorem RewB.keep (h : RewB p L g cap i j R w) {x : ByteArray} (hx : L[j]? = some x) (hm : ¬ p x = true) (hi : i < cap) : RewB p L g cap (i + 1) (j + 1) (R.set i (.string x)) (w.setCell ⟨g, i, none⟩ (.string x)) := by
  have hlt := h.lt
  have hs := h.size
  refine ⟨by simp [World.setCell, Array.getElem?_modify, h.heap], by simpa using hs, ?_, by rw [staysB_take hx, if_neg hm]; simp [h.num], fun t y ht hy => ?_, by omega⟩
  · rw [staysB_take hx, if_neg hm, List.map_append, ← h.kept, List.take_add_one]
    rw [List.take_set_of_le (by omega), List.getElem?_set_self (by omega)]
    rfl
  · rw [List.getElem?_set_ne (by omega)]
    exact h.high t y (by omega) hy
end
def StayPost (B : Nat) (p : ByteArray → Bool) (L : List ByteArray) (w : World) (e : Ending) (w' : World) : Prop :=
  ∃ A' m c', e = .returned (.slice A' m c') ∧ SliceIs Enc.str w' w'.heap.size A' m c' (staysB p L) ∧ Below B w w'
theorem deleteB_any {gf : Nat} {bs lb : Array Value} (eg : ∀ args w, (callFunc gf args).run Tryz.prog w = .ok (.enter gf args) w) (B : Nat) (p : ByteArray → Bool) (A : Option Addr) (n c : Nat) (L : List ByteArray) (w : World) (hB : B ≤ w.heap.size)
    (hl : SliceIs Enc.str w w.heap.size A n c L) (hown : w.ownsRow B 9 1 (.slice A n c) n (L.flatMap strC)) (hn2 : n ≤ 100000)
    (hC : ∀ x ∈ L, ∀ W, Below B w W → Calls Tryz.prog gf (bs.push (.string x) ++ lb) W (RetBool (p x) W)) :
    Calls Tryz.prog 62 #[.slice A n c, .func (.func gf) bs lb] w (StayPost B p L w) := by
  have hlen := Lib.hid hl.1
  have HI := Lib.hid (indexB_any (bs := bs) (lb := lb) eg p A n c L w hl (fun x hx W hW => hC x hx W (hW.mono hB)))
  have HC := Lib.hid hC
  have HL := Lib.hid hl
  have Hown := Lib.hid hown
  have Hsz : Hid (∀ s ∈ L, s.size ≤ reachN) := fun s hs => by
    obtain ⟨i, hi, rfl⟩ := List.mem_iff_getElem.1 hs
    obtain ⟨b, o, x, _, _, hx, _, hz⟩ := hl.str_at (i := i) (by rw [← hl.1]; exact hi)
    have e : L[i] = x := by have := hx.out; rw [List.getElem?_eq_getElem hi] at this; simpa using this
    rw [e]; exact hz
  clear hC hl hown
  go_enter Tryz.func62, Tryz.ntmps62
  go_wp2_with fail
  refine HI.out.mono ?_
  rintro e w1 ⟨hb1, (⟨rfl, hall⟩ | ⟨k, x, rfl, hx, hxv, hbef⟩)⟩
  · have HE : Hid (StayPost B p L w (.returned (.slice A n c)) w1) := ⟨A, n, c, rfl, by rw [staysB_all hall]; exact HL.out.keep hb1, hb1.mono hB⟩
    clear hall hb1
    go_wp2_with fail
    go_ret
    exact HE.out
  · have hkn : k < n := by have := (List.getElem?_eq_some_iff.1 hx).1; have := hlen.out; omega
    have hk1 : ((k : Int) == -1) = false := beq_eq_false_iff_ne.2 (by omega)
    obtain ⟨hz, hrow⟩ := Hown.out
    rcases hrow with ⟨hv, h0⟩ | ⟨gr, cap, cur, hv, hg, hh, hnc, hcm, hcs, htk⟩
    · omega
    · simp only [Value.slice.injEq] at hv
      obtain ⟨rfl, -, rfl⟩ := hv
      have hR : RewB p L gr c k (k + 1) cur.toList w1 := by
        have hkeep : staysB p (L.take k) = L.take k := staysB_all hbef
        have hL := hlen.out
        rw [flat_strS] at htk
        have hlk : (L.take k).length = k := by simp; omega
        refine ⟨by simpa using (hb1.block _ (Array.getElem?_eq_some_iff.1 hh).1).trans hh, by simpa using hcs, ?_, ?_, fun t y ht hy => ?_, by omega⟩
        · rw [staysB_take hx, if_pos hxv, hkeep, List.map_take, ← htk, List.take_take]
          congr 1; omega
        · rw [staysB_take hx, if_pos hxv, hkeep, hlk]
        · have ht : t < n := by have := (List.getElem?_eq_some_iff.1 hy).1; omega
          have e2 : (cur.toList.take (n * 1))[t]? = (L.map Value.string)[t]? := by rw [htk]
          rw [List.getElem?_take_of_lt (by omega), List.getElem?_map, hy] at e2
          exact e2
      have HR := Lib.hid hR
      have HB1 : Hid (Below B w w1) := hb1.mono hB
      clear hR hx hxv hbef htk hz hb1 hh
      go_wp2_with fail
      go_loopw [5, 6, 7] (fun vi vj _ wr => ∃ (i j : Nat) (R : List Value), vi = .int .i64 (i : Int) ∧ vj = .int .i64 (j : Int) ∧ j ≤ n ∧ Hid (RewB p L gr c i j R wr) ∧ Hid (Below B w wr)) (fun _ vj _ _ => n - (intOf vj).toNat)
      case atStart => exact ⟨k, k + 1, _, rfl, by go_num, by omega, HR.out, HB1.out⟩
      case round =>
        obtain ⟨i, j, R, rfl, rfl, hjn, HR2, HB2⟩ := hrel
        have hij := HR2.out.lt
        by_cases hlt : j < n
        · obtain ⟨x, hx⟩ : ∃ x, L[j]? = some x := ⟨_, List.getElem?_eq_getElem (by have := hlen.out; omega)⟩
          have hcx := HR2.out.cell (HR2.out.high j x (Nat.le_refl _) hx)
          have i0 : (0 : Int) ≤ (j : Int) := by omega
          have i1 : (j : Int) < (n : Int) := by omega
          have i2 : (0 : Int) ≤ (i : Int) := by omega
          have i3 : (i : Int) < (n : Int) := by omega
          have HX := Lib.hid hx
          have HCall := Lib.hid (HC.out x (List.mem_of_getElem? hx) wr HB2.out)
          clear hx
          go_wp2_with fail
          refine HCall.out.mono ?_
          rintro e w2 ⟨rfl, hb2⟩
          have HR3 := Lib.hid (HR2.out.on hb2)
          have HB3 : Hid (Below B w w2) := HB2.out.trans (hb2.mono (by have := HB2.out.size; omega))
          have hRi : i < R.length := by have := HR2.out.size; omega
          have hci := HR3.out.cell (List.getElem?_eq_getElem hRi)
          have hfi := HR3.out.frozen (t := i)
          generalize R[i] = old at hci
          clear hb2
          cases hm : p x with
          | true =>
            have HM := Lib.hid hm
            clear hm
            go_wp2_with fail
            go_roundw
            case rel => exact ⟨i, j + 1, R, rfl, by go_num, by omega, HR3.out.skip HX.out HM.out, HB3⟩
            case measure => simp [intOf]; omega
          | false =>
            have HM := Lib.hid hm
            clear hm
            have HR4 := Lib.hid (HR3.out.keep HX.out (by simp [HM.out]) (by omega))
            have HB4 : Hid (Below B w (w2.setCell ⟨gr, i, none⟩ (.string x))) := HB3.out.setCell (p := ⟨gr, i, none⟩) hg _
            go_wp2_with fail
            go_roundw
            case rel => exact ⟨i + 1, j + 1, R.set i (.string x), by go_num, by go_num, by omega, HR4, HB4⟩
            case measure => simp [intOf]; omega
        · obtain rfl : j = n := by omega
          have hR := HR2.out
          have hRs := hR.size
          have hcl : ∀ ty, (Builtin.clear_ #[40] ty #[.slice (some ⟨gr, i, none⟩) (j - i) (c - i)]).run Tryz.prog wr = .ok (.tuple #[]) (wr.setCells gr i (List.replicate (j - i) (.string ⟨#[]⟩))) :=
            fun ty => Lib.run_clear_slice wr 40 9 ty (.string ⟨#[]⟩) Tryz.underlying40 (fun w => by kernel_rfl) rfl rfl gr i _ _ (by omega)
              (fun t ht => by
                have h1 : i + t < R.length := by omega
                rw [hR.cell (List.getElem?_eq_getElem h1)]; rfl)
              (fun t ht => hR.frozen)
          have i0 : (0 : Int) ≤ (i : Int) := by omega
          have i1 : (i : Int) ≤ (j : Int) := by omega
          have i2 : (i : Int) ≤ (c : Int) := by omega
          have i3 : (j : Int) ≤ (c : Int) := by omega
          have i4 : ¬ (j : Int) < (j : Int) := by omega
          clear hR
          go_wp2
          go_ret
          have hR := HR2.out
          have hLt : L.take j = L := List.take_of_length_le (by have := hlen.out; omega)
          have hkept := hR.kept
          have hnum := hR.num
          rw [hLt] at hkept hnum
          have hbl := below_setCellsS B gr hg (List.replicate (j - i) (.string ⟨#[]⟩)) i wr
          have hcell : ∀ t x, (staysB p L)[t]? = some x → (wr.setCells gr i (List.replicate (j - i) (.string ⟨#[]⟩))).cell? ⟨gr, t, none⟩ = some (.string x) := by
            intro t x hx
            have ht : t < i := by have := (List.getElem?_eq_some_iff.1 hx).1; omega
            have h1 : (R.take i)[t]? = some (.string x) := by rw [hkept, List.getElem?_map, hx]; rfl
            rw [List.getElem?_take_of_lt ht] at h1
            rw [World.cell?_setCells_out gr _ i wr ⟨gr, t, none⟩ (fun _ _ => .inl ht)]
            exact hR.cell h1
          refine ⟨_, i, c, rfl, ⟨hnum, by omega, hcm, by simp [reachN]; omega, .inr ⟨gr, 0, rfl, ?_, fun t x hx => ?_⟩⟩, HB2.out.trans hbl⟩
          · have h1 := (Array.getElem?_eq_some_iff.1 hR.heap).1
            have h2 := hbl.size
            omega
          · have hxL : x ∈ L := (List.mem_filter.1 (List.mem_of_getElem? hx)).1
            refine ⟨[.string x], ⟨rfl, Hsz.out x hxL⟩, fun u v hv => ?_⟩
            have h3 := hcell t x hx
            rcases u with _ | u
            · simp at hv
              subst hv
              simpa [Enc.str] using h3
            · simp at hv
theorem sieve1_any (gs gi g : Nat) (S : List ByteArray) (M : Nat) (inb : Bool) (s : ByteArray) (w : World) (hS : SetV w g S M) (hg : w.cell? ⟨gs, 0, none⟩ = some (.map (some g))) (hi : w.cell? ⟨gi, 0, none⟩ = some (.bool inb)) :
    Calls Tryz.prog 63 #[.string s, .pointer (some ⟨gs, 0, none⟩), .pointer (some ⟨gi, 0, none⟩)] w (RetBool (hasB S s != inb) w) := by
  obtain ⟨cn, u1, b0, b1, hz⟩ := hS.look under_set under_key (zero_cnt _) s
  have Hz : Hid (decide (0 < cn) = hasB S s) := by
    show _ = _
    unfold hasB
    by_cases h : s ∈ S
    · have : ¬ cn = 0 := fun h2 => (hz.1 h2) h
      have h3 : 0 < cn := by omega
      simp [h, h3]
    · have : cn = 0 := hz.2 h
      simp [h, this]
  clear hS hz
  go_enter Tryz.func63, Tryz.ntmps63
  go_wp2_with fail
  go_ret
  exact ⟨by rw [← Hz.out]; rfl, Below.refl _ _⟩
def ruleVars (x : GRule) : List ByteArray := putL [] (ruleT x)
def sieveL (x : GRule) (S : List ByteArray) (inb : Bool) : List ByteArray := (ruleVars x).filter fun v => hasB S v == inb
theorem sieve_stays (x : GRule) (S : List ByteArray) (inb : Bool) : staysB (fun s => hasB S s != inb) (ruleVars x) = sieveL x S inb := by
  unfold staysB sieveL
  refine List.filter_congr fun v _ => ?_
  dsimp only
  cases hasB S v <;> cases inb <;> rfl
theorem sieveL_congr {x : GRule} {S T : List ByteArray} (h : ∀ v, v ∈ S ↔ v ∈ T) (inb : Bool) : sieveL x S inb = sieveL x T inb := by
  unfold sieveL
  refine List.filter_congr fun v _ => ?_
  rw [hasB_congr h]
theorem putL_le0 (l : List GTold) : (putL [] l).length ≤ l.length := by have := putL_len l []; simpa using this
theorem sieve_any (d g : Nat) (S : List ByteArray) (M : Nat) (inb : Bool) (x : GRule) (a b : Hd) (w : World) (hS : SetV w g S M) (hx : RuleAt d w w.heap.size x a b) (hsz : (ruleT x).length ≤ 1500) :
    Calls Tryz.prog 36 #[.agg (ruleC x a b).toArray, .map (some g), .bool inb] w (fun e w' => ∃ A m c, e = .returned (.slice A m c) ∧ SliceIs Enc.str w' w'.heap.size A m c (sieveL x S inb) ∧ Below w.heap.size w w') := by
  obtain ⟨V, hV⟩ : ∃ V, V = ((w.alloc (.cells (ruleC x a b).toArray 27)).alloc (.cells #[.map (some g)] 98)).alloc (.cells #[.bool inb] 4) := ⟨_, rfl⟩
  have hrs : V.heap[w.heap.size + 1]? = some (.cells #[.map (some g)] 98 (0, 0)) := by rw [hV]; exact heapOld (heapNew (by simp))
  have hrr : V.heap[w.heap.size]? = some (.cells (ruleC x a b).toArray 27 (0, 0)) := by rw [hV]; exact heapOld (heapOld (heapNew rfl))
  obtain ⟨c0, c1, c2, c3, c4, c5⟩ := facts6 hrr
  have hri : V.heap[w.heap.size + 2]? = some (.cells #[.bool inb] 4 (0, 0)) := by rw [hV]; exact heapNew (by simp)
  have hbw : Below w.heap.size w V := by rw [hV]; exact belowA (belowA (belowA (Below.refl _ _) _) _) _
  have HBW := Lib.hid hbw
  have HVe := Lib.hid hV.symm
  have hzV : V.heap.size = w.heap.size + 3 := by rw [hV]; simp
  have HS : Hid (SetV V g S M) := by show SetV _ _ _ _; rw [hV]; exact ((hS.alloc _).alloc _).alloc _
  have HVars := Lib.hid (vars_any d x a b V (hx.keep hbw) hsz)
  have HOk : Hid (∀ s ∈ ruleVars x, s.size ≤ reachN) := fun s hs => by
    obtain ⟨t, ht, rfl, -⟩ : ∃ t ∈ ruleT x, s = t.x ∧ t.x.toList.isEmpty = false := by
      have := putL_has.1 hs; simpa using this
    exact (rule_ok hx t ht).1
  have HLen : Hid ((ruleVars x).length ≤ 1500) := Nat.le_trans (putL_le0 _) hsz
  have H1 := Lib.hid (fun (W : World) (hW : Below V.heap.size V W) (s : ByteArray) => sieve1_any (w.heap.size + 1) (w.heap.size + 2) g S M inb s W (HS.out.below hW)
    ((cell_of_row _ _ 0 _ _ _ ((hW.block _ (by omega)).trans hrs)).trans rfl) ((cell_of_row _ _ 0 _ _ _ ((hW.block _ (by omega)).trans hri)).trans rfl))
  clear hS hx hsz hrs hri hrr hbw hV hzV
  go_enter Tryz.func36, Tryz.ntmps36
  go_wp2_with (rw [HVe.out])
  refine HVars.out.mono ?_
  rintro e w1 ⟨A1, c1, rfl, ho1, hb1⟩
  have HD := Lib.hid (deleteB_any (gf := 63) (bs := #[]) (lb := #[.pointer (some ⟨w.heap.size + 1, 0, none⟩), .pointer (some ⟨w.heap.size + 2, 0, none⟩)]) (fun args w => by rfl) V.heap.size (fun s => hasB S s != inb) A1 (ruleVars x).length c1 (ruleVars x) w1 hb1.size
    (TextsPost.is ho1 (by have := HLen.out; show (ruleVars x).length ≤ _; omega) HOk.out) ho1 (by have := HLen.out; omega) (fun s _ W hW => H1.out W (hb1.trans hW) s))
  have HB1 := Lib.hid hb1
  clear ho1 hb1 HVars
  go_wp2_with fail
  refine HD.out.mono ?_
  rintro e w2 ⟨A2, m2, c2, rfl, hs2, hb2⟩
  rw [sieve_stays] at hs2
  have HE : Hid (∃ A m c, Ending.returned (.slice A2 m2 c2) = .returned (.slice A m c) ∧ SliceIs Enc.str w2 w2.heap.size A m c (sieveL x S inb) ∧ Below w.heap.size w w2) := ⟨A2, m2, c2, rfl, hs2, HBW.out.trans ((HB1.out.trans hb2).mono HBW.out.size)⟩
  clear hs2 hb2
  go_wp2_with fail
  go_ret
  exact HE.out
end Go.Proofs.YtfklheagafffmaaGreatDoor
