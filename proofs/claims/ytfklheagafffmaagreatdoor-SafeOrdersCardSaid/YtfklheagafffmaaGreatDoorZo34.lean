/- My own texts SfInt, SfBd, SdB, as far as this claim needs them. -/
import Derived.Test.YtfklheagafffmaaGreatDoorZo25
import Derived.Test.YtfklheagafffmaaGreatDoorZo27
import Derived.Test.YtfklheagafffmaaGreatDoorZo30
import Derived.Test.YtfklheagafffmaaGreatDoorZo31
import Derived.Test.YtfklheagafffmaaGreatDoorZo33
set_option linter.unusedVariables false
set_option linter.unusedSimpArgs false
namespace Go.Proofs.YtfklheagafffmaaGreatDoor
open Go.RowKit Go.Shelf
attribute [local go_sem] Oper.semAt_some
theorem wpListIn_load_at {F : Fence} {n : Nat} {P : Program} {ops : Array Oper} {rest : List Oper} {a : Act} {w : World} {Q : Exit → Act → World → Prop} {dst : Option Tmp} {ty : TypeId} {x : Operand} {tt : TypeId} {ps : String} {af : Array Edge}
    (g off : Nat) (cs : List Value) (d : TypeDesc) (hc : ∀ j v, cs[j]? = some v → w.cell? ⟨g, off + j, none⟩ = some v)
    (hu : P.underlying ty = some d) (hd : (match d with | .struct _ | .array _ _ => true | _ => false) = true) (hi : (P.info? ty).map (·.size) = some cs.length)
    (hx : a.eval x = .pointer (some ⟨g, off, none⟩))
    (h : wpListIn F n P ops Q rest (a.put dst (.agg cs.toArray)) w) : wpListIn F n P ops Q (Oper.mk dst (.load ty x) tt ps af none :: rest) a w := by
  refine wpListIn_plain rfl fun K hK' => ?_
  unfold Oper.wpIn
  refine ⟨?_, ?_⟩
  · simp [Oper.about]
  · rw [Oper.semAt_plain F _ _ (by intro c hc'; cases hc')]
    simp [execOp, hx, Instr.loadAt, Instr.sureAddr, run_loadVar_cells w g off ty cs d hc hu hd hi, Result.andThen]
    exact hK' _ _ h
def intC (x : Int) : List Value := [.int .i64 x]
theorem int_push {W : World} {base : Nat} {A : Option Addr} {c k : Nat} {xs : List Int} (hown : W.ownsRow base 3 1 (.slice A k c) k (xs.flatMap intC)) (q : Int) (hn : k + 1 ≤ 1000000) (hb : base ≤ W.heap.size) :
    ∃ A' c' w', (∀ ty, (Builtin.append_ #[37, 37] ty #[.slice A k c, .slice (some ⟨W.heap.size, 0, none⟩) 1 1]).run Tryz.prog (W.alloc (.cells #[.int .i64 q] 3)) = .ok (.slice A' (k + 1) c') w') ∧
      w'.ownsRow base 3 1 (.slice A' (k + 1) c') (k + 1) ((xs ++ [q]).flatMap intC) ∧ Out (Value.slice A k c).ownBlock.toList W w' ∧ Below base W w' := by
  have ho : (W.alloc (.cells #[.int .i64 q] 3)).ownsRow base 3 1 (.slice A k c) k (xs.flatMap intC) := own_below hown (belowA (Below.refl _ _) _)
  obtain ⟨v', w', h1, h2, h3, h4⟩ := run_push_at (P := Tryz.prog) (ty := 37) (W.alloc (.cells #[.int .i64 q] 3)) (base := base) Tryz.underlying37 int_infoD rfl (by decide) ho W.heap.size (intC q) rfl (heapNew rfl) (by intro u hu; simp [intC] at hu; subst hu; rfl)
    (by simp [maxLen]; omega) (by omega) (by simp; omega)
  obtain ⟨A', c', rfl⟩ := own_form h2
  refine ⟨A', c', w', fun _ => h1, ?_, ?_, ?_⟩
  · rw [List.flatMap_append]; simpa using h2
  · have h5 := (Out.of_below (belowA (Below.refl W.heap.size W) (.cells #[.int .i64 q] 3)) (Value.slice A k c).ownBlock.toList)
    exact h5.trans (grown_out h3) (fun b hb _ => hb)
  · exact ((Below.refl base W).alloc hb _).trans h4
theorem own_same {w w' : World} {base e sz : Nat} {v : Value} {n : Nat} {xs : List Value} (h : w.ownsRow base e sz v n xs) (hs : ∀ b, v.ownBlock = some b → w'.heap[b]? = w.heap[b]?) : w'.ownsRow base e sz v n xs := by
  refine ⟨h.1, ?_⟩
  rcases h.2 with hn | ⟨g, cap, cur, rfl, hg, hh, r⟩
  · exact .inl hn
  · exact .inr ⟨g, cap, cur, rfl, hg, (hs g rfl).trans hh, r⟩
theorem own_lift {w : World} {base base' e sz : Nat} {v : Value} {n : Nat} {xs : List Value} (h : w.ownsRow base e sz v n xs) (hs : ∀ b, v.ownBlock = some b → base' ≤ b) : w.ownsRow base' e sz v n xs := by
  refine ⟨h.1, ?_⟩
  rcases h.2 with hn | ⟨g, cap, cur, rfl, hg, hh, r⟩
  · exact .inl hn
  · exact .inr ⟨g, cap, cur, rfl, hs g rfl, hh, r⟩
theorem own_sansS {w : World} {S : List Nat} {base e sz : Nat} {v : Value} {n : Nat} {xs : List Value} (h : w.ownsRow base e sz v n xs) (hS : ∀ b ∈ S, b < base) : (sans w S).ownsRow base e sz v n xs := by
  refine ⟨h.1, ?_⟩
  rcases h.2 with hn | ⟨g, cap, cur, rfl, hg, hh, r⟩
  · exact .inl hn
  · exact .inr ⟨g, cap, cur, rfl, hg, (sans_out (fun hs => by have := hS g hs; omega)).trans hh, r⟩
theorem own_farS {w : World} {base : Nat} {A : Option Addr} {n c : Nat} {l : List ByteArray} (h : w.ownsRow base 9 1 (.slice A n c) n (l.flatMap strC)) (hl : l.length = n) (hn : n ≤ 1000000) (hok : ∀ s ∈ l, s.size ≤ reachN) : SliceFar Enc.str w (List.range base) A n c l := by
  have h2 := own_sansS (S := List.range base) h (fun b hb' => by have := List.mem_range.1 hb'; omega)
  have h3 := SliceIs.of_flat (E := Enc.str) strC (fun _ => rfl) h2 hl (by simp [reachN]; omega) (fun q hq => ⟨rfl, hok q hq⟩)
  rw [sans_size] at h3
  exact h3
theorem ints_is {w : World} {base : Nat} {A : Option Addr} {n c : Nat} {l : List Int} (h : w.ownsRow base 3 1 (.slice A n c) n (l.flatMap intC)) (hl : l.length = n) (hn : n ≤ 1000000) (hok : ∀ k ∈ l, fits k) : SliceIs Enc.int w w.heap.size A n c l :=
  SliceIs.of_flat (E := Enc.int) intC (fun _ => rfl) h hl (by simp [reachN]; omega) (fun q hq => ⟨rfl, hok q hq⟩)
theorem SliceFar.one {α : Type} {E : Enc α} {w : World} {n g : Nat} {A : Option Addr} {k c : Nat} {l : List α} (h : SliceFar E w (List.range n) A k c l) (hg : g < n) : SliceFar E w [g] A k c l :=
  h.out (S := []) (Out.refl _ _) (fun b hb _ => by cases hb) (fun b hb _ => by simp at hb; subst hb; exact List.mem_range.2 hg)
/-- places as a row -/
def valsK (L : List Nat) : List Value := (intL L).flatMap intC
theorem valsK_eq (L : List Nat) : valsK L = L.map (fun k : Nat => Value.int .i64 (k : Int)) := by
  unfold valsK intL
  induction L with
  | nil => rfl
  | cons a r ih => simp only [List.map_cons, List.flatMap_cons, ih]; rfl
theorem valsK_cut (L : List Nat) (j : Nat) : (valsK L).take j ++ (valsK L).drop (j + 1) = valsK (L.eraseIdx j) := by
  rw [valsK_eq, valsK_eq, ← List.map_take, ← List.map_drop, ← List.map_append, List.eraseIdx_eq_take_drop_succ]
theorem valsK_one (L : List Nat) : ∀ u ∈ valsK L, u.oneCell' = true := by
  intro u hu; rw [valsK_eq] at hu; obtain ⟨k, -, rfl⟩ := List.mem_map.1 hu; rfl
theorem valsK_range (k : Nat) : valsK (List.range (k + 1)) = ((intL (List.range k)) ++ [(k : Int)]).flatMap intC := by
  unfold valsK intL
  rw [List.range_succ, List.map_append]; rfl
theorem fits_sm {x : Int} (h : 0 ≤ x ∧ x < 1000000) : fits x := by
  show (Lit.int .i64 x).wf = true
  simp [Lit.wf, IntKind.min, IntKind.max, IntKind.signed, IntKind.bits]; omega
theorem intL_fits {L : List Nat} {n : Nat} (h : ∀ k ∈ L, k < n) (hn : n ≤ 100000) : ∀ q ∈ intL L, fits q := by
  intro q hq
  obtain ⟨k, hk, rfl⟩ := List.mem_map.1 hq
  have := h k hk
  show fits ((k : Nat) : Int)
  exact fits_sm (by omega)
theorem orderF_none {body : List GLit} {f : Nat} {S : List ByteArray} {L : List Nat} (h : nextK body S L = none) : orderF body f S L = [] := by
  cases f with
  | zero => rfl
  | succ f => rw [orderF, h]
theorem orderF_some {body : List GLit} {f : Nat} {S : List ByteArray} {L : List Nat} {k : Nat} (h : nextK body S L = some k) : orderF body (f + 1) S L = (k, S ++ litVars body k) :: orderF body f (S ++ litVars body k) (L.erase k) := by
  rw [orderF, h]
theorem litVars_at {body : List GLit} {k : Nat} {y : GLit} (h : body[k]? = some y) : litVars body k = varsL y := by unfold litVars; rw [h]
/-- what is still to be told, behind so many -/
def RestK (body : List GLit) (done : Nat) (S : List ByteArray) (L : List Nat) : Prop := (orderS body).drop done = orderF body L.length S L
theorem RestK.start (body : List GLit) : RestK body 0 [] (List.range body.length) := by
  unfold RestK orderS; rw [List.drop_zero, List.length_range]
theorem RestK.step {body : List GLit} {done : Nat} {S : List ByteArray} {L : List Nat} {k j : Nat} (h : RestK body done S L) (hn : nextK body S L = some k) (hj : L[j]? = some k) (he : L.erase k = L.eraseIdx j) :
    (orderS body)[done]? = some (k, S ++ litVars body k) ∧ RestK body (done + 1) (S ++ litVars body k) (L.eraseIdx j) := by
  have hjl := (List.getElem?_eq_some_iff.1 hj).1
  have hl : L.length = (L.eraseIdx j).length + 1 := by rw [List.length_eraseIdx, if_pos hjl]; omega
  unfold RestK at h ⊢
  rw [hl, orderF_some hn, he] at h
  constructor
  · have h1 := congrArg (fun l => l[0]?) h
    simp only [List.getElem?_drop, List.getElem?_cons_zero, Nat.add_zero] at h1
    exact h1
  · have h1 := congrArg (List.drop 1) h
    rw [List.drop_drop] at h1
    simpa using h1
theorem RestK.stop {body : List GLit} {done : Nat} {S : List ByteArray} {L : List Nat} (h : RestK body done S L) (hn : nextK body S L = none) : (orderS body).length ≤ done := by
  unfold RestK at h
  rw [orderF_none hn] at h
  exact List.drop_eq_nil_iff.1 h
theorem fst_step {l : List (Nat × List ByteArray)} {P : List Nat} {k : Nat} {S : List ByteArray} (h : P = (l.map Prod.fst).take P.length) (hk : l[P.length]? = some (k, S)) : P ++ [k] = (l.map Prod.fst).take (P.length + 1) := by
  rw [List.take_add_one, List.getElem?_map, hk, ← h]; rfl
theorem fst_stop {l : List (Nat × List ByteArray)} {P : List Nat} (h : P = (l.map Prod.fst).take P.length) (hl : l.length ≤ P.length) : P = l.map Prod.fst := by
  rw [List.take_of_length_le (by simpa using hl)] at h; exact h
end Go.Proofs.YtfklheagafffmaaGreatDoor

namespace Go.Proofs.YtfklheagafffmaaGreatDoor
open Go.RowKit
def posV (body : List GLit) : List ByteArray := (body.filter posB).flatMap varsL
theorem posV_take {body : List GLit} {k : Nat} {y : GLit} (h : body[k]? = some y) : posV (body.take (k + 1)) = if posB y = true then posV (body.take k) ++ varsL y else posV (body.take k) := by
  unfold posV
  rw [List.take_add_one, h]
  cases hp : posB y <;> simp [hp]
theorem lackN_congr {body : List GLit} {S T : List ByteArray} (h : ∀ v, v ∈ S ↔ v ∈ T) : lackN body S = lackN body T := by
  unfold lackN
  congr 1
  refine List.filter_congr fun v _ => ?_
  rw [hasB_congr h]
set_option maxRecDepth 100000 in
theorem SetV.same_has {w : World} {g : Nat} {S T : List ByteArray} {M M' : Nat} (h : SetV w g S M) (k : SetV w g T M') : ∀ v, v ∈ S ↔ v ∈ T := by
  intro v
  obtain ⟨c, h1, -, -, h2⟩ := h.look under_set under_key (zero_cnt _) v
  obtain ⟨c', k1, -, -, k2⟩ := k.look under_set under_key (zero_cnt _) v
  rw [h1] at k1
  obtain rfl : c = c' := by injection k1 with e; injection e
  constructor
  · intro hv; exact Decidable.byContradiction fun hn => (h2.1 (k2.2 hn)) hv
  · intro hv; exact Decidable.byContradiction fun hn => (k2.1 (h2.2 hn)) hv
open Classical in
/-- how much isn't set in the map of a world -/
noncomputable def muS (body : List GLit) (g : Nat) (w : World) : Nat := if h : ∃ S M, SetV w g S M then lackN body h.choose else 0
theorem muS_eq {body : List GLit} {g : Nat} {w : World} {S : List ByteArray} {M : Nat} (h : SetV w g S M) : muS body g w = lackN body S := by
  have hx : ∃ S M, SetV w g S M := ⟨S, M, h⟩
  unfold muS
  rw [dif_pos hx]
  obtain ⟨M', h'⟩ := hx.choose_spec
  exact lackN_congr (h'.same_has h)
def BoundPost (x : GRule) (w : World) (e : Ending) (w' : World) : Prop :=
  ∃ g S M, e = .returned (.map (some g)) ∧ SetV w' g S M ∧ BoundTo x.body (posV x.body) S ∧ Below w.heap.size w w'
set_option maxRecDepth 100000 in
set_option maxHeartbeats 8000000 in
theorem bound_any {w : World} {d : Nat} {x : GRule} {a b : Hd} (hx : RuleAt d w w.heap.size x a b) (hsz : (ruleT x).length ≤ 1500) (hbn : x.body.length ≤ 1500) :
    Calls Tryz.prog 45 #[.agg (ruleC x a b).toArray] w (BoundPost x w) := by
  obtain ⟨b_A, b_n, b_c⟩ := b
  have Hbn : Hid (x.body.length = b_n) := hx.body.1
  have hbn2 : b_n ≤ 1500 := by rw [← Hbn.out]; exact hbn
  have hbl : (x.body.flatMap insideL).length ≤ 1500 := by unfold ruleT at hsz; simp only [List.length_append] at hsz; omega
  have HSz : Hid (∀ y ∈ x.body, (insideL y).length ≤ 1500) := fun y hy => by
    obtain ⟨i, hi⟩ := List.mem_iff_getElem?.1 hy
    have h1 := flatMap_take (f := insideL) hi
    have h2 := flatMap_len x.body insideL (i + 1)
    rw [h1, List.length_append] at h2
    omega
  have HLack : Hid (∀ S, lackN x.body S ≤ 1500) := fun S => by
    unfold lackN
    refine Nat.le_trans (List.length_filter_le _ _) (Nat.le_trans ?_ hbl)
    clear hbl HSz hsz hx
    induction x.body with
    | nil => exact Nat.le_refl _
    | cons y l ih => simp only [List.flatMap_cons, List.length_append]; have := varsL_le y; omega
  obtain ⟨V, hV⟩ : ∃ V, V = (w.alloc (.cells (ruleC x a ⟨b_A, b_n, b_c⟩).toArray 27)).alloc (.map #[] 0) := ⟨_, rfl⟩
  have HVe := Lib.hid hV.symm
  have hr0 : V.heap[w.heap.size]? = some (.cells (ruleC x a ⟨b_A, b_n, b_c⟩).toArray 27 (0, 0)) := by rw [hV]; exact heapOld (heapNew rfl)
  have hzV : V.heap.size = w.heap.size + 2 := by rw [hV]; simp
  have hbV : Below w.heap.size w V := by rw [hV]; exact belowA (belowA (Below.refl _ _) _) _
  have HS0 : Hid (SetV V (w.heap.size + 1) [] 0) := by
    have h : SetV V (w.alloc (.cells (ruleC x a ⟨b_A, b_n, b_c⟩).toArray 27)).heap.size [] 0 := by rw [hV]; exact SetV.made
    rw [World.size_alloc] at h
    exact h
  have HbO : Hid (∀ W, Out [w.heap.size + 1] V W → Below w.heap.size w W) := fun W hW => hbV.trans ⟨hW.os, hW.tape, hW.output, hW.size, fun b' hb' => hW.block b' (by omega) (by simp; omega)⟩
  have HRule : Hid (∀ W, Out [w.heap.size + 1] V W → RuleAt d W W.heap.size x a ⟨b_A, b_n, b_c⟩) := fun W hW => hx.keep (HbO.out W hW)
  have HC4 : Hid (∀ W, Out [w.heap.size + 1] V W → W.cell? ⟨w.heap.size, 4, none⟩ = some (.slice b_A b_n b_c)) := fun W hW => (facts6 ((hW.block _ (by omega) (by simp)).trans hr0)).2.2.2.2.1
  have c4 := HC4.out V (Out.refl _ _)
  have hmm := @run_makeMap Tryz.prog
  clear hx hV hbV hr0 hsz hbl
  go_enter Tryz.func45, Tryz.ntmps45
  go_wp2_with fail
  go_step3
  go_wp2_with (rw [HVe.out])
  clear hmm
  go_loopw [5, 12] (fun _ i wr => ∃ (k M : Nat), k ≤ b_n ∧ i = .int .i64 (k : Int) ∧ M ≤ 1500 * k ∧ Hid (SetV wr (w.heap.size + 1) (posV (x.body.take k)) M) ∧ Hid (Out [w.heap.size + 1] V wr)) (fun _ i _ => b_n - (intOf i).toNat)
  case atStart => exact ⟨0, 0, by omega, rfl, by omega, HS0.out, Out.refl _ _⟩
  case round =>
    obtain ⟨k, M, hk, rfl, hM, HS, HO⟩ := hrel
    have i0 : (0 : Int) ≤ (k : Int) := by omega
    by_cases hlt : k < b_n
    · have i1 : (k : Int) < (b_n : Int) := by omega
      obtain ⟨bb, o, y, a', p', q', hA, hbb, hy, hly, Hr⟩ := (HRule.out wr HO.out).body.lit_range hlt
      dsimp only at hA
      subst hA
      obtain ⟨U, hU⟩ : ∃ U, U = wr.alloc (.cells (litC y a' p' q').toArray 70) := ⟨_, rfl⟩
      have HUe := Lib.hid hU.symm
      have hbU : Below wr.heap.size wr U := by rw [hU]; exact belowA (Below.refl _ _) _
      have hrU : U.heap[wr.heap.size]? = some (.cells (litC y a' p' q').toArray 70 (0, 0)) := by rw [hU]; exact heapNew rfl
      have HRn := Lib.hid (range_row hrU)
      have hyl := HSz.out y (List.mem_of_getElem? hy.out)
      have hvl : (varsL y).length ≤ 1500 := Nat.le_trans (varsL_le y) hyl
      have HI := Lib.hid (inT_any d y a' p' q' U (hly.keep hbU) hyl)
      have HSU := Lib.hid (HS.out.below hbU)
      have b0 := (facts17 hrU).1
      have HVs : Hid (∀ s ∈ varsL y, s.size ≤ reachN) := fun s hs => by
        obtain ⟨t, ht, rfl, -⟩ := varsL_has.1 hs
        exact (inside_ok hly t ht).1
      have HOU : Hid (Out [w.heap.size + 1] V U) := HO.out.trans (Out.of_below hbU _) (fun b' hb' _ => hb')
      have hzO := HO.out.size
      have HbU := Lib.hid hbU
      clear hU hbU hrU hly
      by_cases hp : y.k = 1
      · have Hv : Hid (posV (x.body.take (k + 1)) = posV (x.body.take k) ++ varsL y) := by show _ = _; rw [posV_take hy.out, if_pos (by simp [posB, hp])]
        have e0 : (y.k == 1) = true := by simp [hp]
        clear hp hy
        go_wp2_with (first
          | rw [HUe.out]
          | rw [e0]
          | refine wpList_load_mid rfl 70 (.tmp 14) rfl bb (o + k * 17) rfl (litC y a' p' q') _ Hr.out Tryz.underlying70 rfl (lit_size y a' p' q') ?_
          | refine wpList_new rfl rfl 70 5 (.tmp 15) rfl rfl rfl rfl _ (litC y a' p' q').toArray lit_info rfl (lit_one y a' p' q') rfl rfl ?_
          | refine wpList_load_mid rfl 70 (.tmp 5) rfl wr.heap.size 0 rfl (litC y a' p' q') _ HRn.out Tryz.underlying70 rfl (lit_size y a' p' q') ?_)
        refine HI.out.mono ?_
        rintro e w3 ⟨A3, c3, rfl, ho3, hb3⟩
        have hz3 := hb3.size
        have hzU := HbU.out.size
        have HPt := Lib.hid (setPut_any (w.heap.size + 1) A3 (varsL y).length c3 (varsL y) (posV (x.body.take k)) M w3 (HSU.out.below hb3) ((own_farS ho3 rfl (by have : (putL [] (insideL y)).length = (varsL y).length := rfl; omega) HVs.out).one (by omega)) (by omega))
        have HO3 : Hid (Out [w.heap.size + 1] V w3) := HOU.out.trans (Out.of_below hb3 _) (fun b' hb' _ => hb')
        clear ho3 hb3 HI
        go_wp2_with fail
        refine HPt.out.mono ?_
        rintro e w4 ⟨rfl, hs4, ho4⟩
        rw [← Hv.out] at hs4
        have HS4 := Lib.hid hs4
        have HO4 : Hid (Out [w.heap.size + 1] V w4) := HO3.out.trans ho4 (fun b' hb' _ => hb')
        clear hs4 ho4 HPt
        go_wp2_with fail
        go_roundw
        case rel => exact ⟨k + 1, M + (varsL y).length, by omega, by go_num, by omega, HS4, HO4⟩
        case measure => simp [intOf]; omega
      · have Hv : Hid (posV (x.body.take (k + 1)) = posV (x.body.take k)) := by show _ = _; rw [posV_take hy.out, if_neg (by simp [posB, hp])]
        have e0 : (y.k == 1) = false := by simp [hp]
        rw [← Hv.out] at HSU
        clear hp hy
        go_wp2_with (first
          | rw [HUe.out]
          | rw [e0]
          | refine wpList_load_mid rfl 70 (.tmp 14) rfl bb (o + k * 17) rfl (litC y a' p' q') _ Hr.out Tryz.underlying70 rfl (lit_size y a' p' q') ?_
          | refine wpList_new rfl rfl 70 5 (.tmp 15) rfl rfl rfl rfl _ (litC y a' p' q').toArray lit_info rfl (lit_one y a' p' q') rfl rfl ?_)
        go_roundw
        case rel => exact ⟨k + 1, M, by omega, by go_num, by omega, HSU, HOU⟩
        case measure => simp [intOf]; omega
    · obtain rfl : b_n = k := by omega
      have i1 : ¬ (b_n : Int) < (b_n : Int) := by omega
      have hpv : posV (x.body.take b_n) = posV x.body := by rw [List.take_of_length_le (by rw [Hbn.out]; exact Nat.le_refl _)]
      rw [hpv] at HS
      clear hpv
      have HBd : Hid (∀ T, BoundTo x.body (posV x.body) T → BoundTo x.body (posV x.body) T) := fun _ h => h
      have hC := HLack.out (posV x.body)
      clear c4
      go_wp2_with fail
      go_step3
      go_wp2_with fail
      go_loopw [27] (fun _ wr => ∃ (S : List ByteArray) (M : Nat), Hid (SetV wr (w.heap.size + 1) S M) ∧ Hid (Out [w.heap.size + 1] V wr) ∧ Hid (∀ T, BoundTo x.body S T → BoundTo x.body (posV x.body) T) ∧ M + 1500 * lackN x.body S ≤ 8000000) (fun _ wr => muS x.body (w.heap.size + 1) wr)
      case atStart => exact ⟨_, M, HS, HO, HBd, by omega⟩
      case round =>
        clear HBd HS HO hM hC
        obtain ⟨S, M, HS, HO, HBd, hM⟩ := hrel
        have HMu : Hid (muS x.body (w.heap.size + 1) wr = lackN x.body S) := muS_eq HS.out
        have c4 := HC4.out wr HO.out
        go_wp2_with fail
        go_loopw [7, 27] (fun _ i wr2 => ∃ k : Nat, k ≤ b_n ∧ i = .int .i64 (k : Int) ∧ Hid (SetV wr2 (w.heap.size + 1) S M) ∧ Hid (Out [w.heap.size + 1] V wr2) ∧ Hid (∀ y ∈ x.body.take k, setsB S y = false)) (fun _ i _ => b_n - (intOf i).toNat)
        case atStart => exact ⟨0, by omega, rfl, HS, HO, (fun y hy => by simp at hy)⟩
        case round =>
          clear HS HO c4
          obtain ⟨k, hk, rfl, HS, HO, HNo⟩ := hrel
          have i0 : (0 : Int) ≤ (k : Int) := by omega
          by_cases hlt : k < b_n
          · have i1 : (k : Int) < (b_n : Int) := by omega
            obtain ⟨bb, o, y, a', p', q', hA, hbb, hy, hly, Hr⟩ := (HRule.out wr HO.out).body.lit_range hlt
            dsimp only at hA
            subst hA
            obtain ⟨U, hU⟩ : ∃ U, U = wr.alloc (.cells (litC y a' p' q').toArray 70) := ⟨_, rfl⟩
            have HUe := Lib.hid hU.symm
            have hbU : Below wr.heap.size wr U := by rw [hU]; exact belowA (Below.refl _ _) _
            have hrU : U.heap[wr.heap.size]? = some (.cells (litC y a' p' q').toArray 70 (0, 0)) := by rw [hU]; exact heapNew rfl
            have hzU : wr.heap.size < U.heap.size := (Array.getElem?_eq_some_iff.1 hrU).1
            have HRn : Hid (∀ W, Below U.heap.size U W → W.rangeAt wr.heap.size 0 (litC y a' p' q')) := fun W hW => range_row ((hW.block _ hzU).trans hrU)
            have hyl := HSz.out y (List.mem_of_getElem? hy.out)
            have hvl : (varsL y).length ≤ 1500 := Nat.le_trans (varsL_le y) hyl
            have HSe := Lib.hid (setSets_any d (w.heap.size + 1) S M y a' p' q' U (HS.out.below hbU) (hly.keep hbU) hyl)
            have HI := Lib.hid (fun (W : World) (hW : Below U.heap.size U W) => inT_any d y a' p' q' W ((hly.keep hbU).keep hW) hyl)
            have HSU := Lib.hid (HS.out.below hbU)
            have HVs : Hid (∀ s ∈ varsL y, s.size ≤ reachN) := fun s hs => by
              obtain ⟨t, ht, rfl, -⟩ := varsL_has.1 hs
              exact (inside_ok hly t ht).1
            have HOU : Hid (Out [w.heap.size + 1] V U) := HO.out.trans (Out.of_below hbU _) (fun b' hb' _ => hb')
            have hzO := HO.out.size
            have hRU0 := HRn.out U (Below.refl _ _)
            have HRU0 := Lib.hid hRU0
            have HbU0 := Lib.hid hbU
            clear hU hbU hrU hly hRU0 HS HO
            go_wp2_with (first
              | rw [HUe.out]
              | refine wpList_load_mid rfl 70 (.tmp 29) rfl bb (o + k * 17) rfl (litC y a' p' q') _ Hr.out Tryz.underlying70 rfl (lit_size y a' p' q') ?_
              | refine wpList_new rfl rfl 70 7 (.tmp 30) rfl rfl rfl rfl _ (litC y a' p' q').toArray lit_info rfl (lit_one y a' p' q') rfl rfl ?_
              | refine wpList_load_mid rfl 70 (.tmp 7) rfl wr.heap.size 0 rfl (litC y a' p' q') _ HRU0.out Tryz.underlying70 rfl (lit_size y a' p' q') ?_)
            refine HSe.out.mono ?_
            rintro e w2 ⟨rfl, hb2⟩
            have HI2 := Lib.hid (HI.out w2 hb2)
            have HR2 := Lib.hid (HRn.out w2 hb2)
            have HS2 := Lib.hid (HSU.out.below hb2)
            have HO2 : Hid (Out [w.heap.size + 1] V w2) := HOU.out.trans (Out.of_below hb2 _) (fun b' hb' _ => hb')
            have hz2 := hb2.size
            clear hb2 HSe HI
            cases hs : setsB S y with
            | true =>
              have HStep : Hid (∀ T, BoundTo x.body (S ++ varsL y) T → BoundTo x.body (posV x.body) T) := fun T hT => HBd.out T (.step (List.mem_of_getElem? hy.out) hs hT)
              have hlk := lack_lt (body := x.body) (List.mem_of_getElem? hy.out) hs
              clear hs
              go_wp2_with (refine wpList_load_mid rfl 70 (.tmp 7) rfl wr.heap.size 0 rfl (litC y a' p' q') _ HR2.out Tryz.underlying70 rfl (lit_size y a' p' q') ?_)
              refine HI2.out.mono ?_
              rintro e w3 ⟨A3, c3, rfl, ho3, hb3⟩
              have hz3 := hb3.size
              have HPt := Lib.hid (setPut_any (w.heap.size + 1) A3 (varsL y).length c3 (varsL y) S M w3 (HS2.out.below hb3) ((own_farS ho3 rfl (by have : (putL [] (insideL y)).length = (varsL y).length := rfl; omega) HVs.out).one (by omega)) (by omega))
              have HO3 : Hid (Out [w.heap.size + 1] V w3) := HO2.out.trans (Out.of_below hb3 _) (fun b' hb' _ => hb')
              clear ho3 hb3 HI2
              go_wp2_with fail
              refine HPt.out.mono ?_
              rintro e w4 ⟨rfl, hs4, ho4⟩
              have HS4 := Lib.hid hs4
              have HO4 : Hid (Out [w.heap.size + 1] V w4) := HO3.out.trans ho4 (fun b' hb' _ => hb')
              clear hs4 ho4 HPt
              go_wp2_with fail
              go_roundw
              case rel => exact ⟨S ++ varsL y, M + (varsL y).length, HS4, HO4, HStep, by omega⟩
              case measure =>
                have h1 := HMu.out
                have h2 := muS_eq (body := x.body) HS4.out
                first | omega | (show muS _ _ _ < muS _ _ _; omega)
            | false =>
              have HNo2 : Hid (∀ y ∈ x.body.take (k + 1), setsB S y = false) := fun z hz => by
                rw [mem_take_step hy.out] at hz
                rcases hz with hz | rfl
                · exact HNo.out z hz
                · exact hs
              clear hs
              go_wp2_with fail
              go_roundw
              case rel => exact ⟨k + 1, by omega, by go_num, HS2, HO2, HNo2⟩
              case measure => simp [intOf]; omega
          · obtain rfl : b_n = k := by omega
            have i1 : ¬ (b_n : Int) < (b_n : Int) := by omega
            have HE : Hid (BoundPost x w (.returned (.map (some (w.heap.size + 1)))) wr) :=
              ⟨_, S, M, rfl, HS.out, HBd.out S (.stop fun y hy => HNo.out y (by rw [List.take_of_length_le (by rw [Hbn.out]; exact Nat.le_refl _)]; exact hy)), HbO.out wr HO.out⟩
            clear HS HO HNo HBd
            go_wp2_with fail
            go_ret
            exact HE.out
end Go.Proofs.YtfklheagafffmaaGreatDoor

namespace Go.Proofs.YtfklheagafffmaaGreatDoor
open Go.RowKit
theorem texts_isB {w : World} {base : Nat} {A : Option Addr} {n c : Nat} {l : List ByteArray} (h : w.ownsRow base 9 1 (.slice A n c) n (l.flatMap strC)) (hl : l.length = n) (hn : n ≤ 100000000) (hok : ∀ s ∈ l, s.size ≤ reachN) : SliceIs Enc.str w w.heap.size A n c l :=
  SliceIs.of_flat (E := Enc.str) strC (fun _ => rfl) h hl (by simp [reachN]; omega) (fun q hq => ⟨rfl, hok q hq⟩)
/-- a list of texts, put behind a row of the call's own -/
theorem strs_app {W : World} {base : Nat} {A0 : Option Addr} {n0 c0 : Nat} {L0 : List ByteArray} {B : Nat} {A : Option Addr} {n c : Nat} {l : List ByteArray} (hown : W.ownsRow base 9 1 (.slice A0 n0 c0) n0 (L0.flatMap strC)) (hl : SliceIs Enc.str W B A n c l) (hn : n0 + n ≤ 100000000) (hb : base ≤ W.heap.size) :
    ∃ A' c' W', (∀ ty, (Builtin.append_ #[40, 40] ty #[.slice A0 n0 c0, .slice A n c]).run Tryz.prog W = .ok (.slice A' (n0 + n) c') W') ∧ W'.ownsRow base 9 1 (.slice A' (n0 + n) c') (n0 + n) ((L0 ++ l).flatMap strC) ∧ Below base W W' ∧ Out (Value.slice A0 n0 c0).ownBlock.toList W W' := by
  obtain ⟨v', w', h1, h2, h3, h4⟩ := run_append_slice (P := Tryz.prog) (E := Enc.str) (B := B) (ty := 40) strC (fun _ => rfl) (fun h => h.1) (by intro x u hu; simp [strC] at hu; subst hu; rfl) W (base := base) Tryz.underlying40 str_info rfl (by decide)
    hown hl (by simp [maxLen]; omega) (by omega) hb
  obtain ⟨A', c', rfl⟩ := own_form h2
  exact ⟨A', c', w', fun _ => h1, by rw [List.flatMap_append]; exact h2, h4, grown_out h3⟩
end Go.Proofs.YtfklheagafffmaaGreatDoor
