/- My own texts DgPut, as far as this claim needs them. -/
import Derived.Test.YtgphngjniplonaaGreatDoorZp28
set_option linter.unusedVariables false
set_option linter.unusedSimpArgs false
set_option maxRecDepth 1000000
set_option maxHeartbeats 16000000
namespace Go.Proofs.YtgphngjniplonaaGreatDoor
open Go.RowKit
def posE (l : List GEdge) (e : GEdge) : Nat := (l.takeWhile fun x => lessE x e).length
theorem putE_eq : ∀ (l : List GEdge) (e : GEdge), putE l e = if l[posE l e]? = some e then l else l.take (posE l e) ++ [e] ++ l.drop (posE l e)
 | [], e => by simp [putE, posE]
 | x :: t, e => by
  unfold putE posE
  rw [List.takeWhile_cons]
  by_cases h : lessE x e = true
  ·rw [if_pos h, if_pos h, putE_eq t e]
   simp only [List.length_cons, List.getElem?_cons_succ, List.take_succ_cons, List.drop_succ_cons]
   unfold posE
   split <;> rfl
  ·rw [if_neg h, if_neg h]
   simp only [List.length_nil, List.getElem?_cons_zero, Option.some.injEq, List.take_zero, List.drop_zero, List.nil_append, List.singleton_append]
theorem posE_le (l : List GEdge) (e : GEdge) : posE l e ≤ l.length := List.IsPrefix.length_le (List.takeWhile_prefix _)
theorem posE_at {l : List GEdge} {e x : GEdge} {k : Nat} (hk : k ≤ posE l e) (hx : l[k]? = some x) : (lessE x e = true → k + 1 ≤ posE l e) ∧ (lessE x e = false → k = posE l e) := by
 induction l generalizing k with
 | nil => simp at hx
 | cons y t ih =>
  unfold posE at hk ⊢
  rw [List.takeWhile_cons] at hk ⊢
  cases hy : lessE y e with
  | true =>
   rw [hy] at hk
   simp only [if_true, List.length_cons] at hk ⊢
   cases k with
   | zero =>
    simp at hx; subst hx
    exact ⟨fun _ => by omega, fun h => by rw [hy] at h; cases h⟩
   | succ k =>
    have h1 := ih (k := k) (by unfold posE; omega) (by simpa using hx)
    unfold posE at h1
    exact ⟨fun h => by have := h1.1 h; omega, fun h => by have := h1.2 h; omega⟩
  | false =>
   rw [hy] at hk
   simp at hk
   subst hk
   simp at hx; subst hx
   simp [hy]
section
variable {P : Program} {ops : Array Oper} {Q : Exit → Act → World → Prop}
theorem run_slice_toE {α : Type} {E : Enc α} {w : World} {B : Nat} {A : Option Addr} {n c : Nat} {l : List α} (h : SliceIs E w B A n c l) {t e : TypeId} (ht : P.underlying t = some (.slice e)) {i : TypeInfo} (hi : P.info? e = some i) {k : Nat} (hk : k ≤ n) :
  (∀ W, (Instr.sliceAt t (.slice A n c) none (some (.int .i64 (k : Int))) none).run P W = .ok (.slice A k c) W) ∧ SliceIs E w B A k c (l.take k) := by
 obtain ⟨h1, h2, h3, h4, h5⟩ := h
 refine ⟨?_, by rw [List.length_take]; omega, by omega, h3, by omega, ?_⟩
 ·intro W
  have e0 : A.map (fun x : Addr => x.add 0) = A := by
   cases A with
   | none => rfl
   | some a => simp [Addr.add]
  simp [Instr.sliceAt, Instr.slice, Instr.sliceBounds, Instr.sliceBound, asIntOf, run_underlying ht, sizeOf, typeInfo, hi, e0]
  intro h; omega
 ·rcases h5 with h5 | ⟨b, o, rfl, hb, hc⟩
  ·left; rw [h5]; simp
  ·right
   refine ⟨b, o, rfl, hb, fun i x hx => hc i x ?_⟩
   rw [List.getElem?_take] at hx
   split at hx
   ·exact hx
   ·cases hx
theorem run_slice_fromE {α : Type} {E : Enc α} {w : World} {B : Nat} {A : Option Addr} {n c : Nat} {l : List α} (h : SliceIs E w B A n c l) {t e : TypeId} (ht : P.underlying t = some (.slice e)) {i : TypeInfo} (hi : P.info? e = some i) (hs : i.size = E.sz) {k : Nat} (hk : k ≤ n) :
  ∃ S c', (∀ W, (Instr.sliceAt t (.slice A n c) (some (.int .i64 (k : Int))) none none).run P W = .ok (.slice S (n - k) c') W) ∧ SliceIs E w B S (n - k) c' (l.drop k) := by
 obtain ⟨h1, h2, h3, h4, h5⟩ := h
 refine ⟨if c = k then A else A.map (fun x : Addr => x.add (k * i.size)), c - k, ?_, ?_⟩
 ·intro W
  simp [Instr.sliceAt, Instr.slice, Instr.sliceBounds, Instr.sliceBound, asIntOf, run_underlying ht, sizeOf, typeInfo, hi]
  intro h; omega
 ·refine ⟨by rw [List.length_drop]; omega, by omega, by omega, by omega, ?_⟩
  rcases h5 with h5 | ⟨b, o, rfl, hb, hc⟩
  ·left; rw [h5]; simp
  ·by_cases hck : c = k
   ·left; apply List.eq_nil_of_length_eq_zero; rw [List.length_drop]; omega
   ·right
    rw [if_neg hck]
    refine ⟨b, o + k * E.sz, by simp [Addr.add, hs], hb, fun j x hx => ?_⟩
    rw [List.getElem?_drop] at hx
    obtain ⟨cs, hok, hcs⟩ := hc (k + j) x hx
    refine ⟨cs, hok, fun q v hv => ?_⟩
    have := hcs q v hv
    rwa [show o + (k + j) * E.sz + q = o + k * E.sz + j * E.sz + q by rw [Nat.add_mul]; omega] at this
end
theorem info_redge2 : (Tryz.prog.info? 49).map (fun i => (i.zero, i.size, i.bytes)) = some (some (.agg #[.int .i64 0, .int .i64 0, .bool false]), 3, 24) := by kernel_rfl
theorem edge_oneR (x : GEdge) : ∀ u ∈ x.cells, u.oneCell' = true := by
 intro u hu
 simp [GEdge.cells] at hu
 rcases hu with rfl | rfl | rfl <;> rfl
def RPutP (A : Option Addr) (l : List GEdge) (q : GEdge) (w : World) (r : Ending) (w' : World) : Prop :=
 ∃ A2 m2 c2, r = .returned (.slice A2 m2 c2) ∧ SliceIs Enc.edge w' w'.heap.size A2 m2 c2 (putE l q) ∧ Below w.heap.size w w' ∧ ∀ b ∈ blkOf A2, b ∈ blkOf A ∨ w.heap.size ≤ b
theorem refPutE_any (A : Option Addr) (n c : Nat) (l : List GEdge) (q : GEdge) (w : World) (h : SliceIs Enc.edge w w.heap.size A n c l) (hn : n ≤ 5000) (hq : q.ok) :
  Calls Tryz.prog 16 #[.slice A n c, q.v] w (RPutP A l q w) := by
 have mixed : Tryz.prog.follows .mixedOrders = true := by kernel_rfl
 obtain ⟨P, HP⟩ : ∃ P : Ending → World → Prop, Hid (P = RPutP A l q w) := ⟨_, rfl⟩
 rw [← HP.out]
 have HPE := Lib.hid (putE_eq l q)
 obtain ⟨V, hV⟩ : ∃ V, V = w.alloc (.cells #[.int .i64 q.a, .int .i64 q.b, .bool q.n] 49) := ⟨_, rfl⟩
 have HVe := Lib.hid hV.symm
 have hb : Below w.heap.size w V := by rw [hV]; exact belowA (Below.refl _ _) _
 have hr0 : V.heap[w.heap.size]? = some (.cells #[.int .i64 q.a, .int .i64 q.b, .bool q.n] 49 (0, 0)) := by rw [hV]; exact heapNew rfl
 have HS := Lib.hid (h.keep hb)
 have hgl := (Array.getElem?_eq_some_iff.1 hr0).1
 have HC : Hid (∀ W, Below V.heap.size V W → W.cell? ⟨w.heap.size, 0, none⟩ = some (.int .i64 q.a) ∧ W.cell? ⟨w.heap.size, 1, none⟩ = some (.int .i64 q.b) ∧ W.cell? ⟨w.heap.size, 2, none⟩ = some (.bool q.n)) := fun W hW =>
  facts3 ((hW.block _ hgl).trans hr0)
 have HRq : Hid (∀ W, Below V.heap.size V W → W.heap[w.heap.size]? = some (.cells (GEdge.cells q).toArray 49 (0, 0))) := fun W hW => (hW.block _ hgl).trans hr0
 have HB := Lib.hid hb
 have hlen : l.length = n := h.1
 have hpl : posE l q ≤ n := by rw [← hlen]; exact posE_le l q
 have Hlen := Lib.hid hlen
 have HOkl : ∀ e ∈ l, e.ok := fun x hx => by
  obtain ⟨i, hi, rfl⟩ := List.mem_iff_getElem.1 hx
  obtain ⟨b, o, y, -, -, hy, -, -, -, hok⟩ := h.edge_at (i := i) (by omega)
  have : l[i] = y := by have := hy.out; rw [List.getElem?_eq_getElem hi] at this; simpa using this
  rw [this]; exact hok
 have HOkAll : Hid (∀ j, ∀ e ∈ l.take j ++ [q] ++ l.drop j, e.ok) := fun j e he => by
  rcases List.mem_append.1 he with he | he
  ·rcases List.mem_append.1 he with he | he
   ·exact HOkl e (List.mem_of_mem_take he)
   ·rw [List.mem_singleton.1 he]; exact hq
  ·exact HOkl e (List.mem_of_mem_drop he)
 have HLs := Lib.hid (fun (x : GEdge) W => refLess_any x q W)
 clear hV hb hr0 h hlen HOkl hq
 go_enter Tryz.func16, Tryz.ntmps16
 go_wp2_with (rw [HVe.out])
 go_loopw [5] (fun i wr => ∃ j : Nat, j ≤ posE l q ∧ i = .int .i64 (j : Int) ∧ Hid (Below V.heap.size V wr)) (fun i _ => n - (intOf i).toNat)
 case atStart => exact ⟨0, Nat.zero_le _, rfl, Below.refl _ _⟩
 case round =>
  obtain ⟨j, hj, rfl, HBr⟩ := hrel
  have i0 : (0 : Int) ≤ (j : Int) := by omega
  by_cases hlt : j < n
  ·have i1 : (j : Int) < (n : Int) := by omega
   obtain ⟨b, o, x, rfl, hbb, hx, x0, x1, x2, -⟩ := (HS.out.keep HBr.out).edge_at hlt
   have HK : Hid (∀ W, Below wr.heap.size wr W → (W.cell? ⟨b, o + j * 3, none⟩ = some (.int .i64 x.a) ∧ W.cell? ⟨b, o + j * 3 + 1, none⟩ = some (.int .i64 x.b) ∧ W.cell? ⟨b, o + j * 3 + 2, none⟩ = some (.bool x.n)) ∧ (W.cell? ⟨w.heap.size, 0, none⟩ = some (.int .i64 q.a) ∧ W.cell? ⟨w.heap.size, 1, none⟩ = some (.int .i64 q.b) ∧ W.cell? ⟨w.heap.size, 2, none⟩ = some (.bool q.n))) := fun W hW =>
    ⟨⟨below_cell hW x0, below_cell hW x1, below_cell hW x2⟩, HC.out W (HBr.out.trans (hW.mono HBr.out.size))⟩
   have HL1 := Lib.hid (HLs.out x)
   obtain ⟨p1, p2⟩ := posE_at hj hx.out
   have HX2 := Lib.hid hx.out
   clear hx x0 x1 x2
   cases hle : lessE x q with
   | true =>
    rw [hle] at HL1
    have Hp1 := Lib.hid (p1 hle)
    clear p1 p2 hle
    go_wp2_with fail
    have hyu : undef = Value.tuple #[] := rfl
    refine drawnS mixed _ (Below wr.heap.size wr) rfl (by kernel_rfl) rfl (Below.drew (Below.refl _ _)) ?_
    iterate 10
     apply seqS_op
     ·intro W hW
      obtain ⟨⟨k1, k2, k3⟩, k4, k5, k6⟩ := HK.out W hW
      go_wp2_with fail
      exact ⟨rfl, rfl, fun d hd => by cases hd; simp only [List.getElem?_toArray, List.getElem?_cons_succ, List.getElem?_cons_zero]; rfl, hW⟩
     simp only [Act.put, List.setIfInBounds_toArray, List.set_cons_succ, List.set_cons_zero]
    apply seqS_op
    ·intro W hW
     go_wp2_with fail
     refine (HL1.out W).mono ?_
     rintro e w1 ⟨rfl, hb1⟩
     go_wp2_with fail
     exact ⟨rfl, rfl, fun d hd => by cases hd; simp only [List.getElem?_toArray, List.getElem?_cons_succ, List.getElem?_cons_zero]; rfl, hW.trans (hb1.mono hW.size)⟩
    simp only [Act.put, List.setIfInBounds_toArray, List.set_cons_succ, List.set_cons_zero]
    apply seqS_op
    ·intro W hW
     go_wp2_with fail
     exact ⟨rfl, rfl, fun d hd => by cases hd; simp only [List.getElem?_toArray, List.getElem?_cons_succ, List.getElem?_cons_zero]; rfl, hW⟩
    simp only [Act.put, List.setIfInBounds_toArray, List.set_cons_succ, List.set_cons_zero]
    clear hyu
    apply seqS_end
    intro W hW
    have HB2 : Hid (Below V.heap.size V W) := HBr.out.trans (hW.mono HBr.out.size)
    clear hW
    go_wp2_with fail
    go_roundw
    case rel => exact ⟨j + 1, Hp1.out, by go_num, HB2⟩
    case measure => simp [intOf]; omega
   | false =>
    rw [hle] at HL1
    have Hp2 := Lib.hid (p2 hle)
    clear p1 p2 hle
    go_wp2_with fail
    have hyu : undef = Value.tuple #[] := rfl
    refine drawnS mixed _ (Below wr.heap.size wr) rfl (by kernel_rfl) rfl (Below.drew (Below.refl _ _)) ?_
    iterate 10
     apply seqS_op
     ·intro W hW
      obtain ⟨⟨k1, k2, k3⟩, k4, k5, k6⟩ := HK.out W hW
      go_wp2_with fail
      exact ⟨rfl, rfl, fun d hd => by cases hd; simp only [List.getElem?_toArray, List.getElem?_cons_succ, List.getElem?_cons_zero]; rfl, hW⟩
     simp only [Act.put, List.setIfInBounds_toArray, List.set_cons_succ, List.set_cons_zero]
    apply seqS_op
    ·intro W hW
     go_wp2_with fail
     refine (HL1.out W).mono ?_
     rintro e w1 ⟨rfl, hb1⟩
     go_wp2_with fail
     exact ⟨rfl, rfl, fun d hd => by cases hd; simp only [List.getElem?_toArray, List.getElem?_cons_succ, List.getElem?_cons_zero]; rfl, hW.trans (hb1.mono hW.size)⟩
    simp only [Act.put, List.setIfInBounds_toArray, List.set_cons_succ, List.set_cons_zero]
    apply seqS_op
    ·intro W hW
     go_wp2_with fail
     exact ⟨rfl, rfl, fun d hd => by cases hd; simp only [List.getElem?_toArray, List.getElem?_cons_succ, List.getElem?_cons_zero]; rfl, hW⟩
    simp only [Act.put, List.setIfInBounds_toArray, List.set_cons_succ, List.set_cons_zero]
    clear hyu
    apply seqS_end
    intro W hW
    have HB2 : Hid (Below V.heap.size V W) := HBr.out.trans (hW.mono HBr.out.size)
    have HK2 := Lib.hid (HK.out W hW)
    clear hW
    have Hjk : Hid (j = posE l q) := Hp2.out
    have HOk : Hid (∀ e ∈ l.take j ++ [q] ++ l.drop j, e.ok) := HOkAll.out j
    have mixed2 := mixed
    by_cases hxq : x = q
    ·have HE : Hid (P (.returned (.slice (some ⟨b, o, none⟩) n c)) W.drew) := by
      show P _ _
      rw [HP.out]
      refine ⟨some ⟨b, o, none⟩, n, c, rfl, ?_, Below.drew (HB.out.trans (HB2.out.mono HB.out.size)), fun b' hb' => .inl hb'⟩
      rw [HPE.out, if_pos (by rw [← Hjk.out, ← hxq]; exact HX2.out)]
      exact HS.out.keep (Below.drew HB2.out)
     obtain ⟨⟨k1, k2, k3⟩, k4, k5, k6⟩ := HK2.out
     rw [hxq] at k1 k2 k3
     clear HK2 HK HL1 hxq
     go_wp2_with fail
     have hyu : undef = Value.tuple #[] := rfl
     refine drawnS mixed _ (fun W' => W' = W.drew) rfl (by kernel_rfl) rfl rfl ?_
     iterate 10
      apply seqS_op
      ·rintro W' rfl
       go_wp2_with fail
       exact ⟨rfl, rfl, fun d hd => by cases hd; simp only [List.getElem?_toArray, List.getElem?_cons_succ, List.getElem?_cons_zero]; rfl, rfl⟩
      simp only [Act.put, List.setIfInBounds_toArray, List.set_cons_succ, List.set_cons_zero]
     apply seqS_op (v := .bool true)
     ·rintro W' rfl
      go_wp2_with fail
      exact ⟨rfl, rfl, fun d hd => by cases hd; simp only [List.getElem?_toArray, List.getElem?_cons_succ, List.getElem?_cons_zero], rfl⟩
     simp only [Act.put, List.setIfInBounds_toArray, List.set_cons_succ, List.set_cons_zero]
     apply seqS_op
     ·rintro W' rfl
      go_wp2_with fail
      exact ⟨rfl, rfl, fun d hd => by cases hd; simp only [List.getElem?_toArray, List.getElem?_cons_succ, List.getElem?_cons_zero]; rfl, rfl⟩
     simp only [Act.put, List.setIfInBounds_toArray, List.set_cons_succ, List.set_cons_zero]
     clear hyu
     apply seqS_end
     rintro W' rfl
     go_wp2
     exact HE.out
    ·have HNE := Lib.hid hxq
     have HPk : Hid (putE l q = l.take j ++ [q] ++ l.drop j) := by
      show _ = _
      rw [HPE.out, ← Hjk.out, if_neg (by rw [HX2.out]; intro e; exact hxq (by injection e))]
     obtain ⟨⟨k1, k2, k3⟩, k4, k5, k6⟩ := HK2.out
     have HKle : Hid (j ≤ n) := by show _ ≤ _; omega
     clear HK2 HK HL1 hxq
     go_wp2_with fail
     have hyu : undef = Value.tuple #[] := rfl
     refine drawnS mixed _ (fun W' => W' = W.drew) rfl (by kernel_rfl) rfl rfl ?_
     iterate 10
      apply seqS_op
      ·rintro W' rfl
       go_wp2_with fail
       exact ⟨rfl, rfl, fun d hd => by cases hd; simp only [List.getElem?_toArray, List.getElem?_cons_succ, List.getElem?_cons_zero]; rfl, rfl⟩
      simp only [Act.put, List.setIfInBounds_toArray, List.set_cons_succ, List.set_cons_zero]
     apply seqS_op (v := .bool false)
     ·rintro W' rfl
      go_wp2_with fail
      all_goals first
       | exact absurd (edge_ext (by assumption) (by assumption) (by assumption)) HNE.out
       | exact ⟨rfl, rfl, fun d hd => by cases hd; simp only [List.getElem?_toArray, List.getElem?_cons_succ, List.getElem?_cons_zero]; done, rfl⟩
     simp only [Act.put, List.setIfInBounds_toArray, List.set_cons_succ, List.set_cons_zero]
     apply seqS_op
     ·rintro W' rfl
      go_wp2_with fail
      exact ⟨rfl, rfl, fun d hd => by cases hd; simp only [List.getElem?_toArray, List.getElem?_cons_succ, List.getElem?_cons_zero]; rfl, rfl⟩
     simp only [Act.put, List.setIfInBounds_toArray, List.set_cons_succ, List.set_cons_zero]
     clear hyu
     apply seqS_end
     rintro W' rfl
     have HBX : Hid (Below V.heap.size V W.drew) := Below.drew HB2.out
     clear k1 k2 k3 k4 k5 k6
     obtain ⟨X, hX⟩ : ∃ X, X = W.drew := ⟨_, rfl⟩
     rw [← hX] at HBX ⊢
     clear hX
     go_wp2_with fail

     obtain ⟨X0, HX0e⟩ : ∃ X0, Hid (X0 = X.drew) := ⟨_, rfl⟩
     have HX0 : Hid (Below V.heap.size V X0) := by show Below _ _ _; rw [HX0e.out]; exact Below.drew HBX.out
     obtain ⟨i0_, hi0_, -, hi1_, -⟩ := info_parts info_redge2
     obtain ⟨hru1, hsl1⟩ := run_slice_toE (HS.out.keep HX0.out) Tryz.underlying33 hi0_ HKle.out
     obtain ⟨S5, c5, hru5, hsl5⟩ := run_slice_fromE (HS.out.keep HX0.out) Tryz.underlying33 hi0_ hi1_ HKle.out
     have HRu1 := Lib.hid hru1
     have HRu5 := Lib.hid hru5
     have HS1 := Lib.hid hsl1
     have HS5 := Lib.hid hsl5
     clear hru1 hru5 hsl1 hsl5 hi1_
     have HM1 : Hid (0 + j ≤ maxLen ∧ (0 + j) * 24 ≤ 140737488355328 ∧ j + 1 ≤ maxLen ∧ (j + 1) * 24 ≤ 140737488355328 ∧ j + 1 + (n - j) ≤ maxLen ∧ (j + 1 + (n - j)) * 24 ≤ 140737488355328) := put_bounds HKle.out hn
     refine drawnU3 mixed 12 45 [33, 34, 35, 36, 37, 38, 39, 40, 41, 42, 43, 44] (fun W => Below X0.heap.size X0 W) (putF l q (some ⟨b, o, none⟩) n c j S5 c5 X0.heap.size) (putR X0.heap.size) putUse putPair rfl (by kernel_rfl) (by kernel_rfl) (by kernel_rfl) rfl (by rw [HX0e.out]; exact Below.refl _ _) (fun i j v W W' hij hp h hr => putF_keep hij hp h hr) (fun i W W' hg hr => putR_glob rfl hg hr) ?_ ?_
     ·intro i o2 a2 W hi ho hd hold hG hw
      have hr0 : a2.tmps[0]? = some (.slice (some ⟨b, o, none⟩) n c) := hold 0 (by kernel_rfl)
      have hr5 : a2.tmps[5]? = some (.int .i64 (j : Int)) := hold 5 (by kernel_rfl)
      have hr3 : a2.tmps[3]? = some (.pointer (some ⟨w.heap.size, 0, none⟩)) := hold 3 (by kernel_rfl)
      have hzW := hG.size
      clear hold
      match i, hi, ho with
      | 0, _, ho =>
       injection ho with ho; subst ho
       exact op_empty 33 49 rfl Tryz.underlying33 hi0_ ⟨_, rfl, belowA (Below.refl _ _) _, _, rfl, hzW, heapNew rfl⟩
      | 1, _, ho =>
       injection ho with ho; subst ho
       exact op_val _ (by simp [execOp, Act.eval, hr0, go_sem]) ⟨_, rfl, rfl, rfl⟩
      | 2, _, ho =>
       injection ho with ho; subst ho
       exact op_val _ (by simp [execOp, Act.eval, hr5, go_sem]) ⟨_, rfl, rfl, rfl⟩
      | 3, _, ho =>
       obtain ⟨v1, h1, e1⟩ := hw 1 34 (by kernel_rfl)
       obtain ⟨v2, h2, e2⟩ := hw 2 35 (by kernel_rfl)
       obtain rfl : v1 = _ := e1
       obtain rfl : v2 = _ := e2
       injection ho with ho; subst ho
       exact op_val _ (by simp [execOp, Act.eval, h1, h2, HRu1.out]) ⟨_, rfl, rfl, rfl⟩
      | 4, _, ho =>
       obtain ⟨v0, h0, g0, rfl, hg0, hr⟩ := hw 0 33 (by kernel_rfl)
       obtain ⟨v3, h3, e3⟩ := hw 3 36 (by kernel_rfl)
       obtain rfl : v3 = _ := e3
       obtain ⟨v2, w2, u1, u2, u3, u4⟩ := run_append_slice (P := Tryz.prog) (E := Enc.edge) (B := W.heap.size) (ty := 33) GEdge.cells (fun _ => rfl) (fun h => h.1) edge_oneR W (base := X0.heap.size) Tryz.underlying33 info_redge2 rfl (by decide) (own_empty hg0 hr) (HS1.out.keep hG) HM1.out.1 HM1.out.2.1 hzW
       obtain ⟨A2, c2, rfl⟩ := own_form u2
       rw [Nat.zero_add] at u1 u2
       rw [List.nil_append] at u2
       injection ho with ho; subst ho
       exact op_append _ _ _ rfl _ _ (eval_tmp h0) (eval_tmp h3) u1 ⟨_, rfl, ⟨u4, g0, hr, u3⟩, A2, c2, rfl, u2⟩
      | 5, _, ho =>
       injection ho with ho; subst ho
       exact wp_load_mid 49 (.tmp 3) rfl _ _ (eval_tmp hr3) (GEdge.cells q) _ (range_rowR (HRq.out W (HX0.out.trans (hG.mono HX0.out.size)))) Tryz.underlying49 rfl (by kernel_rfl) ⟨_, rfl, rfl, rfl⟩
      | 6, _, ho =>
       obtain ⟨v5, h5, e5⟩ := hw 5 38 (by kernel_rfl)
       obtain rfl : v5 = _ := e5
       injection ho with ho; subst ho
       exact op_bslice 33 49 1 _ rfl 3 [q.v] Tryz.underlying33 (by kernel_rfl) (by decide) rfl (by decide) (by decide) (by simp [Act.eval, h5]) (fun v hv => by simp at hv; subst hv; rfl) ⟨_, rfl, belowA (Below.refl _ _) _, _, rfl, hzW, (heapNew rfl : (W.alloc (.cells (GEdge.cells q).toArray 49)).heap[W.heap.size]? = _)⟩
      | 7, _, ho =>
       obtain ⟨v4, h4, A2, c2, rfl, ho2⟩ := hw 4 37 (by kernel_rfl)
       obtain ⟨v6, h6, g6, rfl, hg6, hr6⟩ := hw 6 39 (by kernel_rfl)
       obtain ⟨v7, w7, u1, u2, u3, u4⟩ := run_push_at (P := Tryz.prog) (ty := 33) W (base := X0.heap.size) Tryz.underlying33 info_redge2 rfl (by decide) ho2 g6 (GEdge.cells q) rfl hr6 (edge_oneR q) HM1.out.2.2.1 HM1.out.2.2.2.1 hzW
       obtain ⟨A4, c4, rfl⟩ := own_form u2
       injection ho with ho; subst ho
       exact op_append _ _ _ rfl _ _ (eval_tmp h4) (eval_tmp h6) u1 ⟨_, rfl, u4, A4, c4, rfl, by rw [List.flatMap_append]; simpa using u2⟩
      | 8, _, ho =>
       injection ho with ho; subst ho
       exact op_val _ (by simp [execOp, Act.eval, hr0, go_sem]) ⟨_, rfl, rfl, rfl⟩
      | 9, _, ho =>
       injection ho with ho; subst ho
       exact op_val _ (by simp [execOp, Act.eval, hr5, go_sem]) ⟨_, rfl, rfl, rfl⟩
      | 10, _, ho =>
       obtain ⟨v1, h1, e1⟩ := hw 8 41 (by kernel_rfl)
       obtain ⟨v2, h2, e2⟩ := hw 9 42 (by kernel_rfl)
       obtain rfl : v1 = _ := e1
       obtain rfl : v2 = _ := e2
       injection ho with ho; subst ho
       exact op_val _ (by simp [execOp, Act.eval, h1, h2, HRu5.out]) ⟨_, rfl, rfl, rfl⟩
      | 11, _, ho =>
       obtain ⟨v7, h7, A4, c4, rfl, ho4⟩ := hw 7 40 (by kernel_rfl)
       obtain ⟨v10, h10, e10⟩ := hw 10 43 (by kernel_rfl)
       obtain rfl : v10 = _ := e10
       obtain ⟨v8, w8, u1, u2, u3, u4⟩ := run_append_slice (P := Tryz.prog) (E := Enc.edge) (B := W.heap.size) (ty := 33) GEdge.cells (fun _ => rfl) (fun h => h.1) edge_oneR W (base := X0.heap.size) Tryz.underlying33 info_redge2 rfl (by decide) ho4 (HS5.out.keep hG) HM1.out.2.2.2.2.1 HM1.out.2.2.2.2.2 hzW
       obtain ⟨A7, c7, rfl⟩ := own_form u2
       injection ho with ho; subst ho
       exact op_append _ _ _ rfl _ _ (eval_tmp h7) (eval_tmp h10) u1 ⟨_, rfl, u4, A7, c7, rfl, by rw [List.flatMap_append]; exact u2⟩
      | n_ + 12, hi, _ => omega
     ·intro o2 u W9 ho hG hw
      obtain ⟨A7, c7, e0, ho7⟩ := hw 11 44 (by decide) rfl (by kernel_rfl)
      have HO7 := Lib.hid ho7
      have HB9 := Lib.hid hG
      clear hw hG ho7
      have hop : o2.op = .assign (.tmp 44) := by injection ho with ho; subst ho; rfl
      have hds : o2.dst = some 4 := by injection ho with ho; subst ho; rfl
      clear ho
      simp only [List.foldl_cons, List.foldl_nil, Act.put, List.setIfInBounds_toArray, List.set_cons_zero, List.set_cons_succ]
      rw [e0]
      have hkn := HKle.out
      have HE : Hid (P (.returned (.slice A7 (j + 1 + (n - j)) c7)) W9) := by
       show P _ _
       rw [HP.out]
       refine ⟨A7, _, c7, rfl, ?_, HB.out.trans ((HX0.out.trans (HB9.out.mono HX0.out.size)).mono HB.out.size), fun b' hb' => .inr (Nat.le_trans HB.out.size (Nat.le_trans HX0.out.size (HO7.out.lt b' (by rw [← ownBlock_blk] at hb'; exact Option.mem_toList.1 hb')).1))⟩
       rw [HPk.out]
       exact SliceIs.of_flat (E := Enc.edge) GEdge.cells (fun _ => rfl) HO7.out (by first | (simp [Hlen.out]; done) | (simp [Hlen.out]; omega)) (by simp [reachN]; omega) (fun e he => ⟨rfl, HOk.out e he⟩)
      obtain ⟨rv, Hrv⟩ : ∃ rv, Hid (rv = (Value.slice A7 (j + 1 + (n - j)) c7)) := ⟨_, rfl⟩
      rw [← Hrv.out] at HE ⊢
      refine op_val rv (by simp [execOp, hop, Act.eval]) ?_
      rw [hds]
      clear HO7 HB9 HX0 HS1 HS5 HRu1 HRu5 e0 hkn
      simp only [Act.put, List.setIfInBounds_toArray, List.set_cons_succ, List.set_cons_zero]
      go_wp2
      exact HE.out

  ·have i1 : ¬ (j : Int) < (n : Int) := by omega
   obtain rfl : j = n := by omega
   have hyu : undef = Value.tuple #[] := rfl
   go_wp2_with fail
   refine drawnS mixed _ (Below wr.heap.size wr) rfl (by kernel_rfl) rfl (Below.drew (Below.refl _ _)) ?_
   iterate 12
    apply seqS_op
    ·intro W hW
     go_wp2_with fail
     exact ⟨rfl, rfl, fun d hd => by cases hd; simp only [List.getElem?_toArray, List.getElem?_cons_succ, List.getElem?_cons_zero]; rfl, hW⟩
    simp only [Act.put, List.setIfInBounds_toArray, List.set_cons_succ, List.set_cons_zero]
   clear hyu
   apply seqS_end
   intro W hW
   have HB2 : Hid (Below V.heap.size V W) := HBr.out.trans (hW.mono HBr.out.size)
   clear hW
   have Hjp : Hid (posE l q = j) := by show _ = _; omega
   have HOk : Hid (∀ e ∈ l.take j ++ [q] ++ l.drop j, e.ok) := HOkAll.out j
   have HPk : Hid (putE l q = l.take j ++ [q] ++ l.drop j) := by
    show _ = _
    rw [HPE.out, Hjp.out, if_neg (by rw [List.getElem?_eq_none (by rw [Hlen.out]; exact Nat.le_refl _)]; intro e; cases e)]
   have HKle : Hid (j ≤ j) := Nat.le_refl _
   go_wp2_with fail
   have hyu : undef = Value.tuple #[] := rfl
   refine drawnS mixed _ (fun W' => W' = W.drew) rfl (by kernel_rfl) rfl rfl ?_
   iterate 12
    apply seqS_op
    ·rintro W' rfl
     go_wp2_with fail
     exact ⟨rfl, rfl, fun d hd => by cases hd; simp only [List.getElem?_toArray, List.getElem?_cons_succ, List.getElem?_cons_zero]; rfl, rfl⟩
    simp only [Act.put, List.setIfInBounds_toArray, List.set_cons_succ, List.set_cons_zero]
   clear hyu
   apply seqS_end
   rintro W' rfl
   have HBX : Hid (Below V.heap.size V W.drew) := Below.drew HB2.out
   obtain ⟨X, hX⟩ : ∃ X, X = W.drew := ⟨_, rfl⟩
   rw [← hX] at HBX ⊢
   clear hX
   go_wp2_with fail

   obtain ⟨X0, HX0e⟩ : ∃ X0, Hid (X0 = X.drew) := ⟨_, rfl⟩
   have HX0 : Hid (Below V.heap.size V X0) := by show Below _ _ _; rw [HX0e.out]; exact Below.drew HBX.out
   obtain ⟨i0_, hi0_, -, hi1_, -⟩ := info_parts info_redge2
   obtain ⟨hru1, hsl1⟩ := run_slice_toE (HS.out.keep HX0.out) Tryz.underlying33 hi0_ HKle.out
   obtain ⟨S5, c5, hru5, hsl5⟩ := run_slice_fromE (HS.out.keep HX0.out) Tryz.underlying33 hi0_ hi1_ HKle.out
   have HRu1 := Lib.hid hru1
   have HRu5 := Lib.hid hru5
   have HS1 := Lib.hid hsl1
   have HS5 := Lib.hid hsl5
   clear hru1 hru5 hsl1 hsl5 hi1_
   have HM1 : Hid (0 + j ≤ maxLen ∧ (0 + j) * 24 ≤ 140737488355328 ∧ j + 1 ≤ maxLen ∧ (j + 1) * 24 ≤ 140737488355328 ∧ j + 1 + (j - j) ≤ maxLen ∧ (j + 1 + (j - j)) * 24 ≤ 140737488355328) := put_bounds HKle.out hn
   refine drawnU3 mixed 12 45 [33, 34, 35, 36, 37, 38, 39, 40, 41, 42, 43, 44] (fun W => Below X0.heap.size X0 W) (putF l q A j c j S5 c5 X0.heap.size) (putR X0.heap.size) putUse putPair rfl (by kernel_rfl) (by kernel_rfl) (by kernel_rfl) rfl (by rw [HX0e.out]; exact Below.refl _ _) (fun i j v W W' hij hp h hr => putF_keep hij hp h hr) (fun i W W' hg hr => putR_glob rfl hg hr) ?_ ?_
   ·intro i o2 a2 W hi ho hd hold hG hw
    have hr0 : a2.tmps[0]? = some (.slice A j c) := hold 0 (by kernel_rfl)
    have hr5 : a2.tmps[5]? = some (.int .i64 (j : Int)) := hold 5 (by kernel_rfl)
    have hr3 : a2.tmps[3]? = some (.pointer (some ⟨w.heap.size, 0, none⟩)) := hold 3 (by kernel_rfl)
    have hzW := hG.size
    clear hold
    match i, hi, ho with
    | 0, _, ho =>
     injection ho with ho; subst ho
     exact op_empty 33 49 rfl Tryz.underlying33 hi0_ ⟨_, rfl, belowA (Below.refl _ _) _, _, rfl, hzW, heapNew rfl⟩
    | 1, _, ho =>
     injection ho with ho; subst ho
     exact op_val _ (by simp [execOp, Act.eval, hr0, go_sem]) ⟨_, rfl, rfl, rfl⟩
    | 2, _, ho =>
     injection ho with ho; subst ho
     exact op_val _ (by simp [execOp, Act.eval, hr5, go_sem]) ⟨_, rfl, rfl, rfl⟩
    | 3, _, ho =>
     obtain ⟨v1, h1, e1⟩ := hw 1 34 (by kernel_rfl)
     obtain ⟨v2, h2, e2⟩ := hw 2 35 (by kernel_rfl)
     obtain rfl : v1 = _ := e1
     obtain rfl : v2 = _ := e2
     injection ho with ho; subst ho
     exact op_val _ (by simp [execOp, Act.eval, h1, h2, HRu1.out]) ⟨_, rfl, rfl, rfl⟩
    | 4, _, ho =>
     obtain ⟨v0, h0, g0, rfl, hg0, hr⟩ := hw 0 33 (by kernel_rfl)
     obtain ⟨v3, h3, e3⟩ := hw 3 36 (by kernel_rfl)
     obtain rfl : v3 = _ := e3
     obtain ⟨v2, w2, u1, u2, u3, u4⟩ := run_append_slice (P := Tryz.prog) (E := Enc.edge) (B := W.heap.size) (ty := 33) GEdge.cells (fun _ => rfl) (fun h => h.1) edge_oneR W (base := X0.heap.size) Tryz.underlying33 info_redge2 rfl (by decide) (own_empty hg0 hr) (HS1.out.keep hG) HM1.out.1 HM1.out.2.1 hzW
     obtain ⟨A2, c2, rfl⟩ := own_form u2
     rw [Nat.zero_add] at u1 u2
     rw [List.nil_append] at u2
     injection ho with ho; subst ho
     exact op_append _ _ _ rfl _ _ (eval_tmp h0) (eval_tmp h3) u1 ⟨_, rfl, ⟨u4, g0, hr, u3⟩, A2, c2, rfl, u2⟩
    | 5, _, ho =>
     injection ho with ho; subst ho
     exact wp_load_mid 49 (.tmp 3) rfl _ _ (eval_tmp hr3) (GEdge.cells q) _ (range_rowR (HRq.out W (HX0.out.trans (hG.mono HX0.out.size)))) Tryz.underlying49 rfl (by kernel_rfl) ⟨_, rfl, rfl, rfl⟩
    | 6, _, ho =>
     obtain ⟨v5, h5, e5⟩ := hw 5 38 (by kernel_rfl)
     obtain rfl : v5 = _ := e5
     injection ho with ho; subst ho
     exact op_bslice 33 49 1 _ rfl 3 [q.v] Tryz.underlying33 (by kernel_rfl) (by decide) rfl (by decide) (by decide) (by simp [Act.eval, h5]) (fun v hv => by simp at hv; subst hv; rfl) ⟨_, rfl, belowA (Below.refl _ _) _, _, rfl, hzW, (heapNew rfl : (W.alloc (.cells (GEdge.cells q).toArray 49)).heap[W.heap.size]? = _)⟩
    | 7, _, ho =>
     obtain ⟨v4, h4, A2, c2, rfl, ho2⟩ := hw 4 37 (by kernel_rfl)
     obtain ⟨v6, h6, g6, rfl, hg6, hr6⟩ := hw 6 39 (by kernel_rfl)
     obtain ⟨v7, w7, u1, u2, u3, u4⟩ := run_push_at (P := Tryz.prog) (ty := 33) W (base := X0.heap.size) Tryz.underlying33 info_redge2 rfl (by decide) ho2 g6 (GEdge.cells q) rfl hr6 (edge_oneR q) HM1.out.2.2.1 HM1.out.2.2.2.1 hzW
     obtain ⟨A4, c4, rfl⟩ := own_form u2
     injection ho with ho; subst ho
     exact op_append _ _ _ rfl _ _ (eval_tmp h4) (eval_tmp h6) u1 ⟨_, rfl, u4, A4, c4, rfl, by rw [List.flatMap_append]; simpa using u2⟩
    | 8, _, ho =>
     injection ho with ho; subst ho
     exact op_val _ (by simp [execOp, Act.eval, hr0, go_sem]) ⟨_, rfl, rfl, rfl⟩
    | 9, _, ho =>
     injection ho with ho; subst ho
     exact op_val _ (by simp [execOp, Act.eval, hr5, go_sem]) ⟨_, rfl, rfl, rfl⟩
    | 10, _, ho =>
     obtain ⟨v1, h1, e1⟩ := hw 8 41 (by kernel_rfl)
     obtain ⟨v2, h2, e2⟩ := hw 9 42 (by kernel_rfl)
     obtain rfl : v1 = _ := e1
     obtain rfl : v2 = _ := e2
     injection ho with ho; subst ho
     exact op_val _ (by simp [execOp, Act.eval, h1, h2, HRu5.out]) ⟨_, rfl, rfl, rfl⟩
    | 11, _, ho =>
     obtain ⟨v7, h7, A4, c4, rfl, ho4⟩ := hw 7 40 (by kernel_rfl)
     obtain ⟨v10, h10, e10⟩ := hw 10 43 (by kernel_rfl)
     obtain rfl : v10 = _ := e10
     obtain ⟨v8, w8, u1, u2, u3, u4⟩ := run_append_slice (P := Tryz.prog) (E := Enc.edge) (B := W.heap.size) (ty := 33) GEdge.cells (fun _ => rfl) (fun h => h.1) edge_oneR W (base := X0.heap.size) Tryz.underlying33 info_redge2 rfl (by decide) ho4 (HS5.out.keep hG) HM1.out.2.2.2.2.1 HM1.out.2.2.2.2.2 hzW
     obtain ⟨A7, c7, rfl⟩ := own_form u2
     injection ho with ho; subst ho
     exact op_append _ _ _ rfl _ _ (eval_tmp h7) (eval_tmp h10) u1 ⟨_, rfl, u4, A7, c7, rfl, by rw [List.flatMap_append]; exact u2⟩
    | n_ + 12, hi, _ => omega
   ·intro o2 u W9 ho hG hw
    obtain ⟨A7, c7, e0, ho7⟩ := hw 11 44 (by decide) rfl (by kernel_rfl)
    have HO7 := Lib.hid ho7
    have HB9 := Lib.hid hG
    clear hw hG ho7
    have hop : o2.op = .assign (.tmp 44) := by injection ho with ho; subst ho; rfl
    have hds : o2.dst = some 4 := by injection ho with ho; subst ho; rfl
    clear ho
    simp only [List.foldl_cons, List.foldl_nil, Act.put, List.setIfInBounds_toArray, List.set_cons_zero, List.set_cons_succ]
    rw [e0]
    have hkn := HKle.out
    have HE : Hid (P (.returned (.slice A7 (j + 1 + (j - j)) c7)) W9) := by
     show P _ _
     rw [HP.out]
     refine ⟨A7, _, c7, rfl, ?_, HB.out.trans ((HX0.out.trans (HB9.out.mono HX0.out.size)).mono HB.out.size), fun b' hb' => .inr (Nat.le_trans HB.out.size (Nat.le_trans HX0.out.size (HO7.out.lt b' (by rw [← ownBlock_blk] at hb'; exact Option.mem_toList.1 hb')).1))⟩
     rw [HPk.out]
     exact SliceIs.of_flat (E := Enc.edge) GEdge.cells (fun _ => rfl) HO7.out (by first | (simp [Hlen.out]; done) | (simp [Hlen.out]; omega)) (by simp [reachN]; omega) (fun e he => ⟨rfl, HOk.out e he⟩)
    obtain ⟨rv, Hrv⟩ : ∃ rv, Hid (rv = (Value.slice A7 (j + 1 + (j - j)) c7)) := ⟨_, rfl⟩
    rw [← Hrv.out] at HE ⊢
    refine op_val rv (by simp [execOp, hop, Act.eval]) ?_
    rw [hds]
    clear HO7 HB9 HX0 HS1 HS5 HRu1 HRu5 e0 hkn
    simp only [Act.put, List.setIfInBounds_toArray, List.set_cons_succ, List.set_cons_zero]
    go_wp2
    exact HE.out
end Go.Proofs.YtgphngjniplonaaGreatDoor
