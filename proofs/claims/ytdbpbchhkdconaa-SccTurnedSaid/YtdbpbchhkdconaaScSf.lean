/- The parts, put in order by their first nodes: slices.SortFunc over Components' own comparison. -/
import Derived.Test.YtdbpbchhkdconaaScL
import Derived.Test.YtdbpbchhkdconaaDrawnS
import Derived.Test.YtdbpbchhkdconaaScRn
namespace Go.Proofs.Ytdbpbchhkdconaa
open Go.RowKit Go.Sort Go.Shelf Go.Lib

set_option maxRecDepth 100000 in
set_option maxHeartbeats 1000000 in
theorem comp1_any (w : World) (b1 o1 b2 o2 n1 c1 n2 c2 x y : Nat) (h1 : 0 < n1) (h2 : 0 < n2) (hx : x ≤ 1000) (hy : y ≤ 1000) (hp1 : w.cell? ⟨b1, o1, none⟩ = some (.int .i64 (x : Int))) (hp2 : w.cell? ⟨b2, o2, none⟩ = some (.int .i64 (y : Int))) :
    Calls Try.prog 28 #[.slice (some ⟨b1, o1, none⟩) n1 c1, .slice (some ⟨b2, o2, none⟩) n2 c2] w (fun e w' => e = .returned (.int .i64 ((x : Int) - (y : Int))) ∧ w' = w.drew) := by
  have mixed : Try.prog.follows .mixedOrders = true := by kernel_rfl
  have i1 : (0 : Int) < (n1 : Int) := by omega
  have i2 : (0 : Int) < (n2 : Int) := by omega
  go_enter Try.func28, Try.ntmps28
  go_wp2_with fail
  refine drawnS mixed _ (fun W => W = w.drew) rfl (by kernel_rfl) rfl rfl ?_
  iterate 8
    apply seqS_op
    · rintro W rfl
      go_wp2_with fail
      exact ⟨rfl, rfl, fun d hd => by cases hd; simp only [List.getElem?_toArray, List.getElem?_cons_succ, List.getElem?_cons_zero]; rfl, rfl⟩
    simp only [Act.put, List.setIfInBounds_toArray, List.set_cons_succ, List.set_cons_zero]
  apply seqS_end
  rintro W rfl
  go_wp2_with fail
  go_ret
  exact ⟨rfl, rfl⟩

theorem cells_slice (xs : List Value) {n : Nat} (hn : xs.length = n) {w : World} {B : Nat} {outs : List (List Nat)} (hl : outs.length = n)
    (h : ∀ i x, outs[i]? = some x → ∃ A m c, (xs.drop (i * 1)).take 1 = [Value.slice A m c] ∧ SliceIs Enc.nat w B A m c x) :
    ∃ f : Fin n → Option Addr × Nat × Nat, ∃ g : Fin n → List Nat, xs = (List.finRange n).map (fun i => Value.slice (f i).1 (f i).2.1 (f i).2.2) ∧ outs = (List.finRange n).map g ∧ ∀ i, SliceIs Enc.nat w B (f i).1 (f i).2.1 (f i).2.2 (g i) := by
  have h1 : ∀ i : Fin n, ∃ A m c, xs[i.1]? = some (Value.slice A m c) ∧ SliceIs Enc.nat w B A m c (outs[i.1]'(by omega)) := fun i => by
    obtain ⟨A, m, c, e, hs⟩ := h i.1 _ (List.getElem?_eq_getElem (by omega))
    refine ⟨A, m, c, ?_, hs⟩
    have : ((xs.drop (i.1 * 1)).take 1)[0]? = some (.slice A m c) := by rw [e]; rfl
    rw [List.getElem?_take, if_pos (by omega), List.getElem?_drop] at this
    simpa using this
  refine ⟨fun i => ((h1 i).choose, (h1 i).choose_spec.choose, (h1 i).choose_spec.choose_spec.choose), fun i => outs[i.1]'(by omega), ?_, ?_, fun i => (h1 i).choose_spec.choose_spec.choose_spec.2⟩
  · apply List.ext_getElem?
    intro i
    by_cases hi : i < n
    · rw [List.getElem?_map, List.getElem?_eq_getElem (l := List.finRange n) (by simpa using hi), List.getElem_finRange, Option.map_some]
      exact (h1 ⟨i, hi⟩).choose_spec.choose_spec.choose_spec.1
    · rw [List.getElem?_eq_none (by omega), List.getElem?_eq_none (by simp; omega)]
  · apply List.ext_getElem?
    intro i
    by_cases hi : i < n
    · rw [List.getElem?_map, List.getElem?_eq_getElem (l := List.finRange n) (by simpa using hi)]
      simp [List.getElem?_eq_getElem (l := outs) (i := i) (by omega)]
    · rw [List.getElem?_eq_none (by omega), List.getElem?_eq_none (by simp; omega)]

def SortPost (B : Nat) (S : List Nat) (A : Option Addr) (n c : Nat) (outs : List (List Nat)) (w : World) (e : Ending) (w' : World) : Prop :=
  e = .returned (.tuple #[]) ∧ ∃ L : List (List Nat), L.Perm outs ∧ L.Pairwise (fun p q => p.headD 0 < q.headD 0) ∧ RowOf (Enc.slice Enc.nat) w' B 29 S A n c L ∧ Out (blkOf A) w w'

set_option maxRecDepth 100000 in
set_option maxHeartbeats 2000000 in
theorem sortParts_any (w : World) (B : Nat) (S : List Nat) (A : Option Addr) (n c : Nat) (outs : List (List Nat)) (h : RowOf (Enc.slice Enc.nat) w B 29 S A n c outs) (hA : ∀ b ∈ blkOf A, b ∈ S) (hn : n ≤ 1000) (hne : ∀ q ∈ outs, q ≠ [])
    (hd : ∀ (i j : Nat) (x y : List Nat), outs[i]? = some x → outs[j]? = some y → x.headD 0 = y.headD 0 → i = j) :
    Calls Try.prog 27 #[.slice A n c, .func (.func 28) #[] #[]] w (SortPost B S A n c outs w) := by
  obtain ⟨h0, xs, hown, hok⟩ := h
  rcases Nat.eq_zero_or_pos n with hz | hpos
  · subst hz
    refine (@Try.slices_SortFunc_none Nat _ A c _ w).mono ?_
    rintro e w' ⟨rfl, rfl⟩
    obtain rfl : outs = [] := List.eq_nil_of_length_eq_zero h0
    exact ⟨rfl, [], List.Perm.nil, List.Pairwise.nil, ⟨rfl, xs, hown, hok⟩, Out.refl _ _⟩
  obtain ⟨b, rfl⟩ : ∃ b, A = some ⟨b, 0, none⟩ := by
    rcases hown.2 with ⟨hv, h1⟩ | ⟨g, cap, cur, hv, r⟩
    · omega
    · simp only [Value.slice.injEq] at hv
      exact ⟨g, hv.1⟩
  have hbS : b ∈ S := hA b (by simp [blkOf])
  have hbl : b < w.heap.size := (own_blk hown rfl).2
  have hxl : xs.length = n := by have : xs.length = n * 1 := hown.1; omega
  obtain ⟨f, g, rfl, rfl, hfg⟩ := cells_slice xs hxl (w := sans w S) (B := w.heap.size) h0 (fun i x hx => hok i x hx)
  have hinh : Inhabited (Fin n) := ⟨⟨0, hpos⟩⟩
  have hg0 : ∀ i, ∃ x t, g i = x :: t := fun i => by
    have := hne (g i) (List.mem_map.2 ⟨i, List.mem_finRange i, rfl⟩)
    cases hgi : g i with
    | nil => exact absurd hgi this
    | cons x t => exact ⟨x, t, rfl⟩
  have hinj : ∀ i j, (g i).headD 0 = (g j).headD 0 → i = j := fun i j hh => by
    have e : ∀ k : Fin n, ((List.finRange n).map g)[k.1]? = some (g k) := fun k => by
      rw [List.getElem?_map, List.getElem?_eq_getElem (by simp)]; simp
    exact Fin.ext (hd i.1 j.1 _ _ (e i) (e j) hh)
  let cf : Fin n → Fin n → Int := fun i j => (((g i).headD 0 : Nat) : Int) - (((g j).headD 0 : Nat) : Int)
  have hlt : ∀ i j, ltOf cf i j = decide ((g i).headD 0 < (g j).headD 0) := fun i j => by
    show decide (cf i j < 0) = _
    rw [decide_eq_decide]
    show (((g i).headD 0 : Nat) : Int) - (((g j).headD 0 : Nat) : Int) < 0 ↔ _
    omega
  have hswo : SWO (ltOf cf) := ⟨fun x => by rw [hlt]; simp, fun x y z h1 h2 => by rw [hlt] at *; simp at *; omega, fun x y z h1 h2 => by rw [hlt] at *; simp at *; omega⟩
  have htot : ∀ x y, ltOf cf x y = false → ltOf cf y x = false → x = y := fun x y h1 h2 => by
    rw [hlt, decide_eq_false_iff_not] at h1 h2
    exact hinj x y (by omega)
  have eg : ∀ args w, (callFunc 28 args).run Try.prog w = .ok (.enter 28 args) w := enters_of Try.func28 (by kernel_rfl) rfl
  have hdl : ((List.finRange n).toArray.toList.map fun i => Value.slice (f i).1 (f i).2.1 (f i).2.2) = (List.finRange n).map fun i => Value.slice (f i).1 (f i).2.1 (f i).2.2 := by rw [List.toList_toArray]
  have hds : (List.finRange n).toArray.size = n := by simp
  have hcmp : CmpLays1 Try.prog 28 #[] (fun i => Value.slice (f i).1 (f i).2.1 (f i).2.2) cf b 0 (List.finRange n).toArray.size w := by
    intro m os dk hs x y
    obtain ⟨-, hout⟩ := own_sorted (enc := fun i => Value.slice (f i).1 (f i).2.1 (f i).2.2) (d := dk) (k := m) (os := os) hown (by rw [hs, hds])
    have hat : ∀ i : Fin n, ∃ bp op v : Nat, (f i).1 = some ⟨bp, op, none⟩ ∧ 0 < (f i).2.1 ∧ v ≤ 1000 ∧ (g i).headD 0 = v ∧ (sortWorld (fun i => Value.slice (f i).1 (f i).2.1 (f i).2.2) w b 0 m dk os).cell? ⟨bp, op, none⟩ = some (.int .i64 (v : Int)) := fun i => by
      obtain ⟨v, t, hgi⟩ := hg0 i
      have hs := hfg i
      have hlen : 0 < (f i).2.1 := by have h5 := hs.1; rw [hgi, List.length_cons] at h5; omega
      obtain ⟨bp, op, v', hA, hbp, hv', hc, hv1⟩ := hs.nat_at hlen
      obtain rfl : v' = v := by have := hv'.out; rw [hgi] at this; simpa using this.symm
      refine ⟨bp, op, v', hA, hlen, hv1, by rw [hgi]; rfl, ?_⟩
      have hout2 : Out [b] w (sortWorld (fun i => Value.slice (f i).1 (f i).2.1 (f i).2.2) w b 0 m dk os) := hout
      have hkp : Kept (sans w S) (sans (sortWorld (fun i => Value.slice (f i).1 (f i).2.1 (f i).2.2) w b 0 m dk os) S) w.heap.size := hout2.kept (fun b' hb' _ => by simp at hb'; subst hb'; exact hbS) (fun b hb _ => hb)
      have h3 := hkp.cell hbp hc
      have h4 := (kept_up (sortWorld (fun i => Value.slice (f i).1 (f i).2.1 (f i).2.2) w b 0 m dk os) S (sortWorld (fun i => Value.slice (f i).1 (f i).2.1 (f i).2.2) w b 0 m dk os).heap.size).cell (Nat.lt_of_lt_of_le hbp hout2.size) h3
      simpa using h4
    obtain ⟨p1, o1, v1, e1, n1, m1, g1, c1⟩ := hat x
    obtain ⟨p2, o2, v2, e2, n2, m2, g2, c2⟩ := hat y
    have hc := comp1_any (sortWorld (fun i => Value.slice (f i).1 (f i).2.1 (f i).2.2) w b 0 m dk os) p1 o1 p2 o2 (f x).2.1 (f x).2.2 (f y).2.1 (f y).2.2 v1 v2 n1 n2 m1 m2 c1 c2
    show Calls _ _ (#[Value.slice (f x).1 (f x).2.1 (f x).2.2, Value.slice (f y).1 (f y).2.1 (f y).2.2] ++ #[]) _ _
    rw [e1, e2]
    refine Calls.mono hc ?_
    rintro e w' ⟨rfl, rfl⟩
    refine ⟨?_, 1, #[], by rw [grow_empty]; rfl⟩
    show _ = Ending.returned (.int .i64 ((((g x).headD 0 : Nat) : Int) - (((g y).headD 0 : Nat) : Int)))
    rw [g1, g2]
  have hH : Holds (fun i => Value.slice (f i).1 (f i).2.1 (f i).2.2) w b 0 (List.finRange n).toArray := own_holds hown hdl
  have hS := Try.slices_SortFunc_total (fun i : Fin n => Value.slice (f i).1 (f i).2.1 (f i).2.2) (fun _ => rfl) cf hswo 28 #[] b 0 c (List.finRange n).toArray w eg hcmp hH hbl (by rw [hds]; omega) htot
  rw [hds] at hS
  refine hS.mono ?_
  rintro e w' ⟨rfl, k, os, rfl⟩
  have hmg : (fun x y => !ltOf cf y x) = fun x y : Fin n => decide ((g x).headD 0 ≤ (g y).headD 0) := by
    funext x y
    rw [hlt]
    by_cases hh : (g y).headD 0 < (g x).headD 0
    · rw [decide_eq_true hh, decide_eq_false (show ¬ (g x).headD 0 ≤ (g y).headD 0 by omega)]; rfl
    · rw [decide_eq_false hh, decide_eq_true (show (g x).headD 0 ≤ (g y).headD 0 by omega)]; rfl
  rw [hmg, List.toList_toArray]
  have hperm := List.mergeSort_perm (List.finRange n) (fun x y => decide ((g x).headD 0 ≤ (g y).headD 0))
  have hsort := List.pairwise_mergeSort (le := fun x y : Fin n => decide ((g x).headD 0 ≤ (g y).headD 0)) (by intro a b c h1 h2; simp at *; omega) (by intro a b; simp; omega) (List.finRange n)
  generalize (List.finRange n).mergeSort (fun x y => decide ((g x).headD 0 ≤ (g y).headD 0)) = M at hperm hsort ⊢
  have hMl : M.length = n := by rw [hperm.length_eq]; simp
  have hMn : M.Nodup := hperm.nodup_iff.2 (List.nodup_finRange n)
  obtain ⟨hown2, hout⟩ := own_sorted (enc := fun i => Value.slice (f i).1 (f i).2.1 (f i).2.2) (d := M.toArray) (k := k) (os := os) hown (by simpa using hMl)
  rw [List.toList_toArray] at hown2
  have hout2 : Out [b] w (sortWorld (fun i => Value.slice (f i).1 (f i).2.1 (f i).2.2) w b 0 k M.toArray os) := hout
  refine ⟨rfl, M.map g, ?_, ?_, ⟨by simpa using hMl, _, hown2, fun i x hx => ?_⟩, hout2⟩
  · exact hperm.map g
  · rw [List.pairwise_map]
    have hh : M.Pairwise (fun x y => x ≠ y ∧ (decide ((g x).headD 0 ≤ (g y).headD 0)) = true) := List.pairwise_and_iff.2 ⟨hMn, hsort⟩
    refine hh.imp (fun {x y} hxy => ?_)
    have h1 : (g x).headD 0 ≤ (g y).headD 0 := by simpa using hxy.2
    have h2 : (g x).headD 0 ≠ (g y).headD 0 := fun e => hxy.1 (hinj x y e)
    omega
  · rw [List.getElem?_map] at hx
    obtain ⟨j, hj, rfl⟩ := Option.map_eq_some_iff.1 hx
    refine ⟨(f j).1, (f j).2.1, (f j).2.2, ?_, (hfg j).mono' hout2.size (hout2.kept (fun b' hb' _ => by simp at hb'; subst hb'; exact hbS) (fun b hb _ => hb))⟩
    show ((M.map (fun i => Value.slice (f i).1 (f i).2.1 (f i).2.2)).drop (i * 1)).take 1 = _
    apply List.ext_getElem?
    intro t
    rw [List.getElem?_take]
    match t with
    | 0 =>
      rw [if_pos (by omega), List.getElem?_drop]
      simp [hj]
    | t + 1 => rw [if_neg (by omega)]; rfl
end Go.Proofs.Ytdbpbchhkdconaa
