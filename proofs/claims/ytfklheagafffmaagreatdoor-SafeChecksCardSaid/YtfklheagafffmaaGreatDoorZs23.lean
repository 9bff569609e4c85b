/- My own texts TConcat, TIn, SfLaw, SfSet, SfPut, as far as this claim needs them. -/
import Derived.Test.YtfklheagafffmaaGreatDoorZs22
import Derived.Lib.AppendZerosOnto
import Derived.Lib.Walk
import Derived.Lib.SliceRun
set_option linter.unusedVariables false
set_option linter.unusedSimpArgs false
set_option maxRecDepth 1000000
set_option maxHeartbeats 16000000
namespace Go.Proofs.YtfklheagafffmaaGreatDoor
open Go.RowKit
def GrowPost (w : World) (e : Ending) (w' : World) : Prop := ∃ A c, e = .returned (.slice A 0 c) ∧ w'.ownsRow w.heap.size 65 4 (.slice A 0 c) 0 [] ∧ Below w.heap.size w w'
theorem grow_any (n : Nat) (w : World) (hn : n ≤ 10000) : Calls Tryz.prog 101 #[.slice none 0 0, .int .i64 n] w (GrowPost w) := by
  have h1 : ¬ ((n : Int) < 0) := by omega
  by_cases h0 : n = 0
  · subst h0
    go_enter Tryz.func101, Tryz.ntmps101
    go_wp2
    go_ret
    exact ⟨none, 0, rfl, World.ownsRow_nil _ _ _ _, Below.refl _ _⟩
  · have h4 : (0 : Int) < (n : Int) := by omega
    obtain ⟨i0, hi0, hz0, hs0, hb0⟩ := info_parts termS_info
    have hold : (Builtin.firstCells i0.size 0 (.slice none 0 0)).run Tryz.prog w.drew = .ok (List.toArray []) w.drew := Go.run_firstCells_none w.drew i0.size 0 0 0
    have hgn : n ≤ grownCap w n 0 65 := grownCap_ge w _ _ _
    have hgm : grownCap w n 0 65 ≤ maxLen := grownCap_le_maxLen w n 0 65 (by simp [maxLen]; omega)
    obtain ⟨cap, cur, h5, h6, h7, hrz⟩ : ∃ cap cur, n ≤ cap ∧ cap ≤ maxLen ∧ cur.size = cap * 4 ∧ ∀ ty, (Builtin.append_ #[22, 3] ty #[.slice none 0 0, .int .i64 n]).run Tryz.prog w = .ok (.slice (some ⟨w.heap.size, 0, none⟩) n cap) (w.drew.alloc (.cells cur 65)) := by
      have h := fun ty => Lib.run_append_grow_zeros w 22 3 ty 65 i0 _ .i64 .i64 Tryz.underlying22 Tryz.underlying3 hi0 hz0 none 0 0 [] hold n (by omega) (by omega) (by omega) (by omega)
          (by rw [hb0]; omega) (by rw [Nat.zero_add]; exact growslice_fits (by omega) (by rw [hb0]; omega))
      simp only [Nat.zero_add] at h
      refine ⟨_, _, hgn, hgm, ?_, h⟩
      simp only [Array.size_append, size_zeroCells, List.size_toArray, List.length_nil, Value.cells]
      simp only [List.length_cons, List.length_nil]
      omega
    have HRz := Lib.hid hrz
    clear hrz hold hgn hgm
    have c1 : (0 : Int) ≤ (cap : Int) := by omega
    go_enter Tryz.func101, Tryz.ntmps101
    go_wp2_with (at_builtin; refine Lib.wpList_append_run _ rfl _ _ _ _ rfl _ _ rfl rfl _ _ (HRz.out _) ?_)
    go_ret
    exact ⟨some ⟨w.heap.size, 0, none⟩, cap, rfl, ⟨by simp, .inr ⟨w.heap.size, cap, cur, rfl, Nat.le_refl _, (Go.heap_alloc_new w _ : (w.alloc _).heap[w.heap.size]? = some _), Nat.zero_le _, h6, h7, by simp⟩⟩, (belowA (Below.refl _ _) _).drew⟩
def sumLen (ls : List (List GTold)) : Nat := (ls.map List.length).sum
theorem sumLen_take {ls : List (List GTold)} {k : Nat} {l : List GTold} (hx : ls[k]? = some l) : sumLen (ls.take (k + 1)) = sumLen (ls.take k) + l.length := by
  rw [List.take_add_one, hx]; simp [sumLen]
theorem sumLen_le (ls : List (List GTold)) (k : Nat) : sumLen (ls.take k) ≤ sumLen ls := by
  have : sumLen ls = sumLen (ls.take k) + sumLen (ls.drop k) := by
    have h := congrArg sumLen (List.take_append_drop k ls)
    simp only [sumLen, List.map_append, List.sum_append] at h ⊢
    exact h.symm
  omega
theorem flat_take {ls : List (List GTold)} {k : Nat} {l : List GTold} (hx : ls[k]? = some l) : (ls.take (k + 1)).flatten = (ls.take k).flatten ++ l := by
  rw [List.take_add_one, hx]; simp
theorem flat_sum (ls : List (List GTold)) : ls.flatten.length = sumLen ls := by simp [sumLen, List.length_flatten]
theorem concat_any (A : Option Addr) (n c : Nat) (ls : List (List GTold)) (w : World) (hl : SliceIs (Enc.slice Enc.told) w w.heap.size A n c ls) (hsum : sumLen ls ≤ 10000) :
    Calls Tryz.prog 74 #[.slice A n c] w (CollPost ls.flatten w) := by
  have hn := hl.bound
  have hlen := Lib.hid hl.1
  have HL := Lib.hid hl
  have Hok : Hid (∀ x ∈ ls.flatten, x.x.size ≤ reachN ∧ x.v.ok) := by
    intro x hx
    obtain ⟨l, hl1, hx⟩ := List.mem_flatten.1 hx
    obtain ⟨i, hi, rfl⟩ := List.mem_iff_getElem.1 hl1
    obtain ⟨b, o, l', A2, m, c2, _, _, hx', _, hs⟩ := hl.slice_at (i := i) (by rw [← hl.1]; exact hi)
    have e : ls[i] = l' := by have := hx'.out; rw [List.getElem?_eq_getElem hi] at this; simpa using this
    exact told_ok hs x (e ▸ hx)
  go_enter Tryz.func74, Tryz.ntmps74
  go_wp2_with fail
  go_loop [3, 5, 11] (fun t _ i => ∃ k : Nat, k ≤ n ∧ i = .int .i64 k ∧ t = .int .i64 (sumLen (ls.take k) : Nat)) (fun _ _ i => n - (intOf i).toNat)
  case atStart => exact ⟨0, by omega, rfl, by simp [sumLen]⟩
  case round =>
    obtain ⟨k, hk, rfl, rfl⟩ := hrel
    have hsk := sumLen_le ls k
    by_cases hlt : k < n
    · obtain ⟨b, o, l, A2, m, c2, rfl, hb, hx, hc, hs⟩ := hl.slice_at hlt
      have hml := hs.1
      have hsk1 := sumLen_le ls (k + 1)
      rw [sumLen_take hx.out] at hsk1
      have HT := Lib.hid (sumLen_take hx.out)
      have i1 : (k : Int) < (n : Int) := by omega
      clear hl
      go_wp2_with fail
      go_round
      case rel => exact ⟨k + 1, by omega, by go_num, by rw [HT.out, hml]; go_num⟩
      case measure => simp [intOf]; omega
    · have hkn : k = n := by omega
      subst hkn
      have Htot : Hid (sumLen (ls.take k) = sumLen ls) := by
        show _ = _
        rw [List.take_of_length_le (by have := hlen.out; omega)]
      go_wp2_with fail
      refine (grow_any _ w (by omega)).mono ?_
      rintro e w1 ⟨A1, c1, rfl, hown, hb1⟩
      clear hsk
      go_wp2_with fail
      go_loopw [6, 8, 27] (fun v _ i wr => ∃ (j m : Nat), j ≤ k ∧ i = .int .i64 j ∧ m = sumLen (ls.take j) ∧ wr.ownsRow w.heap.size 65 4 v m ((ls.take j).flatten.flatMap GTold.cells) ∧ Below w.heap.size w wr) (fun _ _ i _ => k - (intOf i).toNat)
      case atStart => exact ⟨0, 0, by omega, rfl, by simp [sumLen], by simpa using hown, hb1⟩
      case round =>
        obtain ⟨j, m, hj, rfl, hm, hown, hbr⟩ := hrel
        by_cases hlt2 : j < k
        · obtain ⟨b, o, l, A2, m2, c2, rfl, hb, hx, hc, hs⟩ := (HL.out.below hbr).slice_at hlt2
          have hsk1 := sumLen_le ls (j + 1)
          rw [sumLen_take hx.out] at hsk1
          have hm2 := hs.1
          have HT := Lib.hid (sumLen_take hx.out)
          have HF := Lib.hid (flat_take hx.out)
          have i1 : (j : Int) < (k : Int) := by omega
          obtain ⟨v2, w3, hrun, hown2, _, hb3⟩ := run_append_slice (P := Tryz.prog) (E := Enc.told) GTold.cells (fun _ => rfl) (fun h => h.1) (by intro x u hu; simp [GTold.cells] at hu; rcases hu with rfl | rfl | rfl | rfl <;> rfl) wr (ty := 22) Tryz.underlying22 termS_info rfl (by decide) hown hs
            (by simp [maxLen]; omega) (by omega) (by have := hbr.size; omega)
          obtain ⟨A3, c3, rfl⟩ := own_form hown2
          have HRun := Lib.hid hrun
          have Hm := Lib.hid hm
          clear hrun hm hsk1
          go_wp2_with (at_builtin; refine wpList_append_run rfl _ _ _ rfl _ _ rfl rfl HRun ?_)
          go_roundw
          case rel => exact ⟨j + 1, m + m2, by omega, by go_num, by rw [HT.out, Hm.out, hm2], by rw [HF.out, List.flatMap_append]; exact hown2, hbr.trans hb3⟩
          case measure => simp [intOf]; omega
        · have hjk : j = k := by omega
          subst hjk
          have Hown := Lib.hid hown
          obtain ⟨A3, c3, rfl⟩ := own_form hown
          have Hm := Lib.hid hm
          clear hown hm
          go_wp2_with fail
          go_ret
          have et : ls.take j = ls := List.take_of_length_le (by have := hlen.out; omega)
          have hown := Hown.out
          have hm := Hm.out
          rw [et] at hown hm
          have hml : ls.flatten.length = m := by rw [flat_sum, hm]
          exact ⟨A3, c3, by rw [hml]; rfl, by rw [hml]; exact hown, hbr⟩
end Go.Proofs.YtfklheagafffmaaGreatDoor

namespace Go.Proofs.YtfklheagafffmaaGreatDoor
open Go.RowKit
theorem leavesL_mem {t : GTold} : ∀ {l : List GExp}, t ∈ leavesL l → ∃ k ∈ l, t ∈ leavesE k
  | [], h => by rw [leavesL] at h; cases h
  | k :: ks, h => by
    rw [leavesL] at h
    rcases List.mem_append.1 h with h | h
    · exact ⟨k, List.mem_cons_self, h⟩
    · obtain ⟨u, hu, hh⟩ := leavesL_mem h
      exact ⟨u, List.mem_cons_of_mem _ hu, hh⟩
theorem leaves_ok : ∀ (d : Nat) (e : GExp) (A : Option Addr) (n c : Nat) (w : World) (B : Nat), SliceIs (Enc.exp d) w B A n c e.kids → e.t.x.size ≤ reachN → e.t.v.ok → ∀ t ∈ leavesE e, t.x.size ≤ reachN ∧ t.v.ok := by
  intro d
  induction d using Nat.strongRecOn with
  | ind d ih =>
    intro e A n c w B hk h1 h2 t ht
    by_cases h0 : e.kids = []
    · rw [leavesE_nil h0] at ht
      simp at ht; subst ht; exact ⟨h1, h2⟩
    · rw [leavesE_kids h0] at ht
      obtain ⟨k, hkm, hkt⟩ := leavesL_mem ht
      obtain ⟨i, hi⟩ := List.mem_iff_getElem?.1 hkm
      have hil : i < n := by rw [← hk.1]; exact (List.getElem?_eq_some_iff.1 hi).1
      obtain ⟨b, o, k', A', n', c', d', rfl, hb, hk', hd, x0, x1, x2, x3, x4, x5, -, f1, f2, hkk⟩ := hk.exp_at hil
      have e1 : k' = k := by have := hk'.out; rw [hi] at this; injection this with this; exact this.symm
      subst e1
      exact ih d' (by omega) k' A' n' c' w B hkk f1 f2 t hkt
theorem told_own {w : World} {base : Nat} {A : Option Addr} {n c : Nat} {l : List GTold} (h : w.ownsRow base 65 4 (.slice A n c) n (l.flatMap GTold.cells)) (hl : l.length = n) (hn : n ≤ 1000000) (hok : ∀ t ∈ l, t.x.size ≤ reachN ∧ t.v.ok) : SliceIs Enc.told w w.heap.size A n c l :=
  SliceIs.of_flat (E := Enc.told) GTold.cells (fun _ => rfl) h hl (by simp [reachN]; omega) (fun q hq => ⟨rfl, hok q hq⟩)
theorem own_keepT {T : TypeId} {w W : World} {base e sz : Nat} {v : Value} {n : Nat} {xs : List Value} (h : w.ownsRow base e sz v n xs) (hk : KeepsT T w W) (he : e ≠ T) : W.ownsRow base e sz v n xs := by
  refine ⟨h.1, ?_⟩
  rcases h.2 with hn | ⟨g, cap, cur, rfl, hg, hh, r⟩
  · exact .inl hn
  · exact .inr ⟨g, cap, cur, rfl, hg, hk g _ _ _ hh he, r⟩
def insideL (x : GLit) : List GTold := x.atom.args ++ (leavesE x.l ++ leavesE x.r)
def ruleT (x : GRule) : List GTold := x.head.args ++ x.body.flatMap insideL
theorem inside_ok {d : Nat} {w : World} {B : Nat} {x : GLit} {a p q : Hd} (h : LitAt d w B x a p q) : ∀ t ∈ insideL x, t.x.size ≤ reachN ∧ t.v.ok := by
  intro t ht
  unfold insideL at ht
  rcases List.mem_append.1 ht with ht | ht
  · exact told_ok h.args t ht
  · rcases List.mem_append.1 ht with ht | ht
    · exact leaves_ok _ _ _ _ _ _ _ h.lk h.lx h.lv t ht
    · exact leaves_ok _ _ _ _ _ _ _ h.rk h.rx h.rv t ht
theorem tup3 {W : World} {A B C : Option Addr} {n m k a b c : Nat} {l1 l2 l3 : List GTold} {T : TypeId} (h1 : SliceIs Enc.told W W.heap.size A n a l1) (h2 : SliceIs Enc.told W W.heap.size B m b l2) (h3 : SliceIs Enc.told W W.heap.size C k c l3) :
    SliceIs (Enc.slice Enc.told) (W.alloc (.cells #[.slice A n a, .slice B m b, .slice C k c] T)) (W.alloc (.cells #[.slice A n a, .slice B m b, .slice C k c] T)).heap.size (some ⟨W.heap.size, 0, none⟩) 3 3 [l1, l2, l3] := by
  refine ⟨rfl, Nat.le_refl _, by simp [maxLen], by simp [reachN], .inr ⟨W.heap.size, 0, rfl, by simp, fun i x hx => ?_⟩⟩
  match i, hx with
  | 0, hx =>
    simp at hx; subst hx
    refine ⟨[.slice A n a], ⟨A, n, a, rfl, h1.mono (by simp) (fun b hb => Below.heap_alloc _ _ _ hb)⟩, fun j v hv => ?_⟩
    match j, hv with
    | 0, hv => simp at hv; subst hv; simp [Enc.slice]
  | 1, hx =>
    simp at hx; subst hx
    refine ⟨[.slice B m b], ⟨B, m, b, rfl, h2.mono (by simp) (fun b hb => Below.heap_alloc _ _ _ hb)⟩, fun j v hv => ?_⟩
    match j, hv with
    | 0, hv => simp at hv; subst hv; simp [Enc.slice]
  | 2, hx =>
    simp at hx; subst hx
    refine ⟨[.slice C k c], ⟨C, k, c, rfl, h3.mono (by simp) (fun b hb => Below.heap_alloc _ _ _ hb)⟩, fun j v hv => ?_⟩
    match j, hv with
    | 0, hv => simp at hv; subst hv; simp [Enc.slice]
theorem own_down {W : World} {base base' : Nat} {e : TypeId} {size : Nat} {v : Value} {k : Nat} {xs : List Value} (h : W.ownsRow base e size v k xs) (hb : base' ≤ base) : W.ownsRow base' e size v k xs := by
  refine ⟨h.1, ?_⟩
  rcases h.2 with hn | ⟨g, cap, cur, hv, hbg, rest⟩
  · exact .inl hn
  · exact .inr ⟨g, cap, cur, hv, Nat.le_trans hb hbg, rest⟩
theorem seq_ge {b W : World} {g : Nat} (h : Below b.heap.size b W) (hz : W.heap.size ≤ g) : b.heap.size ≤ g := Nat.le_trans h.size hz
def SeqPost2 (w : World) (e : GExp) (A : Option Addr) (n c : Nat) (r : Ending) (w' : World) : Prop :=
  ∃ g, r = .returned (.func (.func 103) #[] #[.pointer (some ⟨g, 0, none⟩)]) ∧ w'.heap[g]? = some (.cells #[.int .i64 e.op, .string e.t.x, .int .i64 e.t.v.k, .int .i64 e.t.v.n, .string e.t.v.s, .slice A n c] 68 (0, 0)) ∧ w.heap.size ≤ g ∧ Below w.heap.size w w'
theorem termsF_any2 (w : World) (e : GExp) (A : Option Addr) (n c : Nat) : Calls Tryz.prog 76 #[expV e A n c] w (SeqPost2 w e A n c) :=
  (termsF_any w e A n c).mono (fun r w' h => by
    obtain ⟨rfl, rfl⟩ := h
    exact ⟨w.heap.size, rfl, heapNew rfl, Nat.le_refl _, belowA (Below.refl _ _) _⟩)
theorem insideT_any (d : Nat) (x : GLit) (a p q : Hd) (w : World) (hx : LitAt d w w.heap.size x a p q) (hsz : (insideL x).length ≤ 1500) :
    Calls Tryz.prog 47 #[.agg (litC x a p q).toArray] w (CollPost (insideL x) w) := by
  have Hsz := Lib.hid hsz
  have hsz1 : (leavesE x.l).length ≤ 1500 := by unfold insideL at hsz; simp only [List.length_append] at hsz; omega
  have hsz2 : (leavesE x.r).length ≤ 1500 := by unfold insideL at hsz; simp only [List.length_append] at hsz; omega
  have HOl := Lib.hid (leaves_ok _ _ _ _ _ _ _ hx.lk hx.lx hx.lv)
  have HOr := Lib.hid (leaves_ok _ _ _ _ _ _ _ hx.rk hx.rx hx.rv)
  obtain ⟨P, HP⟩ : ∃ P : Ending → World → Prop, Hid (P = CollPost (insideL x) w) := ⟨_, rfl⟩
  rw [← HP.out]
  clear hsz
  go_enter Tryz.func47, Tryz.ntmps47
  go_wp2_with fail
  have hg := Go.heap_alloc_new w (.cells (litC x a p q).toArray 70)
  have hbw : Below w.heap.size w (w.alloc (.cells (litC x a p q).toArray 70)) := belowA (Below.refl _ _) _
  generalize w.alloc (.cells (litC x a p q).toArray 70) = wb at hg hbw ⊢
  have hgl : w.heap.size < wb.heap.size := (Array.getElem?_eq_some_iff.1 hg).1
  have Hk := Lib.hid (fun W (h : Below wb.heap.size wb W) => show W.cell? ⟨w.heap.size, 2, none⟩ = some (a.v) ∧ W.cell? ⟨w.heap.size, 4, none⟩ = some (.int .i64 x.l.op) ∧ W.cell? ⟨w.heap.size, 5, none⟩ = some (.string x.l.t.x) ∧ W.cell? ⟨w.heap.size, 6, none⟩ = some (.int .i64 x.l.t.v.k) ∧ W.cell? ⟨w.heap.size, 7, none⟩ = some (.int .i64 x.l.t.v.n) ∧ W.cell? ⟨w.heap.size, 8, none⟩ = some (.string x.l.t.v.s) ∧ W.cell? ⟨w.heap.size, 9, none⟩ = some (p.v) ∧ W.cell? ⟨w.heap.size, 10, none⟩ = some (.int .i64 x.r.op) ∧ W.cell? ⟨w.heap.size, 11, none⟩ = some (.string x.r.t.x) ∧ W.cell? ⟨w.heap.size, 12, none⟩ = some (.int .i64 x.r.t.v.k) ∧ W.cell? ⟨w.heap.size, 13, none⟩ = some (.int .i64 x.r.t.v.n) ∧ W.cell? ⟨w.heap.size, 14, none⟩ = some (.string x.r.t.v.s) ∧ W.cell? ⟨w.heap.size, 15, none⟩ = some (q.v) from by
    obtain ⟨h0, h1, h2, h3, h4, h5, h6, h7, h8, h9, h10, h11, h12, h13, h14, h15, h16⟩ := facts17 ((h.block w.heap.size hgl).trans hg)
    exact ⟨h2, h4, h5, h6, h7, h8, h9, h10, h11, h12, h13, h14, h15⟩)
  have HX := Lib.hid (hx.keep hbw)
  have HL := Lib.hid (fun W (h : Below wb.heap.size wb W) => (HX.out.args).keep h)
  have hb1 := Below.refl wb.heap.size wb
  have Hfirst : Hid True := trivial
  clear hg hgl hx
  go_region_held3 (fun w' => w'.cell? ⟨w.heap.size, 2, none⟩ = some (a.v) ∧ w'.cell? ⟨w.heap.size, 4, none⟩ = some (.int .i64 x.l.op) ∧ w'.cell? ⟨w.heap.size, 5, none⟩ = some (.string x.l.t.x) ∧ w'.cell? ⟨w.heap.size, 6, none⟩ = some (.int .i64 x.l.t.v.k) ∧ w'.cell? ⟨w.heap.size, 7, none⟩ = some (.int .i64 x.l.t.v.n) ∧ w'.cell? ⟨w.heap.size, 8, none⟩ = some (.string x.l.t.v.s) ∧ w'.cell? ⟨w.heap.size, 9, none⟩ = some (p.v) ∧ w'.cell? ⟨w.heap.size, 10, none⟩ = some (.int .i64 x.r.op) ∧ w'.cell? ⟨w.heap.size, 11, none⟩ = some (.string x.r.t.x) ∧ w'.cell? ⟨w.heap.size, 12, none⟩ = some (.int .i64 x.r.t.v.k) ∧ w'.cell? ⟨w.heap.size, 13, none⟩ = some (.int .i64 x.r.t.v.n) ∧ w'.cell? ⟨w.heap.size, 14, none⟩ = some (.string x.r.t.v.s) ∧ w'.cell? ⟨w.heap.size, 15, none⟩ = some (q.v))
    (first
      | (refine Hk.out _ ?_; (repeat (first | with_reducible exact Below.refl _ _ | with_reducible assumption | with_reducible refine Below.drew ?_ | with_reducible refine belowA ?_ _)))
      | go_keep)
    ((first
      | (go_at_call 76
         refine (termsF_any2 _ x.l p.A p.n p.c).mono ?_
         clear Hfirst
         rintro e w1 ⟨g1, rfl, hg1, hz1, hq1⟩
         have hgz1 : wb.heap.size ≤ g1 := by
           refine seq_ge ?_ hz1
           (repeat (first | with_reducible exact Below.refl _ _ | with_reducible assumption | with_reducible refine Below.drew ?_ | with_reducible refine belowA ?_ _))
         have hb1 : Below wb.heap.size wb w1 := by
           refine below_next ?_ hq1
           (repeat (first | with_reducible exact Below.refl _ _ | with_reducible assumption | with_reducible refine Below.drew ?_ | with_reducible refine belowA ?_ _))
         clear hq1 hz1)
      | (go_at_call 75
         refine (collect_any (e := x.l) (g := g1) hg1 wb hgz1 ?hw HX.out.lk hsz1).mono ?_
         case hw => (repeat (first | with_reducible exact Below.refl _ _ | with_reducible assumption | with_reducible refine Below.drew ?_ | with_reducible refine belowA ?_ _))
         clear hg1 hgz1
         rintro e w2 ⟨A9, c9, rfl, hs9, hq1⟩
         have hb1 : Below wb.heap.size wb w2 := by
           refine below_next ?_ hq1
           (repeat (first | with_reducible exact Below.refl _ _ | with_reducible assumption | with_reducible refine Below.drew ?_ | with_reducible refine belowA ?_ _))
         have hs9 := told_own hs9 rfl (by omega) HOl.out
         clear hq1)
      | (go_at_call 76
         refine (termsF_any2 _ x.r q.A q.n q.c).mono ?_
         rintro e w3 ⟨g3, rfl, hg3, hz3, hq1⟩
         have hgz3 : wb.heap.size ≤ g3 := by
           refine seq_ge ?_ hz3
           (repeat (first | with_reducible exact Below.refl _ _ | with_reducible assumption | with_reducible refine Below.drew ?_ | with_reducible refine belowA ?_ _))
         have hb1 : Below wb.heap.size wb w3 := by
           refine below_next ?_ hq1
           (repeat (first | with_reducible exact Below.refl _ _ | with_reducible assumption | with_reducible refine Below.drew ?_ | with_reducible refine belowA ?_ _))
         have hs9 := hs9.keep (w' := w3) (by
           refine below_next ?_ hq1
           (repeat (first | with_reducible exact Below.refl _ _ | with_reducible assumption | with_reducible refine Below.drew ?_ | with_reducible refine belowA ?_ _)))
         clear hq1 hz3)
      | (go_at_call 75
         refine (collect_any (e := x.r) (g := g3) hg3 wb hgz3 ?hw HX.out.rk hsz2).mono ?_
         case hw => (repeat (first | with_reducible exact Below.refl _ _ | with_reducible assumption | with_reducible refine Below.drew ?_ | with_reducible refine belowA ?_ _))
         clear hg3 hgz3
         rintro e w4 ⟨A13, c13, rfl, hs13, hq1⟩
         have hb1 : Below wb.heap.size wb w4 := by
           refine below_next ?_ hq1
           (repeat (first | with_reducible exact Below.refl _ _ | with_reducible assumption | with_reducible refine Below.drew ?_ | with_reducible refine belowA ?_ _))
         have hs9 := hs9.keep (w' := w4) (by
           refine below_next ?_ hq1
           (repeat (first | with_reducible exact Below.refl _ _ | with_reducible assumption | with_reducible refine Below.drew ?_ | with_reducible refine belowA ?_ _)))
         have hs13 := told_own hs13 rfl (by omega) HOr.out
         clear hq1)
      | (go_at_call 74
         refine (concat_any _ 3 3 [x.atom.args, leavesE x.l, leavesE x.r] _ ?hc ?hs).mono ?_
         case hc => exact tup3 (HL.out _ hb1) hs9 hs13
         case hs => have := Hsz.out; simp [sumLen]; simp [insideL] at this; omega
         rintro e w5 ⟨A15, c15, rfl, hs15, hq1⟩
         have hs15 := own_down (base' := w.heap.size) hs15 (by
           refine Nat.le_trans hbw.size (seq_ge (b := wb) ?_ (Nat.le_refl _))
           (repeat (first | with_reducible exact Below.refl _ _ | with_reducible assumption | with_reducible refine Below.drew ?_ | with_reducible refine belowA ?_ _)))
         have hb5 : Below wb.heap.size wb w5 := by
           refine below_next ?_ hq1
           (repeat (first | with_reducible exact Below.refl _ _ | with_reducible assumption | with_reducible refine Below.drew ?_ | with_reducible refine belowA ?_ _)))))
  all_goals
    have hPP : P (.returned (.slice A15 (x.atom.args.length + ((leavesE x.l).length + (leavesE x.r).length)) c15)) w5 := by
      rw [HP.out]
      have e1 : List.flatten [x.atom.args, leavesE x.l, leavesE x.r] = insideL x := by simp [insideL]
      have e2 : x.atom.args.length + ((leavesE x.l).length + (leavesE x.r).length) = (insideL x).length := by simp [insideL]
      rw [e1] at hs15
      rw [e2]
      exact ⟨A15, c15, rfl, hs15, below_next hbw hb5⟩
    have HPP := Lib.hid hPP
    clear hPP hs15
    go_wp2_with fail
    exact HPP.out
def TextsPost (L : List ByteArray) (w : World) (e : Ending) (w' : World) : Prop :=
  ∃ A c, e = .returned (.slice A L.length c) ∧ w'.ownsRow w.heap.size 9 1 (.slice A L.length c) L.length (L.flatMap strC) ∧ Below w.heap.size w w'
theorem TextsPost.is {L : List ByteArray} {w w' : World} {A : Option Addr} {c : Nat} (h : w'.ownsRow w.heap.size 9 1 (.slice A L.length c) L.length (L.flatMap strC)) (hl : L.length ≤ 1000000) (hok : ∀ s ∈ L, s.size ≤ reachN) : SliceIs Enc.str w' w'.heap.size A L.length c L :=
  texts_is h rfl hl hok
theorem inT_any (d : Nat) (x : GLit) (a p q : Hd) (w : World) (hx : LitAt d w w.heap.size x a p q) (hsz : (insideL x).length ≤ 1500) :
    Calls Tryz.prog 18 #[.agg (litC x a p q).toArray] w (TextsPost (putL [] (insideL x)) w) := by
  have HX := Lib.hid hx
  have Hsz := Lib.hid hsz
  obtain ⟨P, HP⟩ : ∃ P : Ending → World → Prop, Hid (P = TextsPost (putL [] (insideL x)) w) := ⟨_, rfl⟩
  rw [← HP.out]
  clear hx hsz
  have hrb : (w.alloc (.cells (litC x a p q).toArray 70)).heap[w.heap.size]? = some (.cells (litC x a p q).toArray 70 (0, 0)) := heapNew rfl
  obtain ⟨b0, b1, b2, b3, b4, b5, b6, b7, b8, b9, b10, b11, b12, b13, b14, b15, b16⟩ := facts17 hrb
  have hbw : Below w.heap.size w (w.alloc (.cells (litC x a p q).toArray 70)) := belowA (Below.refl _ _) _
  have HC := Lib.hid (insideT_any d x a p q _ (HX.out.keep hbw) Hsz.out)
  go_enter Tryz.func18, Tryz.ntmps18
  go_wp2_with fail
  refine HC.out.mono ?_
  rintro e w1 ⟨A1, c1, rfl, ho1, hb1⟩
  have hzw := hbw.size
  have hz1 := hb1.size
  have HC2 := Lib.hid (put_any w1.heap.size none 0 0 [] A1 (insideL x).length c1 (insideL x) w1 (Nat.le_refl _) rfl (World.ownsRow_nil _ _ _ _) (fun _ h => by cases h) (fun W hk hb => told_own (own_below ho1 hb) rfl (by have := Hsz.out; omega) (inside_ok HX.out)) (by have := Hsz.out; omega))
  clear HC ho1
  go_wp2_with fail
  refine HC2.out.mono ?_
  rintro e w2 ⟨A2, c2, rfl, ho2, -, hb2⟩
  have HPP : Hid (P (.returned (.slice A2 (putL [] (insideL x)).length c2)) w2) := by
    show P _ _
    rw [HP.out]
    exact ⟨A2, c2, rfl, own_down ho2 (by omega), below_next (below_next hbw hb1) hb2⟩
  clear HC2 ho2
  go_wp2_with fail
  exact HPP.out
end Go.Proofs.YtfklheagafffmaaGreatDoor

namespace Go.Proofs.YtfklheagafffmaaGreatDoor
open Go.RowKit
def varsE (e : GExp) : List ByteArray := putL [] (leavesE e)
def varsL (x : GLit) : List ByteArray := putL [] (insideL x)
def hasB (S : List ByteArray) (s : ByteArray) : Bool := decide (s ∈ S)
def allB (S l : List ByteArray) : Bool := l.all (hasB S)
def aloneE (e : GExp) : ByteArray := if e.op = 0 ∧ e.kids.length = 0 then e.t.x else ⟨#[]⟩
def sideB (S : List ByteArray) (a b : GExp) : Bool := !(aloneE a).toList.isEmpty && (!hasB S (aloneE a) && allB S (varsE b))
def setsB (S : List ByteArray) (x : GLit) : Bool := (decide (x.k = 3) && decide (x.op = 1)) && (sideB S x.l x.r || sideB S x.r x.l)
def posB (x : GLit) : Bool := decide (x.k = 1)
def earlyB (S : List ByteArray) (x : GLit) : Bool := (!posB x && allB S (varsL x)) || setsB S x
theorem hasB_iff {S : List ByteArray} {s : ByteArray} : hasB S s = true ↔ s ∈ S := by simp [hasB]
theorem allB_iff {S l : List ByteArray} : allB S l = true ↔ ∀ v ∈ l, v ∈ S := by simp [allB, hasB]
theorem hasB_congr {S T : List ByteArray} (h : ∀ v, v ∈ S ↔ v ∈ T) (s : ByteArray) : hasB S s = hasB T s := by
  rw [Bool.eq_iff_iff, hasB_iff, hasB_iff]; exact h s
theorem put1_has {acc : List ByteArray} {t : GTold} {v : ByteArray} : v ∈ put1 acc t ↔ v ∈ acc ∨ (v = t.x ∧ t.x.toList.isEmpty = false) := by
  unfold put1
  cases he : t.x.toList.isEmpty with
  | true => simp
  | false =>
    by_cases hm : t.x ∈ acc
    · simp only [hm, decide_true, Bool.or_true, if_true, and_true]
      constructor
      · exact .inl
      · rintro (h | rfl)
        · exact h
        · exact hm
    · simp [hm]
theorem putL_has {l : List GTold} : ∀ {acc : List ByteArray} {v : ByteArray}, v ∈ putL acc l ↔ v ∈ acc ∨ ∃ t ∈ l, v = t.x ∧ t.x.toList.isEmpty = false := by
  induction l with
  | nil => intro acc v; simp [putL]
  | cons t l ih =>
    intro acc v
    show v ∈ putL (put1 acc t) l ↔ _
    rw [ih, put1_has]
    simp only [List.mem_cons, exists_eq_or_imp, or_assoc]
theorem varsL_has {x : GLit} {v : ByteArray} : v ∈ varsL x ↔ ∃ t ∈ insideL x, v = t.x ∧ t.x.toList.isEmpty = false := by
  unfold varsL; rw [putL_has]; simp
theorem varsE_has {e : GExp} {v : ByteArray} : v ∈ varsE e ↔ ∃ t ∈ leavesE e, v = t.x ∧ t.x.toList.isEmpty = false := by
  unfold varsE; rw [putL_has]; simp
theorem varsE_sub_l {x : GLit} {v : ByteArray} (h : v ∈ varsE x.l) : v ∈ varsL x := by
  obtain ⟨t, ht, hv⟩ := varsE_has.1 h
  exact varsL_has.2 ⟨t, by unfold insideL; simp [ht], hv⟩
theorem varsE_sub_r {x : GLit} {v : ByteArray} (h : v ∈ varsE x.r) : v ∈ varsL x := by
  obtain ⟨t, ht, hv⟩ := varsE_has.1 h
  exact varsL_has.2 ⟨t, by unfold insideL; simp [ht], hv⟩
theorem alone_has {e : GExp} (h : (aloneE e).toList.isEmpty = false) : aloneE e ∈ varsE e := by
  unfold aloneE at h ⊢
  by_cases hc : e.op = 0 ∧ e.kids.length = 0
  · rw [if_pos hc] at h ⊢
    rw [varsE_has, leavesE_nil (List.length_eq_zero_iff.1 hc.2)]
    exact ⟨e.t, by simp, rfl, h⟩
  · rw [if_neg hc] at h
    simp [ByteArray.toList_eq] at h
theorem alone_vars {e : GExp} (h : (aloneE e).toList.isEmpty = false) {v : ByteArray} (hv : v ∈ varsE e) : v = aloneE e := by
  unfold aloneE at h ⊢
  by_cases hc : e.op = 0 ∧ e.kids.length = 0
  · rw [if_pos hc] at h ⊢
    rw [varsE_has, leavesE_nil (List.length_eq_zero_iff.1 hc.2)] at hv
    obtain ⟨t, ht, hv, -⟩ := hv
    simp at ht
    rw [hv, ht]
  · rw [if_neg hc] at h
    simp [ByteArray.toList_eq] at h
def lackN (body : List GLit) (S : List ByteArray) : Nat := ((body.flatMap varsL).filter (fun v => !hasB S v)).length
theorem filter_lt {l : List ByteArray} {p q : ByteArray → Bool} (h : ∀ v, q v = true → p v = true) {a : ByteArray} (ha : a ∈ l) (hp : p a = true) (hq : q a = false) : (l.filter q).length < (l.filter p).length := by
  induction l with
  | nil => cases ha
  | cons b l ih =>
    have hle : (l.filter q).length ≤ (l.filter p).length := by
      clear ih ha
      induction l with
      | nil => simp
      | cons c l ih =>
        rw [List.filter_cons, List.filter_cons]
        cases hqc : q c with
        | true => rw [h c hqc]; simpa using ih
        | false =>
          cases p c with
          | true => simp only [Bool.false_eq_true, if_false, if_true, List.length_cons]; omega
          | false => simpa using ih
    rw [List.filter_cons, List.filter_cons]
    rcases List.mem_cons.1 ha with rfl | ha
    · rw [hp, hq]; simp only [Bool.false_eq_true, if_false, if_true, List.length_cons]; omega
    · have := ih ha
      cases hqb : q b with
      | true => rw [h b hqb]; simpa using this
      | false =>
        cases p b with
        | true => simp only [Bool.false_eq_true, if_false, if_true, List.length_cons]; omega
        | false => simpa using this
theorem sets_new {S : List ByteArray} {x : GLit} (h : setsB S x = true) : ∃ a, a ∈ varsL x ∧ a ∉ S := by
  simp only [setsB, sideB, Bool.and_eq_true, Bool.or_eq_true, Bool.not_eq_true'] at h
  rcases h.2 with ⟨h1, h2, -⟩ | ⟨h1, h2, -⟩
  · refine ⟨_, varsE_sub_l (alone_has h1), ?_⟩
    intro hm; rw [hasB_iff.2 hm] at h2; cases h2
  · refine ⟨_, varsE_sub_r (alone_has h1), ?_⟩
    intro hm; rw [hasB_iff.2 hm] at h2; cases h2
theorem lack_lt {body : List GLit} {S : List ByteArray} {x : GLit} (hx : x ∈ body) (h : setsB S x = true) : lackN body (S ++ varsL x) < lackN body S := by
  obtain ⟨a, ha, hn⟩ := sets_new h
  unfold lackN
  refine filter_lt (a := a) ?_ (List.mem_flatMap.2 ⟨x, hx, ha⟩) (by simp [hasB, hn]) (by simp [hasB, ha])
  intro v hv
  simp only [hasB, List.mem_append, Bool.not_eq_true', decide_eq_false_iff_not, not_or] at hv ⊢
  exact hv.1
inductive BoundTo (body : List GLit) : List ByteArray → List ByteArray → Prop where
  | stop {S : List ByteArray} (h : ∀ x ∈ body, setsB S x = false) : BoundTo body S S
  | step {S T : List ByteArray} {x : GLit} (hx : x ∈ body) (h : setsB S x = true) (ht : BoundTo body (S ++ varsL x) T) : BoundTo body S T
theorem BoundTo.sub {body : List GLit} {S T : List ByteArray} (h : BoundTo body S T) : ∀ v ∈ S, v ∈ T := by
  induction h with
  | stop _ => exact fun _ h => h
  | step _ _ _ ih => exact fun v hv => ih v (List.mem_append_left _ hv)
theorem BoundTo.end_ {body : List GLit} {S T : List ByteArray} (h : BoundTo body S T) : ∀ x ∈ body, setsB T x = false := by
  induction h with
  | stop h => exact h
  | step _ _ _ ih => exact ih
def CmpBare (body : List GLit) : Prop := ∀ x ∈ body, x.k = 3 → x.atom.args = []
theorem sets_vars {x : GLit} (ha : x.atom.args = []) {v : ByteArray} (hv : v ∈ varsL x) : v ∈ varsE x.l ∨ v ∈ varsE x.r := by
  obtain ⟨t, ht, h⟩ := varsL_has.1 hv
  unfold insideL at ht
  rw [ha] at ht
  rcases List.mem_append.1 (by simpa using ht) with h1 | h1
  · exact .inl (varsE_has.2 ⟨t, h1, h⟩)
  · exact .inr (varsE_has.2 ⟨t, h1, h⟩)
theorem sets_in {S T : List ByteArray} {x : GLit} (ha : x.atom.args = []) (hs : setsB S x = true) (hST : ∀ v ∈ S, v ∈ T) (hT : setsB T x = false) : ∀ v ∈ varsL x, v ∈ T := by
  simp only [setsB, sideB, Bool.and_eq_true, Bool.or_eq_true, Bool.not_eq_true'] at hs
  have hT2 : ∀ a b : GExp, ((a = x.l ∧ b = x.r) ∨ (a = x.r ∧ b = x.l)) → (aloneE a).toList.isEmpty = false → allB S (varsE b) = true → aloneE a ∈ T ∧ ∀ v ∈ varsE b, v ∈ T := by
    intro a b hab h1 h3
    have hb : ∀ v ∈ varsE b, v ∈ T := fun v hv => hST v (allB_iff.1 h3 v hv)
    refine ⟨?_, hb⟩
    cases hh : hasB T (aloneE a) with
    | true => exact hasB_iff.1 hh
    | false =>
      exfalso
      have hside : sideB T a b = true := by simp [sideB, h1, hh, allB_iff.2 hb]
      unfold setsB at hT
      rw [hs.1.1, hs.1.2] at hT
      rcases hab with ⟨rfl, rfl⟩ | ⟨rfl, rfl⟩ <;> simp [hside] at hT
  intro v hv
  rcases hs.2 with ⟨h1, -, h3⟩ | ⟨h1, -, h3⟩
  · obtain ⟨k1, k2⟩ := hT2 x.l x.r (.inl ⟨rfl, rfl⟩) h1 h3
    rcases sets_vars ha hv with h | h
    · rw [alone_vars h1 h]; exact k1
    · exact k2 v h
  · obtain ⟨k1, k2⟩ := hT2 x.r x.l (.inr ⟨rfl, rfl⟩) h1 h3
    rcases sets_vars ha hv with h | h
    · exact k2 v h
    · rw [alone_vars h1 h]; exact k1
theorem sets_k {S : List ByteArray} {x : GLit} (h : setsB S x = true) : x.k = 3 := by
  simp only [setsB, Bool.and_eq_true, decide_eq_true_eq] at h
  exact h.1.1
theorem BoundTo.least {body : List GLit} (hc : CmpBare body) {S T U : List ByteArray} (h : BoundTo body S T) (hSU : ∀ v ∈ S, v ∈ U) (hU : ∀ x ∈ body, setsB U x = false) : ∀ v ∈ T, v ∈ U := by
  induction h with
  | stop _ => exact hSU
  | step hx hs _ ih =>
    refine ih ?_
    intro v hv
    rcases List.mem_append.1 hv with h | h
    · exact hSU v h
    · exact sets_in (hc _ hx (sets_k hs)) hs hSU (hU _ hx) v h
theorem bound_same {body : List GLit} (hc : CmpBare body) {S S' T U : List ByteArray} (he : ∀ v, v ∈ S ↔ v ∈ S') (h : BoundTo body S T) (k : BoundTo body S' U) : ∀ v, v ∈ T ↔ v ∈ U := fun v =>
  ⟨h.least hc (fun v hv => k.sub v ((he v).1 hv)) k.end_ v, k.least hc (fun v hv => h.sub v ((he v).2 hv)) h.end_ v⟩
def earlyK (body : List GLit) (S : List ByteArray) (k : Nat) : Bool := match body[k]? with | some x => earlyB S x | none => false
def posK (body : List GLit) (k : Nat) : Bool := match body[k]? with | some x => posB x | none => false
def nextK (body : List GLit) (S : List ByteArray) (left : List Nat) : Option Nat := (left.find? (earlyK body S)).or (left.find? (posK body))
def litVars (body : List GLit) (k : Nat) : List ByteArray := match body[k]? with | some x => varsL x | none => []
def orderF (body : List GLit) : Nat → List ByteArray → List Nat → List (Nat × List ByteArray)
  | 0, _, _ => []
  | f + 1, S, left => match nextK body S left with
    | none => []
    | some k => (k, S ++ litVars body k) :: orderF body f (S ++ litVars body k) (left.erase k)
def orderS (body : List GLit) : List (Nat × List ByteArray) := orderF body body.length [] (List.range body.length)
def orderK (body : List GLit) : List Nat := (orderS body).map Prod.fst
end Go.Proofs.YtfklheagafffmaaGreatDoor

namespace Go.Proofs.YtfklheagafffmaaGreatDoor
open Go.RowKit
def ivs (l : List (ByteArray × Int)) : List (ByteArray × Value) := l.map fun p => (p.1, .int .i64 p.2)
theorem ivs_get (l : List (ByteArray × Int)) (s : ByteArray) : kvGet (ivs l) s = (kvGet l s).map (Value.int .i64) := by
  induction l with
  | nil => rfl
  | cons p l ih =>
    show kvGet ((p.1, Value.int .i64 p.2) :: ivs l) s = _
    rw [kvGet_cons, kvGet_cons, ih]
    split <;> rfl
theorem ivs_set (l : List (ByteArray × Int)) (s : ByteArray) (v : Int) : kvSet (ivs l) s (.int .i64 v) = ivs (kvSet l s v) := by
  induction l with
  | nil => rfl
  | cons p l ih =>
    show kvSet ((p.1, Value.int .i64 p.2) :: ivs l) s (.int .i64 v) = _
    unfold kvSet
    split
    · rfl
    · rw [ih]; rfl
def cntOf (l : List (ByteArray × Int)) (s : ByteArray) : Int := (kvGet l s).getD 0
theorem cntOf_set (l : List (ByteArray × Int)) (s t : ByteArray) (v : Int) : cntOf (kvSet l s v) t = if s = t then v else cntOf l t := by
  unfold cntOf
  rw [kvGet_set]
  split <;> rfl
theorem ivs_getD (l : List (ByteArray × Int)) (s : ByteArray) : (kvGet (ivs l) s).getD (.int .i64 0) = .int .i64 (cntOf l s) := by
  rw [ivs_get, cntOf]
  cases kvGet l s <;> rfl
def SetV (w : World) (g : Nat) (S : List ByteArray) (M : Nat) : Prop :=
  ∃ kvs, MapIs w g (ivs kvs) ∧ (∀ s, 0 ≤ cntOf kvs s ∧ cntOf kvs s ≤ M) ∧ ∀ s, cntOf kvs s ≠ 0 ↔ s ∈ S
theorem SetV.made {w : World} : SetV (w.alloc (.map #[] 0)) w.heap.size [] 0 :=
  ⟨[], MapIs.made, fun s => by simp [cntOf, kvGet], fun s => by simp [cntOf, kvGet]⟩
theorem SetV.same {w w' : World} {g : Nat} {S : List ByteArray} {M : Nat} (h : SetV w g S M) (hs : w'.heap[g]? = w.heap[g]?) : SetV w' g S M := by
  obtain ⟨kvs, h1, h2⟩ := h
  exact ⟨kvs, h1.same hs, h2⟩
theorem SetV.lt {w : World} {g : Nat} {S : List ByteArray} {M : Nat} (h : SetV w g S M) : g < w.heap.size := by
  obtain ⟨kvs, h1, _⟩ := h
  exact h1.lt
theorem SetV.below {w w' : World} {g : Nat} {S : List ByteArray} {M : Nat} (h : SetV w g S M) (hb : Below w.heap.size w w') : SetV w' g S M := h.same (hb.block g h.lt)
theorem SetV.alloc {w : World} {g : Nat} {S : List ByteArray} {M : Nat} (h : SetV w g S M) (o : Obj) : SetV (w.alloc o) g S M := h.same (Below.heap_alloc w o g h.lt)
theorem SetV.mono {w : World} {g : Nat} {S : List ByteArray} {M M' : Nat} (h : SetV w g S M) (hM : M ≤ M') : SetV w g S M' := by
  obtain ⟨kvs, h1, h2, h3⟩ := h
  exact ⟨kvs, h1, fun s => ⟨(h2 s).1, by have := (h2 s).2; omega⟩, h3⟩
theorem SetV.congr {w : World} {g : Nat} {S S' : List ByteArray} {M : Nat} (h : SetV w g S M) (hS : ∀ s, s ∈ S ↔ s ∈ S') : SetV w g S' M := by
  obtain ⟨kvs, h1, h2, h3⟩ := h
  exact ⟨kvs, h1, h2, fun s => (h3 s).trans (hS s)⟩
theorem SetV.look {P : Program} {w : World} {g : Nat} {S : List ByteArray} {M : Nat} (h : SetV w g S M) {t k e : TypeId} (ht : P.underlying t = some (.map k e)) (hk : P.underlying k = some .string) (hz : (zeroValue e).run P w = .ok (.int .i64 0) w) (s : ByteArray) :
    ∃ c : Int, (Instr.lookup t (.map (some g)) (.string s) false).run P w = .ok (.int .i64 c) w ∧ 0 ≤ c ∧ c ≤ M ∧ (c = 0 ↔ s ∉ S) := by
  obtain ⟨kvs, h1, h2, h3⟩ := h
  refine ⟨cntOf kvs s, by rw [h1.lookup ht hk hz s, ivs_getD], (h2 s).1, (h2 s).2, ?_⟩
  rw [← h3 s]
  exact (Decidable.not_not).symm
theorem SetV.put {P : Program} {w : World} {g : Nat} {S : List ByteArray} {M : Nat} (h : SetV w g S M) {t k e : TypeId} (ht : P.underlying t = some (.map k e)) (hk : P.underlying k = some .string) (hz : (zeroValue e).run P w = .ok (.int .i64 0) w) (s : ByteArray) :
    ∃ c : Int, (Instr.lookup t (.map (some g)) (.string s) false).run P w = .ok (.int .i64 c) w ∧ 0 ≤ c ∧ c ≤ M ∧
      ∃ w', (Instr.mapUpdate t (.map (some g)) (.string s) (.int .i64 (c + 1))).run P w = .ok () w' ∧ SetV w' g (s :: S) (M + 1) ∧ w.grownBy w' (some g) ∧ w'.heap.size = w.heap.size := by
  obtain ⟨kvs, h1, h2, h3⟩ := h
  refine ⟨cntOf kvs s, by rw [h1.lookup ht hk hz s, ivs_getD], (h2 s).1, (h2 s).2, ?_⟩
  obtain ⟨w', u1, u2, u3, u4⟩ := h1.update ht hk s (.int .i64 (cntOf kvs s + 1))
  refine ⟨w', u1, ⟨kvSet kvs s (cntOf kvs s + 1), by rw [← ivs_set]; exact u2, fun x => ?_, fun x => ?_⟩, u3, u4⟩
  · rw [cntOf_set]
    have ha := h2 s
    have hb := h2 x
    split
    · omega
    · omega
  · rw [cntOf_set, List.mem_cons, ← h3 x]
    have ha := h2 s
    split
    · rename_i he
      subst he
      simp; omega
    · rename_i he
      constructor
      · exact .inr
      · rintro (h | h)
        · exact absurd h.symm he
        · exact h
end Go.Proofs.YtfklheagafffmaaGreatDoor

namespace Go.Proofs.YtfklheagafffmaaGreatDoor
open Go.RowKit
theorem under_set : Tryz.prog.underlying 98 = some (.map 9 3) := Tryz.underlying98
theorem under_key : Tryz.prog.underlying 9 = some .string := Tryz.underlying9
theorem zero_cnt (w : World) : (zeroValue 3).run Tryz.prog w = .ok (.int .i64 0) w := by kernel_rfl
def SfSetPost (g : Nat) (S : List ByteArray) (M : Nat) (w : World) (e : Ending) (w' : World) : Prop := e = .returned (.tuple #[]) ∧ SetV w' g S M ∧ Out [g] w w'
theorem setPut_any (g : Nat) (A : Option Addr) (n c : Nat) (L S : List ByteArray) (M : Nat) (w : World) (hS : SetV w g S M) (hl : SliceFar Enc.str w [g] A n c L) (hM : M + n ≤ 100000000) :
    Calls Tryz.prog 35 #[.map (some g), .slice A n c] w (SfSetPost g (S ++ L) (M + n) w) := by
  have HL := Lib.hid hl
  have Hlen := Lib.hid hl.is.1
  have HS := Lib.hid hS
  clear hl hS
  go_enter Tryz.func35, Tryz.ntmps35
  go_wp2_with fail
  go_loopw [8] (fun i wr => ∃ k : Nat, k ≤ n ∧ i = .int .i64 (k : Int) ∧ Hid (SetV wr g (S ++ L.take k) (M + k)) ∧ Hid (Out [g] w wr)) (fun i _ => n - (intOf i).toNat)
  case atStart => exact ⟨0, by omega, rfl, by show SetV _ _ _ _; rw [List.take_zero, List.append_nil]; exact HS.out, Out.refl _ _⟩
  case round =>
    obtain ⟨k, hk, rfl, HV, HO⟩ := hrel
    have i0 : (0 : Int) ≤ (k : Int) := by omega
    by_cases hlt : k < n
    · have i1 : (k : Int) < (n : Int) := by omega
      obtain ⟨b, o, x, rfl, -, hx, hc, -⟩ := (HL.out.out HO.out (fun b hb _ => hb) (fun b hb _ => hb) : SliceFar Enc.str wr [g] A n c L).is.str_at hlt
      obtain ⟨cn, u1, b0, b1, w2, u2, v2, g2, z2⟩ := HV.out.put under_set under_key (zero_cnt _) x
      have b2 : cn + 1 ≤ 100000001 := by omega
      have HV2 : Hid (SetV w2 g (S ++ L.take (k + 1)) (M + (k + 1))) := by
        have e : L.take (k + 1) = L.take k ++ [x] := by rw [List.take_add_one, hx.out]; rfl
        show SetV _ _ _ _
        rw [e]
        refine (SetV.congr v2 (fun s => ?_)).mono (by omega)
        simp only [List.mem_cons, List.mem_append, List.not_mem_nil, or_false]
        constructor
        · rintro (h | h | h)
          · exact .inr (.inr h)
          · exact .inl h
          · exact .inr (.inl h)
        · rintro (h | h | h)
          · exact .inr (.inl h)
          · exact .inr (.inr h)
          · exact .inl h
      have HO2 : Hid (Out [g] w w2) := HO.out.trans (grown_out g2) (fun b hb _ => by simpa using hb)
      clear hx v2 g2 z2 HV HO
      go_wp2_with fail
      go_roundw
      case rel => exact ⟨k + 1, by omega, by go_num, HV2, HO2⟩
      case measure => simp [intOf]; omega
    · have i1 : ¬ (k : Int) < (n : Int) := by omega
      obtain rfl : k = n := by omega
      have HE : Hid (SfSetPost g (S ++ L) (M + k) w (.returned (.tuple #[])) wr) := by
        have h1 := HV.out
        rw [List.take_of_length_le (by rw [Hlen.out]; exact Nat.le_refl _)] at h1
        exact ⟨rfl, h1, HO.out⟩
      go_wp2_with fail
      go_end0
      exact HE.out
theorem all1_any (gp g : Nat) (S : List ByteArray) (M : Nat) (s : ByteArray) (w : World) (hS : SetV w g S M) (hg : w.cell? ⟨gp, 0, none⟩ = some (.map (some g))) :
    Calls Tryz.prog 81 #[.string s, .pointer (some ⟨gp, 0, none⟩)] w (RetBool (!hasB S s) w) := by
  obtain ⟨cn, u1, b0, b1, hz⟩ := hS.look under_set under_key (zero_cnt _) s
  have Hz : Hid (decide (cn = 0) = !hasB S s) := by
    show _ = _
    unfold hasB
    by_cases h : s ∈ S
    · have : ¬ cn = 0 := fun h2 => (hz.1 h2) h
      simp [h, this]
    · have : cn = 0 := hz.2 h
      simp [h, this]
  clear hS hz
  go_enter Tryz.func81, Tryz.ntmps81
  go_wp2_with fail
  go_ret
  exact ⟨by rw [← Hz.out]; rfl, Below.refl _ _⟩
end Go.Proofs.YtfklheagafffmaaGreatDoor
