/- My own texts TIn, SdN, SdI, SfLaw, as far as this claim needs them. -/
import Derived.Test.YtfklheagafffmaaGreatDoorZo4
import Derived.Test.YtfklheagafffmaaGreatDoorZo24
import Derived.Test.YtfklheagafffmaaGreatDoorZo25
import Derived.Deep.RegionHeld3
set_option linter.unusedVariables false
set_option linter.unusedSimpArgs false
namespace Go.Proofs.YtfklheagafffmaaGreatDoor
open Go.RowKit
theorem leavesL_mem {t : GTold} : ∀ {l : List GExp}, t ∈ leavesL l → ∃ k ∈ l, t ∈ leavesE k
  | [], h => by rw [leavesL] at h; cases h
  | k :: ks, h => by
    rw [leavesL] at h
    rcases List.mem_append.1 h with h | h
    · exact ⟨k, List.mem_cons_self, h⟩
    · obtain ⟨u, hu, hh⟩ := leavesL_mem h
      exact ⟨u, List.mem_cons_of_mem _ hu, hh⟩
theorem leaves_ok : ∀ (d : Nat) (e : GExp) (A : Option Addr) (n c : Nat) (w : World) (B : Nat), SliceIs (Enc.exp d) w B A n c e.kids → e.t.x.size ≤ reachN → e.t.v.ok → ∀ t ∈ leavesE e, t.x.size ≤ reachN ∧ t.v.ok := by
  intro d
  induction d using Nat.strongRecOn with
  | ind d ih =>
    intro e A n c w B hk h1 h2 t ht
    by_cases h0 : e.kids = []
    · rw [leavesE_nil h0] at ht
      simp at ht; subst ht; exact ⟨h1, h2⟩
    · rw [leavesE_kids h0] at ht
      obtain ⟨k, hkm, hkt⟩ := leavesL_mem ht
      obtain ⟨i, hi⟩ := List.mem_iff_getElem?.1 hkm
      have hil : i < n := by rw [← hk.1]; exact (List.getElem?_eq_some_iff.1 hi).1
      obtain ⟨b, o, k', A', n', c', d', rfl, hb, hk', hd, x0, x1, x2, x3, x4, x5, -, f1, f2, hkk⟩ := hk.exp_at hil
      have e1 : k' = k := by have := hk'.out; rw [hi] at this; injection this with this; exact this.symm
      subst e1
      exact ih d' (by omega) k' A' n' c' w B hkk f1 f2 t hkt
theorem told_own {w : World} {base : Nat} {A : Option Addr} {n c : Nat} {l : List GTold} (h : w.ownsRow base 65 4 (.slice A n c) n (l.flatMap GTold.cells)) (hl : l.length = n) (hn : n ≤ 1000000) (hok : ∀ t ∈ l, t.x.size ≤ reachN ∧ t.v.ok) : SliceIs Enc.told w w.heap.size A n c l :=
  SliceIs.of_flat (E := Enc.told) GTold.cells (fun _ => rfl) h hl (by simp [reachN]; omega) (fun q hq => ⟨rfl, hok q hq⟩)
theorem own_keepT {T : TypeId} {w W : World} {base e sz : Nat} {v : Value} {n : Nat} {xs : List Value} (h : w.ownsRow base e sz v n xs) (hk : KeepsT T w W) (he : e ≠ T) : W.ownsRow base e sz v n xs := by
  refine ⟨h.1, ?_⟩
  rcases h.2 with hn | ⟨g, cap, cur, rfl, hg, hh, r⟩
  · exact .inl hn
  · exact .inr ⟨g, cap, cur, rfl, hg, hk g _ _ _ hh he, r⟩
/-- a literal's terms -/
def insideL (x : GLit) : List GTold := x.atom.args ++ (leavesE x.l ++ leavesE x.r)
/-- a rule's terms -/
def ruleT (x : GRule) : List GTold := x.head.args ++ x.body.flatMap insideL
theorem inside_ok {d : Nat} {w : World} {B : Nat} {x : GLit} {a p q : Hd} (h : LitAt d w B x a p q) : ∀ t ∈ insideL x, t.x.size ≤ reachN ∧ t.v.ok := by
  intro t ht
  unfold insideL at ht
  rcases List.mem_append.1 ht with ht | ht
  · exact told_ok h.args t ht
  · rcases List.mem_append.1 ht with ht | ht
    · exact leaves_ok _ _ _ _ _ _ _ h.lk h.lx h.lv t ht
    · exact leaves_ok _ _ _ _ _ _ _ h.rk h.rx h.rv t ht
theorem tup3 {W : World} {A B C : Option Addr} {n m k a b c : Nat} {l1 l2 l3 : List GTold} {T : TypeId} (h1 : SliceIs Enc.told W W.heap.size A n a l1) (h2 : SliceIs Enc.told W W.heap.size B m b l2) (h3 : SliceIs Enc.told W W.heap.size C k c l3) :
    SliceIs (Enc.slice Enc.told) (W.alloc (.cells #[.slice A n a, .slice B m b, .slice C k c] T)) (W.alloc (.cells #[.slice A n a, .slice B m b, .slice C k c] T)).heap.size (some ⟨W.heap.size, 0, none⟩) 3 3 [l1, l2, l3] := by
  refine ⟨rfl, Nat.le_refl _, by simp [maxLen], by simp [reachN], .inr ⟨W.heap.size, 0, rfl, by simp, fun i x hx => ?_⟩⟩
  match i, hx with
  | 0, hx =>
    simp at hx; subst hx
    refine ⟨[.slice A n a], ⟨A, n, a, rfl, h1.mono (by simp) (fun b hb => Below.heap_alloc _ _ _ hb)⟩, fun j v hv => ?_⟩
    match j, hv with
    | 0, hv => simp at hv; subst hv; simp [Enc.slice]
  | 1, hx =>
    simp at hx; subst hx
    refine ⟨[.slice B m b], ⟨B, m, b, rfl, h2.mono (by simp) (fun b hb => Below.heap_alloc _ _ _ hb)⟩, fun j v hv => ?_⟩
    match j, hv with
    | 0, hv => simp at hv; subst hv; simp [Enc.slice]
  | 2, hx =>
    simp at hx; subst hx
    refine ⟨[.slice C k c], ⟨C, k, c, rfl, h3.mono (by simp) (fun b hb => Below.heap_alloc _ _ _ hb)⟩, fun j v hv => ?_⟩
    match j, hv with
    | 0, hv => simp at hv; subst hv; simp [Enc.slice]
theorem own_down {W : World} {base base' : Nat} {e : TypeId} {size : Nat} {v : Value} {k : Nat} {xs : List Value} (h : W.ownsRow base e size v k xs) (hb : base' ≤ base) : W.ownsRow base' e size v k xs := by
  refine ⟨h.1, ?_⟩
  rcases h.2 with hn | ⟨g, cap, cur, hv, hbg, rest⟩
  · exact .inl hn
  · exact .inr ⟨g, cap, cur, hv, Nat.le_trans hb hbg, rest⟩
theorem seq_ge {b W : World} {g : Nat} (h : Below b.heap.size b W) (hz : W.heap.size ≤ g) : b.heap.size ≤ g := Nat.le_trans h.size hz
def SeqPost2 (w : World) (e : GExp) (A : Option Addr) (n c : Nat) (r : Ending) (w' : World) : Prop :=
  ∃ g, r = .returned (.func (.func 103) #[] #[.pointer (some ⟨g, 0, none⟩)]) ∧ w'.heap[g]? = some (.cells #[.int .i64 e.op, .string e.t.x, .int .i64 e.t.v.k, .int .i64 e.t.v.n, .string e.t.v.s, .slice A n c] 68 (0, 0)) ∧ w.heap.size ≤ g ∧ Below w.heap.size w w'
theorem termsF_any2 (w : World) (e : GExp) (A : Option Addr) (n c : Nat) : Calls Tryz.prog 76 #[expV e A n c] w (SeqPost2 w e A n c) :=
  (termsF_any w e A n c).mono (fun r w' h => by
    obtain ⟨rfl, rfl⟩ := h
    exact ⟨w.heap.size, rfl, heapNew rfl, Nat.le_refl _, belowA (Below.refl _ _) _⟩)
set_option maxRecDepth 100000 in
set_option maxHeartbeats 8000000 in
theorem insideT_any (d : Nat) (x : GLit) (a p q : Hd) (w : World) (hx : LitAt d w w.heap.size x a p q) (hsz : (insideL x).length ≤ 1500) :
    Calls Tryz.prog 47 #[.agg (litC x a p q).toArray] w (CollPost (insideL x) w) := by
  have Hsz := Lib.hid hsz
  have hsz1 : (leavesE x.l).length ≤ 1500 := by unfold insideL at hsz; simp only [List.length_append] at hsz; omega
  have hsz2 : (leavesE x.r).length ≤ 1500 := by unfold insideL at hsz; simp only [List.length_append] at hsz; omega
  have HOl := Lib.hid (leaves_ok _ _ _ _ _ _ _ hx.lk hx.lx hx.lv)
  have HOr := Lib.hid (leaves_ok _ _ _ _ _ _ _ hx.rk hx.rx hx.rv)
  obtain ⟨P, HP⟩ : ∃ P : Ending → World → Prop, Hid (P = CollPost (insideL x) w) := ⟨_, rfl⟩
  rw [← HP.out]
  clear hsz
  go_enter Tryz.func47, Tryz.ntmps47
  go_wp2_with fail
  have hg := Go.heap_alloc_new w (.cells (litC x a p q).toArray 70)
  have hbw : Below w.heap.size w (w.alloc (.cells (litC x a p q).toArray 70)) := belowA (Below.refl _ _) _
  generalize w.alloc (.cells (litC x a p q).toArray 70) = wb at hg hbw ⊢
  have hgl : w.heap.size < wb.heap.size := (Array.getElem?_eq_some_iff.1 hg).1
  have Hk := Lib.hid (fun W (h : Below wb.heap.size wb W) => show W.cell? ⟨w.heap.size, 2, none⟩ = some (a.v) ∧ W.cell? ⟨w.heap.size, 4, none⟩ = some (.int .i64 x.l.op) ∧ W.cell? ⟨w.heap.size, 5, none⟩ = some (.string x.l.t.x) ∧ W.cell? ⟨w.heap.size, 6, none⟩ = some (.int .i64 x.l.t.v.k) ∧ W.cell? ⟨w.heap.size, 7, none⟩ = some (.int .i64 x.l.t.v.n) ∧ W.cell? ⟨w.heap.size, 8, none⟩ = some (.string x.l.t.v.s) ∧ W.cell? ⟨w.heap.size, 9, none⟩ = some (p.v) ∧ W.cell? ⟨w.heap.size, 10, none⟩ = some (.int .i64 x.r.op) ∧ W.cell? ⟨w.heap.size, 11, none⟩ = some (.string x.r.t.x) ∧ W.cell? ⟨w.heap.size, 12, none⟩ = some (.int .i64 x.r.t.v.k) ∧ W.cell? ⟨w.heap.size, 13, none⟩ = some (.int .i64 x.r.t.v.n) ∧ W.cell? ⟨w.heap.size, 14, none⟩ = some (.string x.r.t.v.s) ∧ W.cell? ⟨w.heap.size, 15, none⟩ = some (q.v) from by
    obtain ⟨h0, h1, h2, h3, h4, h5, h6, h7, h8, h9, h10, h11, h12, h13, h14, h15, h16⟩ := facts17 ((h.block w.heap.size hgl).trans hg)
    exact ⟨h2, h4, h5, h6, h7, h8, h9, h10, h11, h12, h13, h14, h15⟩)
  have HX := Lib.hid (hx.keep hbw)
  have HL := Lib.hid (fun W (h : Below wb.heap.size wb W) => (HX.out.args).keep h)
  have hb1 := Below.refl wb.heap.size wb
  have Hfirst : Hid True := trivial
  clear hg hgl hx
  go_region_held3 (fun w' => w'.cell? ⟨w.heap.size, 2, none⟩ = some (a.v) ∧ w'.cell? ⟨w.heap.size, 4, none⟩ = some (.int .i64 x.l.op) ∧ w'.cell? ⟨w.heap.size, 5, none⟩ = some (.string x.l.t.x) ∧ w'.cell? ⟨w.heap.size, 6, none⟩ = some (.int .i64 x.l.t.v.k) ∧ w'.cell? ⟨w.heap.size, 7, none⟩ = some (.int .i64 x.l.t.v.n) ∧ w'.cell? ⟨w.heap.size, 8, none⟩ = some (.string x.l.t.v.s) ∧ w'.cell? ⟨w.heap.size, 9, none⟩ = some (p.v) ∧ w'.cell? ⟨w.heap.size, 10, none⟩ = some (.int .i64 x.r.op) ∧ w'.cell? ⟨w.heap.size, 11, none⟩ = some (.string x.r.t.x) ∧ w'.cell? ⟨w.heap.size, 12, none⟩ = some (.int .i64 x.r.t.v.k) ∧ w'.cell? ⟨w.heap.size, 13, none⟩ = some (.int .i64 x.r.t.v.n) ∧ w'.cell? ⟨w.heap.size, 14, none⟩ = some (.string x.r.t.v.s) ∧ w'.cell? ⟨w.heap.size, 15, none⟩ = some (q.v))
    (first
      | (refine Hk.out _ ?_; (repeat (first | with_reducible exact Below.refl _ _ | with_reducible assumption | with_reducible refine Below.drew ?_ | with_reducible refine belowA ?_ _)))
      | go_keep)
    ((first
      | (go_at_call 76
         refine (termsF_any2 _ x.l p.A p.n p.c).mono ?_
         clear Hfirst
         rintro e w1 ⟨g1, rfl, hg1, hz1, hq1⟩
         have hgz1 : wb.heap.size ≤ g1 := by
           refine seq_ge ?_ hz1
           (repeat (first | with_reducible exact Below.refl _ _ | with_reducible assumption | with_reducible refine Below.drew ?_ | with_reducible refine belowA ?_ _))
         have hb1 : Below wb.heap.size wb w1 := by
           refine below_next ?_ hq1
           (repeat (first | with_reducible exact Below.refl _ _ | with_reducible assumption | with_reducible refine Below.drew ?_ | with_reducible refine belowA ?_ _))
         clear hq1 hz1)
      | (go_at_call 75
         refine (collect_any (e := x.l) (g := g1) hg1 wb hgz1 ?hw HX.out.lk hsz1).mono ?_
         case hw => (repeat (first | with_reducible exact Below.refl _ _ | with_reducible assumption | with_reducible refine Below.drew ?_ | with_reducible refine belowA ?_ _))
         clear hg1 hgz1
         rintro e w2 ⟨A9, c9, rfl, hs9, hq1⟩
         have hb1 : Below wb.heap.size wb w2 := by
           refine below_next ?_ hq1
           (repeat (first | with_reducible exact Below.refl _ _ | with_reducible assumption | with_reducible refine Below.drew ?_ | with_reducible refine belowA ?_ _))
         have hs9 := told_own hs9 rfl (by omega) HOl.out
         clear hq1)
      | (go_at_call 76
         refine (termsF_any2 _ x.r q.A q.n q.c).mono ?_
         rintro e w3 ⟨g3, rfl, hg3, hz3, hq1⟩
         have hgz3 : wb.heap.size ≤ g3 := by
           refine seq_ge ?_ hz3
           (repeat (first | with_reducible exact Below.refl _ _ | with_reducible assumption | with_reducible refine Below.drew ?_ | with_reducible refine belowA ?_ _))
         have hb1 : Below wb.heap.size wb w3 := by
           refine below_next ?_ hq1
           (repeat (first | with_reducible exact Below.refl _ _ | with_reducible assumption | with_reducible refine Below.drew ?_ | with_reducible refine belowA ?_ _))
         have hs9 := hs9.keep (w' := w3) (by
           refine below_next ?_ hq1
           (repeat (first | with_reducible exact Below.refl _ _ | with_reducible assumption | with_reducible refine Below.drew ?_ | with_reducible refine belowA ?_ _)))
         clear hq1 hz3)
      | (go_at_call 75
         refine (collect_any (e := x.r) (g := g3) hg3 wb hgz3 ?hw HX.out.rk hsz2).mono ?_
         case hw => (repeat (first | with_reducible exact Below.refl _ _ | with_reducible assumption | with_reducible refine Below.drew ?_ | with_reducible refine belowA ?_ _))
         clear hg3 hgz3
         rintro e w4 ⟨A13, c13, rfl, hs13, hq1⟩
         have hb1 : Below wb.heap.size wb w4 := by
           refine below_next ?_ hq1
           (repeat (first | with_reducible exact Below.refl _ _ | with_reducible assumption | with_reducible refine Below.drew ?_ | with_reducible refine belowA ?_ _))
         have hs9 := hs9.keep (w' := w4) (by
           refine below_next ?_ hq1
           (repeat (first | with_reducible exact Below.refl _ _ | with_reducible assumption | with_reducible refine Below.drew ?_ | with_reducible refine belowA ?_ _)))
         have hs13 := told_own hs13 rfl (by omega) HOr.out
         clear hq1)
      | (go_at_call 74
         refine (concat_any _ 3 3 [x.atom.args, leavesE x.l, leavesE x.r] _ ?hc ?hs).mono ?_
         case hc => exact tup3 (HL.out _ hb1) hs9 hs13
         case hs => have := Hsz.out; simp [sumLen]; simp [insideL] at this; omega
         rintro e w5 ⟨A15, c15, rfl, hs15, hq1⟩
         have hs15 := own_down (base' := w.heap.size) hs15 (by
           refine Nat.le_trans hbw.size (seq_ge (b := wb) ?_ (Nat.le_refl _))
           (repeat (first | with_reducible exact Below.refl _ _ | with_reducible assumption | with_reducible refine Below.drew ?_ | with_reducible refine belowA ?_ _)))
         have hb5 : Below wb.heap.size wb w5 := by
           refine below_next ?_ hq1
           (repeat (first | with_reducible exact Below.refl _ _ | with_reducible assumption | with_reducible refine Below.drew ?_ | with_reducible refine belowA ?_ _)))))
  all_goals
    have hPP : P (.returned (.slice A15 (x.atom.args.length + ((leavesE x.l).length + (leavesE x.r).length)) c15)) w5 := by
      rw [HP.out]
      have e1 : List.flatten [x.atom.args, leavesE x.l, leavesE x.r] = insideL x := by simp [insideL]
      have e2 : x.atom.args.length + ((leavesE x.l).length + (leavesE x.r).length) = (insideL x).length := by simp [insideL]
      rw [e1] at hs15
      rw [e2]
      exact ⟨A15, c15, rfl, hs15, below_next hbw hb5⟩
    have HPP := Lib.hid hPP
    clear hPP hs15
    go_wp2_with fail
    exact HPP.out
def TextsPost (L : List ByteArray) (w : World) (e : Ending) (w' : World) : Prop :=
  ∃ A c, e = .returned (.slice A L.length c) ∧ w'.ownsRow w.heap.size 9 1 (.slice A L.length c) L.length (L.flatMap strC) ∧ Below w.heap.size w w'
theorem TextsPost.is {L : List ByteArray} {w w' : World} {A : Option Addr} {c : Nat} (h : w'.ownsRow w.heap.size 9 1 (.slice A L.length c) L.length (L.flatMap strC)) (hl : L.length ≤ 1000000) (hok : ∀ s ∈ L, s.size ≤ reachN) : SliceIs Enc.str w' w'.heap.size A L.length c L :=
  texts_is h rfl hl hok
set_option maxRecDepth 100000 in
set_option maxHeartbeats 1000000 in
theorem inT_any (d : Nat) (x : GLit) (a p q : Hd) (w : World) (hx : LitAt d w w.heap.size x a p q) (hsz : (insideL x).length ≤ 1500) :
    Calls Tryz.prog 18 #[.agg (litC x a p q).toArray] w (TextsPost (putL [] (insideL x)) w) := by
  have HX := Lib.hid hx
  have Hsz := Lib.hid hsz
  obtain ⟨P, HP⟩ : ∃ P : Ending → World → Prop, Hid (P = TextsPost (putL [] (insideL x)) w) := ⟨_, rfl⟩
  rw [← HP.out]
  clear hx hsz
  have hrb : (w.alloc (.cells (litC x a p q).toArray 70)).heap[w.heap.size]? = some (.cells (litC x a p q).toArray 70 (0, 0)) := heapNew rfl
  obtain ⟨b0, b1, b2, b3, b4, b5, b6, b7, b8, b9, b10, b11, b12, b13, b14, b15, b16⟩ := facts17 hrb
  have hbw : Below w.heap.size w (w.alloc (.cells (litC x a p q).toArray 70)) := belowA (Below.refl _ _) _
  have HC := Lib.hid (insideT_any d x a p q _ (HX.out.keep hbw) Hsz.out)
  go_enter Tryz.func18, Tryz.ntmps18
  go_wp2_with fail
  refine HC.out.mono ?_
  rintro e w1 ⟨A1, c1, rfl, ho1, hb1⟩
  have hzw := hbw.size
  have hz1 := hb1.size
  have HC2 := Lib.hid (put_any w1.heap.size none 0 0 [] A1 (insideL x).length c1 (insideL x) w1 (Nat.le_refl _) rfl (World.ownsRow_nil _ _ _ _) (fun _ h => by cases h) (fun W hk hb => told_own (own_below ho1 hb) rfl (by have := Hsz.out; omega) (inside_ok HX.out)) (by have := Hsz.out; omega))
  clear HC ho1
  go_wp2_with fail
  refine HC2.out.mono ?_
  rintro e w2 ⟨A2, c2, rfl, ho2, -, hb2⟩
  have HPP : Hid (P (.returned (.slice A2 (putL [] (insideL x)).length c2)) w2) := by
    show P _ _
    rw [HP.out]
    exact ⟨A2, c2, rfl, own_down ho2 (by omega), below_next (below_next hbw hb1) hb2⟩
  clear HC2 ho2
  go_wp2_with fail
  exact HPP.out
end Go.Proofs.YtfklheagafffmaaGreatDoor

namespace Go.Proofs.YtfklheagafffmaaGreatDoor
open Go.RowKit
theorem ba_lenS (s : ByteArray) : s.toList.length = s.size := by rw [ByteArray.toList_eq]; rfl
theorem ba_emptyS (s : ByteArray) : s.toList.isEmpty = decide (s.size = 0) := by
  rw [Bool.eq_iff_iff, List.isEmpty_iff, decide_eq_true_eq, ← ba_lenS, List.length_eq_zero_iff]
set_option maxRecDepth 100000 in
set_option maxHeartbeats 4000000 in
theorem refNames_any (A : Option Addr) (n c : Nat) (l : List GTold) (w : World) (hl : SliceIs Enc.told w w.heap.size A n c l) (hsz : n ≤ 100000) :
    Calls Tryz.prog 37 #[.slice A n c] w (TextsPost (putL [] l) w) := by
  have hn := hl.bound
  have hlen := Lib.hid hl.1
  have Htold := Lib.hid (fun t h => told_ok hl t h)
  have HL := Lib.hid hl
  obtain ⟨P, HP⟩ : ∃ P : Ending → World → Prop, Hid (P = TextsPost (putL [] l) w) := ⟨_, rfl⟩
  rw [← HP.out]
  clear hl
  go_enter Tryz.func37, Tryz.ntmps37
  go_wp2_with fail
  go_loopw [3, 4] (fun v i wr => ∃ (k m c' : Nat) (A' : Option Addr) (L : List ByteArray), k ≤ n ∧ i = .int .i64 (k : Int) ∧ v = .slice A' m c' ∧ Hid (putL [] (l.take k) = L) ∧ m ≤ k ∧ Hid (L.length = m) ∧ Hid (wr.ownsRow w.heap.size 9 1 (.slice A' m c') m (L.flatMap strC)) ∧ Hid (Below w.heap.size w wr)) (fun _ i _ => n - (intOf i).toNat)
  case atStart => exact ⟨0, 0, 0, none, [], by omega, rfl, rfl, rfl, by omega, rfl, World.ownsRow_nil _ _ _ _, Below.refl _ _⟩
  case round =>
    obtain ⟨k, m, c', A', L, hk, rfl, rfl, hL, hmk, HLm, HO, HB⟩ := hrel
    have i0 : (0 : Int) ≤ (k : Int) := by omega
    by_cases hlt : k < n
    · have i1 : (k : Int) < (n : Int) := by omega
      obtain ⟨b, o, x, rfl, hbl, hx, x1, x2, x3, x4, hxs, _⟩ := (HL.out.keep HB.out).told_at hlt
      have HLs : Hid (∀ s ∈ L, s.size ≤ reachN) := fun s h => by
        rw [← hL.out] at h
        rcases putL_mem h with h | ⟨t, ht, e⟩
        · cases h
        · exact e ▸ (Htold.out t (List.mem_of_mem_take ht)).1
      have HE : Hid (putL [] (l.take (k + 1)) = put1 L x) := by
        show putL [] (l.take (k + 1)) = put1 L x
        rw [putL_take hx.out, hL.out]
      have Hxs := Lib.hid hxs
      have he0 := ba_emptyS x.x
      by_cases he : x.x.size = 0
      · have HT : Hid (putL [] (l.take (k + 1)) = L) := by rw [HE.out]; simp [put1, he0, he, Hid]
        have i2 : ¬ (0 : Int) < (x.x.size : Int) := by omega
        clear HE HLs he he0 hxs x2 x3 x4
        go_wp2_with fail
        go_roundw
        case rel => exact ⟨k + 1, m, c', A', L, by omega, by go_num, rfl, HT, by omega, HLm, HO, HB⟩
        case measure => simp [intOf]; omega
      · have i2 : (0 : Int) < (x.x.size : Int) := by omega
        rw [decide_eq_false he] at he0
        have hC := Lib.hid (has_any A' m c' L x.x wr (texts_is HO.out HLm.out (by omega) HLs.out))
        by_cases hm : x.x ∈ L
        · have HT : Hid (putL [] (l.take (k + 1)) = L) := by rw [HE.out]; simp [put1, he0, hm, Hid]
          rw [decide_eq_true hm] at hC
          clear hm HE HLs he he0 hxs x2 x3 x4
          go_wp2_with fail
          refine hC.out.mono ?_
          rintro e w1 ⟨rfl, hb1⟩
          have HO1 := Lib.hid (own_below HO.out hb1)
          have HB1 : Hid (Below w.heap.size w w1) := HB.out.trans (hb1.mono HB.out.size)
          clear hb1 hC
          go_wp2_with fail
          go_roundw
          case rel => exact ⟨k + 1, m, c', A', L, by omega, by go_num, rfl, HT, by omega, HLm, HO1, HB1⟩
          case measure => simp [intOf]; omega
        · have HT : Hid (putL [] (l.take (k + 1)) = L ++ [x.x]) := by rw [HE.out]; simp [put1, he0, hm, Hid]
          rw [decide_eq_false hm] at hC
          clear hm HE HLs he he0 hxs x2 x3 x4
          go_wp2_with fail
          refine hC.out.mono ?_
          rintro e w1 ⟨rfl, hb1⟩
          have hz1 := hb1.size
          have hzB := HB.out.size
          have HO1 := Lib.hid (own_below HO.out hb1)
          have x1b : w1.cell? ⟨b, o + k * 4, none⟩ = some (.string x.x) := (hb1.cell (p := ⟨b, o + k * 4, none⟩) (by show b < _; omega)).trans x1
          obtain ⟨A2, c2, w3, hrun, hown2, hb3, hk3⟩ := str_push HO1.out x.x (by omega) (by omega)
          have HRun := Lib.hid hrun
          have HO3 := Lib.hid hown2
          have HB3 : Hid (Below w.heap.size w w3) := (HB.out.trans (hb1.mono HB.out.size)).trans hb3
          have HLm2 : Hid ((L ++ [x.x]).length = m + 1) := by show _ = _; simp [HLm.out]
          clear hrun hown2 hk3 hb3 hC hb1 x1
          go_wp2_with (at_builtin; refine wpList_append_run rfl _ _ _ rfl _ _ rfl rfl (HRun.out _) ?_)
          go_roundw
          case rel => exact ⟨k + 1, m + 1, c2, A2, L ++ [x.x], by omega, by go_num, rfl, HT, by omega, HLm2, HO3, HB3⟩
          case measure => simp [intOf]; omega
    · have i1 : ¬ (k : Int) < (n : Int) := by omega
      have e : putL [] l = L := by rw [← hL.out, List.take_of_length_le (by have := hlen.out; omega)]
      have hPP : Hid (P (.returned (.slice A' m c')) wr) := by
        show P _ _
        rw [HP.out, e]
        exact ⟨A', c', by rw [HLm.out], by rw [HLm.out]; exact HO.out, HB.out⟩
      clear HP e
      go_wp2_with fail
      first | exact hPP.out | (go_ret; exact hPP.out)
end Go.Proofs.YtfklheagafffmaaGreatDoor

namespace Go.Proofs.YtfklheagafffmaaGreatDoor
open Go.RowKit
def CollR (L : List GTold) (w : World) (r : Ending) (w' : World) : Prop :=
  ∃ A c, r = .returned (.slice A L.length c) ∧ w'.ownsRow w.heap.size 49 4 (.slice A L.length c) L.length (L.flatMap GTold.cells) ∧ Below w.heap.size w w'
theorem rterm_info : (Tryz.prog.info? 49).map (fun i => (i.zero, i.size, i.bytes)) = some (some (.agg #[.string ⟨#[]⟩, .int .i64 0, .int .i64 0, .string ⟨#[]⟩]), 4, 48) := by kernel_rfl
theorem told_oneS (x : GTold) : ∀ u ∈ x.cells, u.oneCell' = true := by intro u hu; simp [GTold.cells] at hu; rcases hu with rfl | rfl | rfl | rfl <;> rfl
/-- a list of terms, put behind a row of the call's own -/
theorem rterms_app {W : World} {base : Nat} {A0 : Option Addr} {n0 c0 : Nat} {L0 : List GTold} {B : Nat} {A : Option Addr} {n c : Nat} {l : List GTold} (hown : W.ownsRow base 49 4 (.slice A0 n0 c0) n0 (L0.flatMap GTold.cells)) (hl : SliceIs Enc.told W B A n c l) (hn : n0 + n ≤ 100000) (hb : base ≤ W.heap.size) :
    ∃ A' c' W', (∀ ty, (Builtin.append_ #[30, 30] ty #[.slice A0 n0 c0, .slice A n c]).run Tryz.prog W = .ok (.slice A' (n0 + n) c') W') ∧ W'.ownsRow base 49 4 (.slice A' (n0 + n) c') (n0 + n) ((L0 ++ l).flatMap GTold.cells) ∧ Below base W W' := by
  obtain ⟨v', w', h1, h2, h3, h4⟩ := run_append_slice (P := Tryz.prog) (E := Enc.told) (B := B) (ty := 30) GTold.cells (fun _ => rfl) (fun h => h.1) told_oneS W (base := base) Tryz.underlying30 rterm_info rfl (by decide)
    hown hl (by simp [maxLen]; omega) (by omega) hb
  obtain ⟨A', c', rfl⟩ := own_form h2
  exact ⟨A', c', w', fun _ => h1, by rw [List.flatMap_append]; exact h2, h4⟩
set_option maxRecDepth 100000 in
set_option maxHeartbeats 8000000 in
theorem refInside_any (d : Nat) (x : GLit) (a p q : Hd) (w : World) (hx : LitAt d w w.heap.size x a p q) (hsz : (insideL x).length ≤ 1500) :
    Calls Tryz.prog 38 #[.agg (litC x a p q).toArray] w (CollR (insideL x) w) := by
  have hsz0 : x.atom.args.length + (leavesE x.l).length + (leavesE x.r).length ≤ 1500 := by unfold insideL at hsz; simp only [List.length_append] at hsz; omega
  obtain ⟨P, HP⟩ : ∃ P : Ending → World → Prop, Hid (P = CollR (insideL x) w) := ⟨_, rfl⟩
  rw [← HP.out]
  obtain ⟨V, hV⟩ : ∃ V, V = w.alloc (.cells (litC x a p q).toArray 54) := ⟨_, rfl⟩
  have HVe := Lib.hid hV.symm
  have hg : V.heap[w.heap.size]? = some (.cells (litC x a p q).toArray 54 (0, 0)) := by rw [hV]; exact heapNew rfl
  have hbV : Below w.heap.size w V := by rw [hV]; exact belowA (Below.refl _ _) _
  have hgl : w.heap.size < V.heap.size := (Array.getElem?_eq_some_iff.1 hg).1
  have Hk : Hid (∀ W, Below V.heap.size V W → W.cell? ⟨w.heap.size, 2, none⟩ = some (a.v) ∧ W.cell? ⟨w.heap.size, 4, none⟩ = some (.int .i64 x.l.op) ∧ W.cell? ⟨w.heap.size, 5, none⟩ = some (.string x.l.t.x) ∧ W.cell? ⟨w.heap.size, 6, none⟩ = some (.int .i64 x.l.t.v.k) ∧ W.cell? ⟨w.heap.size, 7, none⟩ = some (.int .i64 x.l.t.v.n) ∧ W.cell? ⟨w.heap.size, 8, none⟩ = some (.string x.l.t.v.s) ∧ W.cell? ⟨w.heap.size, 9, none⟩ = some (p.v) ∧ W.cell? ⟨w.heap.size, 10, none⟩ = some (.int .i64 x.r.op) ∧ W.cell? ⟨w.heap.size, 11, none⟩ = some (.string x.r.t.x) ∧ W.cell? ⟨w.heap.size, 12, none⟩ = some (.int .i64 x.r.t.v.k) ∧ W.cell? ⟨w.heap.size, 13, none⟩ = some (.int .i64 x.r.t.v.n) ∧ W.cell? ⟨w.heap.size, 14, none⟩ = some (.string x.r.t.v.s) ∧ W.cell? ⟨w.heap.size, 15, none⟩ = some (q.v)) := fun W h => by
    obtain ⟨h0, h1, h2, h3, h4, h5, h6, h7, h8, h9, h10, h11, h12, h13, h14, h15, h16⟩ := facts17 ((h.block w.heap.size hgl).trans hg)
    exact ⟨h2, h4, h5, h6, h7, h8, h9, h10, h11, h12, h13, h14, h15⟩
  have HX := Lib.hid (hx.keep hbV)
  have HbV := Lib.hid hbV
  have hb0 : Below V.heap.size V (V.drew.alloc (.cells #[] 49)) := belowA (Below.refl _ _).drew _
  have hal : x.atom.args.length = a.n := HX.out.args.1
  have hown0 : (V.drew.alloc (.cells #[] 49)).ownsRow V.heap.size 49 4 (.slice (some ⟨V.heap.size, 0, none⟩) 0 0) 0 (([] : List GTold).flatMap GTold.cells) := own_empty (Nat.le_refl _) (Go.heap_alloc_new V.drew _)
  obtain ⟨A1, c1, W1, hrun, hown1, hb1'⟩ := rterms_app hown0 (HX.out.args.below hb0) (by omega) hb0.size
  rw [Nat.zero_add] at hrun hown1
  rw [List.nil_append] at hown1
  have hb1 : Below V.heap.size V W1 := hb0.trans hb1'
  have HO1 := Lib.hid hown1
  have hz1 := hb1.size
  have HApp : Hid (∃ v' w', (Builtin.append_ #[30, 30] 30 #[.slice (some ⟨V.heap.size, 0, none⟩) 0 0, .slice a.A a.n a.c]).run Tryz.prog (V.drew.alloc (.cells #[] 49)) = .ok v' w' ∧ (v' = .slice A1 a.n c1 ∧ w' = W1)) := ⟨_, _, hrun _, rfl, rfl⟩
  clear hrun
  have hb : Below V.heap.size V V := Below.refl _ _
  obtain ⟨L1, HL1⟩ : ∃ L1, Hid (x.atom.args ++ leavesE x.l = L1) := ⟨_, rfl⟩
  have HL2 : Hid (L1 ++ leavesE x.r = insideL x) := by show _ = _; rw [← HL1.out]; simp [insideL]
  have HLn : Hid (L1.length = x.atom.args.length + (leavesE x.l).length) := by show _ = _; rw [← HL1.out]; simp
  have HT1 : Hid (∀ W A c, Below V.heap.size V W → W.ownsRow V.heap.size 49 4 (.slice A a.n c) a.n (x.atom.args.flatMap GTold.cells) → Calls Tryz.prog 64 #[expV x.l p.A p.n p.c, .slice A a.n c] W (RefTermsPost L1 V.heap.size W)) := fun W A c h1 h2 => by
    rw [← HL1.out]
    exact refTerms_any V.heap.size d x.l p.A p.n p.c A a.n c x.atom.args W (HX.out.lk.below h1) h1.size hal h2 (by omega)
  have HT2 : Hid (∀ W A c, Below V.heap.size V W → W.ownsRow V.heap.size 49 4 (.slice A L1.length c) L1.length (L1.flatMap GTold.cells) → Calls Tryz.prog 64 #[expV x.r q.A q.n q.c, .slice A L1.length c] W (RefTermsPost (insideL x) V.heap.size W)) := fun W A c h1 h2 => by
    rw [← HL2.out]
    exact refTerms_any V.heap.size d x.r q.A q.n q.c A L1.length c L1 W (HX.out.rk.below h1) h1.size rfl h2 (by rw [HLn.out]; omega)
  clear hg hV hbV hown0 hb1' hown1 hsz hx
  go_enter Tryz.func38, Tryz.ntmps38
  go_wp2_with (rw [HVe.out])
  go_region_held3 (fun w' => w'.cell? ⟨w.heap.size, 2, none⟩ = some (a.v) ∧ w'.cell? ⟨w.heap.size, 4, none⟩ = some (.int .i64 x.l.op) ∧ w'.cell? ⟨w.heap.size, 5, none⟩ = some (.string x.l.t.x) ∧ w'.cell? ⟨w.heap.size, 6, none⟩ = some (.int .i64 x.l.t.v.k) ∧ w'.cell? ⟨w.heap.size, 7, none⟩ = some (.int .i64 x.l.t.v.n) ∧ w'.cell? ⟨w.heap.size, 8, none⟩ = some (.string x.l.t.v.s) ∧ w'.cell? ⟨w.heap.size, 9, none⟩ = some (p.v) ∧ w'.cell? ⟨w.heap.size, 10, none⟩ = some (.int .i64 x.r.op) ∧ w'.cell? ⟨w.heap.size, 11, none⟩ = some (.string x.r.t.x) ∧ w'.cell? ⟨w.heap.size, 12, none⟩ = some (.int .i64 x.r.t.v.k) ∧ w'.cell? ⟨w.heap.size, 13, none⟩ = some (.int .i64 x.r.t.v.n) ∧ w'.cell? ⟨w.heap.size, 14, none⟩ = some (.string x.r.t.v.s) ∧ w'.cell? ⟨w.heap.size, 15, none⟩ = some (q.v))
    (first
      | (refine Hk.out _ ?_; (repeat (first | with_reducible exact Below.refl _ _ | with_reducible assumption | with_reducible refine Below.drew ?_ | with_reducible refine belowA ?_ _)); done)
      | go_keep)
    ((first
      | (refine step_append_ex (by rfl) (.tmp 7) (.tmp 10) _ (by rfl) _ _ (by rfl) (by rfl) _ HApp.out ?_
         rintro v1 w1 ⟨rfl, rfl⟩)
      | (go_at_call 64
         fail_if_success have := hb2
         refine (HT1.out w1 A1 c1 hb1 HO1.out).mono ?_
         rintro e w2 ⟨A2, c2, rfl, ho2, hq2, -, -⟩
         have hb2 : Below V.heap.size V w2 := hb1.trans hq2
         have HO2 := Lib.hid ho2
         clear ho2 hq2)
      | (go_at_call 64
         refine (HT2.out w2 A2 c2 hb2 HO2.out).mono ?_
         rintro e w3 ⟨A3, c3, rfl, ho3, hq3, -, -⟩
         have hb3 : Below V.heap.size V w3 := hb2.trans hq3
         have HPP : Hid (P (.returned (.slice A3 (insideL x).length c3)) w3) := by
           show P _ _
           rw [HP.out]
           exact ⟨A3, c3, rfl, own_down ho3 HbV.out.size, HbV.out.trans (hb3.mono HbV.out.size)⟩
         clear ho3 hq3)))
  all_goals
    go_wp2_with fail
    exact HPP.out
end Go.Proofs.YtfklheagafffmaaGreatDoor

namespace Go.Proofs.YtfklheagafffmaaGreatDoor
open Go.RowKit
def varsE (e : GExp) : List ByteArray := putL [] (leavesE e)
def varsL (x : GLit) : List ByteArray := putL [] (insideL x)
def hasB (S : List ByteArray) (s : ByteArray) : Bool := decide (s ∈ S)
def allB (S l : List ByteArray) : Bool := l.all (hasB S)
def aloneE (e : GExp) : ByteArray := if e.op = 0 ∧ e.kids.length = 0 then e.t.x else ⟨#[]⟩
/-- a variable that isn't set, beside what is set -/
def sideB (S : List ByteArray) (a b : GExp) : Bool := !(aloneE a).toList.isEmpty && (!hasB S (aloneE a) && allB S (varsE b))
def setsB (S : List ByteArray) (x : GLit) : Bool := (decide (x.k = 3) && decide (x.op = 1)) && (sideB S x.l x.r || sideB S x.r x.l)
def posB (x : GLit) : Bool := decide (x.k = 1)
def earlyB (S : List ByteArray) (x : GLit) : Bool := (!posB x && allB S (varsL x)) || setsB S x
theorem hasB_iff {S : List ByteArray} {s : ByteArray} : hasB S s = true ↔ s ∈ S := by simp [hasB]
theorem allB_iff {S l : List ByteArray} : allB S l = true ↔ ∀ v ∈ l, v ∈ S := by simp [allB, hasB]
theorem hasB_congr {S T : List ByteArray} (h : ∀ v, v ∈ S ↔ v ∈ T) (s : ByteArray) : hasB S s = hasB T s := by
  rw [Bool.eq_iff_iff, hasB_iff, hasB_iff]; exact h s
theorem put1_has {acc : List ByteArray} {t : GTold} {v : ByteArray} : v ∈ put1 acc t ↔ v ∈ acc ∨ (v = t.x ∧ t.x.toList.isEmpty = false) := by
  unfold put1
  cases he : t.x.toList.isEmpty with
  | true => simp
  | false =>
    by_cases hm : t.x ∈ acc
    · simp only [hm, decide_true, Bool.or_true, if_true, and_true]
      constructor
      · exact .inl
      · rintro (h | rfl)
        · exact h
        · exact hm
    · simp [hm]
theorem putL_has {l : List GTold} : ∀ {acc : List ByteArray} {v : ByteArray}, v ∈ putL acc l ↔ v ∈ acc ∨ ∃ t ∈ l, v = t.x ∧ t.x.toList.isEmpty = false := by
  induction l with
  | nil => intro acc v; simp [putL]
  | cons t l ih =>
    intro acc v
    show v ∈ putL (put1 acc t) l ↔ _
    rw [ih, put1_has]
    simp only [List.mem_cons, exists_eq_or_imp, or_assoc]
theorem varsL_has {x : GLit} {v : ByteArray} : v ∈ varsL x ↔ ∃ t ∈ insideL x, v = t.x ∧ t.x.toList.isEmpty = false := by
  unfold varsL; rw [putL_has]; simp
theorem varsE_has {e : GExp} {v : ByteArray} : v ∈ varsE e ↔ ∃ t ∈ leavesE e, v = t.x ∧ t.x.toList.isEmpty = false := by
  unfold varsE; rw [putL_has]; simp
theorem varsE_sub_l {x : GLit} {v : ByteArray} (h : v ∈ varsE x.l) : v ∈ varsL x := by
  obtain ⟨t, ht, hv⟩ := varsE_has.1 h
  exact varsL_has.2 ⟨t, by unfold insideL; simp [ht], hv⟩
theorem varsE_sub_r {x : GLit} {v : ByteArray} (h : v ∈ varsE x.r) : v ∈ varsL x := by
  obtain ⟨t, ht, hv⟩ := varsE_has.1 h
  exact varsL_has.2 ⟨t, by unfold insideL; simp [ht], hv⟩
theorem alone_has {e : GExp} (h : (aloneE e).toList.isEmpty = false) : aloneE e ∈ varsE e := by
  unfold aloneE at h ⊢
  by_cases hc : e.op = 0 ∧ e.kids.length = 0
  · rw [if_pos hc] at h ⊢
    rw [varsE_has, leavesE_nil (List.length_eq_zero_iff.1 hc.2)]
    exact ⟨e.t, by simp, rfl, h⟩
  · rw [if_neg hc] at h
    simp [ByteArray.toList_eq] at h
theorem alone_vars {e : GExp} (h : (aloneE e).toList.isEmpty = false) {v : ByteArray} (hv : v ∈ varsE e) : v = aloneE e := by
  unfold aloneE at h ⊢
  by_cases hc : e.op = 0 ∧ e.kids.length = 0
  · rw [if_pos hc] at h ⊢
    rw [varsE_has, leavesE_nil (List.length_eq_zero_iff.1 hc.2)] at hv
    obtain ⟨t, ht, hv, -⟩ := hv
    simp at ht
    rw [hv, ht]
  · rw [if_neg hc] at h
    simp [ByteArray.toList_eq] at h
/-- how many variables aren't set yet -/
def lackN (body : List GLit) (S : List ByteArray) : Nat := ((body.flatMap varsL).filter (fun v => !hasB S v)).length
theorem filter_lt {l : List ByteArray} {p q : ByteArray → Bool} (h : ∀ v, q v = true → p v = true) {a : ByteArray} (ha : a ∈ l) (hp : p a = true) (hq : q a = false) : (l.filter q).length < (l.filter p).length := by
  induction l with
  | nil => cases ha
  | cons b l ih =>
    have hle : (l.filter q).length ≤ (l.filter p).length := by
      clear ih ha
      induction l with
      | nil => simp
      | cons c l ih =>
        rw [List.filter_cons, List.filter_cons]
        cases hqc : q c with
        | true => rw [h c hqc]; simpa using ih
        | false =>
          cases p c with
          | true => simp only [Bool.false_eq_true, if_false, if_true, List.length_cons]; omega
          | false => simpa using ih
    rw [List.filter_cons, List.filter_cons]
    rcases List.mem_cons.1 ha with rfl | ha
    · rw [hp, hq]; simp only [Bool.false_eq_true, if_false, if_true, List.length_cons]; omega
    · have := ih ha
      cases hqb : q b with
      | true => rw [h b hqb]; simpa using this
      | false =>
        cases p b with
        | true => simp only [Bool.false_eq_true, if_false, if_true, List.length_cons]; omega
        | false => simpa using this
theorem sets_new {S : List ByteArray} {x : GLit} (h : setsB S x = true) : ∃ a, a ∈ varsL x ∧ a ∉ S := by
  simp only [setsB, sideB, Bool.and_eq_true, Bool.or_eq_true, Bool.not_eq_true'] at h
  rcases h.2 with ⟨h1, h2, -⟩ | ⟨h1, h2, -⟩
  · refine ⟨_, varsE_sub_l (alone_has h1), ?_⟩
    intro hm; rw [hasB_iff.2 hm] at h2; cases h2
  · refine ⟨_, varsE_sub_r (alone_has h1), ?_⟩
    intro hm; rw [hasB_iff.2 hm] at h2; cases h2
theorem lack_lt {body : List GLit} {S : List ByteArray} {x : GLit} (hx : x ∈ body) (h : setsB S x = true) : lackN body (S ++ varsL x) < lackN body S := by
  obtain ⟨a, ha, hn⟩ := sets_new h
  unfold lackN
  refine filter_lt (a := a) ?_ (List.mem_flatMap.2 ⟨x, hx, ha⟩) (by simp [hasB, hn]) (by simp [hasB, ha])
  intro v hv
  simp only [hasB, List.mem_append, Bool.not_eq_true', decide_eq_false_iff_not, not_or] at hv ⊢
  exact hv.1
/-- the program's way: the first one that sets, then anew -/
inductive BoundTo (body : List GLit) : List ByteArray → List ByteArray → Prop where
  | stop {S : List ByteArray} (h : ∀ x ∈ body, setsB S x = false) : BoundTo body S S
  | step {S T : List ByteArray} {x : GLit} (hx : x ∈ body) (h : setsB S x = true) (ht : BoundTo body (S ++ varsL x) T) : BoundTo body S T
theorem BoundTo.sub {body : List GLit} {S T : List ByteArray} (h : BoundTo body S T) : ∀ v ∈ S, v ∈ T := by
  induction h with
  | stop _ => exact fun _ h => h
  | step _ _ _ ih => exact fun v hv => ih v (List.mem_append_left _ hv)
theorem BoundTo.end_ {body : List GLit} {S T : List ByteArray} (h : BoundTo body S T) : ∀ x ∈ body, setsB T x = false := by
  induction h with
  | stop h => exact h
  | step _ _ _ ih => exact ih
/-- comparisons have no atom -/
def CmpBare (body : List GLit) : Prop := ∀ x ∈ body, x.k = 3 → x.atom.args = []
theorem sets_vars {x : GLit} (ha : x.atom.args = []) {v : ByteArray} (hv : v ∈ varsL x) : v ∈ varsE x.l ∨ v ∈ varsE x.r := by
  obtain ⟨t, ht, h⟩ := varsL_has.1 hv
  unfold insideL at ht
  rw [ha] at ht
  rcases List.mem_append.1 (by simpa using ht) with h1 | h1
  · exact .inl (varsE_has.2 ⟨t, h1, h⟩)
  · exact .inr (varsE_has.2 ⟨t, h1, h⟩)
/-- what may be set from less is set, or may be set, where nothing more can be set -/
theorem sets_in {S T : List ByteArray} {x : GLit} (ha : x.atom.args = []) (hs : setsB S x = true) (hST : ∀ v ∈ S, v ∈ T) (hT : setsB T x = false) : ∀ v ∈ varsL x, v ∈ T := by
  simp only [setsB, sideB, Bool.and_eq_true, Bool.or_eq_true, Bool.not_eq_true'] at hs
  have hT2 : ∀ a b : GExp, ((a = x.l ∧ b = x.r) ∨ (a = x.r ∧ b = x.l)) → (aloneE a).toList.isEmpty = false → allB S (varsE b) = true → aloneE a ∈ T ∧ ∀ v ∈ varsE b, v ∈ T := by
    intro a b hab h1 h3
    have hb : ∀ v ∈ varsE b, v ∈ T := fun v hv => hST v (allB_iff.1 h3 v hv)
    refine ⟨?_, hb⟩
    cases hh : hasB T (aloneE a) with
    | true => exact hasB_iff.1 hh
    | false =>
      exfalso
      have hside : sideB T a b = true := by simp [sideB, h1, hh, allB_iff.2 hb]
      unfold setsB at hT
      rw [hs.1.1, hs.1.2] at hT
      rcases hab with ⟨rfl, rfl⟩ | ⟨rfl, rfl⟩ <;> simp [hside] at hT
  intro v hv
  rcases hs.2 with ⟨h1, -, h3⟩ | ⟨h1, -, h3⟩
  · obtain ⟨k1, k2⟩ := hT2 x.l x.r (.inl ⟨rfl, rfl⟩) h1 h3
    rcases sets_vars ha hv with h | h
    · rw [alone_vars h1 h]; exact k1
    · exact k2 v h
  · obtain ⟨k1, k2⟩ := hT2 x.r x.l (.inr ⟨rfl, rfl⟩) h1 h3
    rcases sets_vars ha hv with h | h
    · exact k2 v h
    · rw [alone_vars h1 h]; exact k1
theorem sets_k {S : List ByteArray} {x : GLit} (h : setsB S x = true) : x.k = 3 := by
  simp only [setsB, Bool.and_eq_true, decide_eq_true_eq] at h
  exact h.1.1
theorem BoundTo.least {body : List GLit} (hc : CmpBare body) {S T U : List ByteArray} (h : BoundTo body S T) (hSU : ∀ v ∈ S, v ∈ U) (hU : ∀ x ∈ body, setsB U x = false) : ∀ v ∈ T, v ∈ U := by
  induction h with
  | stop _ => exact hSU
  | step hx hs _ ih =>
    refine ih ?_
    intro v hv
    rcases List.mem_append.1 hv with h | h
    · exact hSU v h
    · exact sets_in (hc _ hx (sets_k hs)) hs hSU (hU _ hx) v h
/-- both ways come to the same -/
theorem bound_same {body : List GLit} (hc : CmpBare body) {S S' T U : List ByteArray} (he : ∀ v, v ∈ S ↔ v ∈ S') (h : BoundTo body S T) (k : BoundTo body S' U) : ∀ v, v ∈ T ↔ v ∈ U := fun v =>
  ⟨h.least hc (fun v hv => k.sub v ((he v).1 hv)) k.end_ v, k.least hc (fun v hv => h.sub v ((he v).2 hv)) h.end_ v⟩
def earlyK (body : List GLit) (S : List ByteArray) (k : Nat) : Bool := match body[k]? with | some x => earlyB S x | none => false
def posK (body : List GLit) (k : Nat) : Bool := match body[k]? with | some x => posB x | none => false
def nextK (body : List GLit) (S : List ByteArray) (left : List Nat) : Option Nat := (left.find? (earlyK body S)).or (left.find? (posK body))
def litVars (body : List GLit) (k : Nat) : List ByteArray := match body[k]? with | some x => varsL x | none => []
/-- the places in order, with what is set behind each -/
def orderF (body : List GLit) : Nat → List ByteArray → List Nat → List (Nat × List ByteArray)
  | 0, _, _ => []
  | f + 1, S, left => match nextK body S left with
    | none => []
    | some k => (k, S ++ litVars body k) :: orderF body f (S ++ litVars body k) (left.erase k)
def orderS (body : List GLit) : List (Nat × List ByteArray) := orderF body body.length [] (List.range body.length)
def orderK (body : List GLit) : List Nat := (orderS body).map Prod.fst
theorem nextK_mem {body : List GLit} {S : List ByteArray} {left : List Nat} {k : Nat} (h : nextK body S left = some k) : k ∈ left := by
  unfold nextK at h
  cases h1 : left.find? (earlyK body S) with
  | some j => rw [h1] at h; simp at h; subst h; exact List.mem_of_find?_eq_some h1
  | none => rw [h1] at h; simp at h; exact List.mem_of_find?_eq_some h
theorem find_filter {α : Type} (l : List α) (p q : α → Bool) : (l.filter p).find? q = l.find? (fun x => p x && q x) := by
  induction l with
  | nil => rfl
  | cons a l ih =>
    rw [List.filter_cons, List.find?_cons]
    cases hp : p a with
    | true =>
      simp only [if_true, Bool.true_and, List.find?_cons, ih]
    | false =>
      simp only [Bool.false_eq_true, if_false, Bool.false_and, ih]
end Go.Proofs.YtfklheagafffmaaGreatDoor
