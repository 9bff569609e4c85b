/- Merged by my own program of: TIn, TVars, TAlive, Bare, TermFormedW, VFrame, VFrameE, LFrame, TFrame. -/
import Derived.Test.YtiffmiabhapfnaaGreatDoorMt2
import Derived.Deep.RegionHeld3
import Derived.Test.YtiffmiabhapfnaaGreatDoorWide
import Derived.Test.YtiffmiabhapfnaaGreatDoorMt1
import Derived.Test.YtiffmiabhapfnaaGreatDoorDrawn
import Derived.Test.YtiffmiabhapfnaaGreatDoorPgm
import Derived.Test.YtiffmiabhapfnaaGreatDoorTwoJ
import Derived.Test.YtiffmiabhapfnaaGreatDoorTSame2
import Derived.Test.YtiffmiabhapfnaaGreatDoorOpen
import Derived.Test.YtiffmiabhapfnaaGreatDoorTab
import Derived.Test.YtiffmiabhapfnaaGreatDoorRows
import Derived.OpenShut
import Derived.ChangeOld
import Derived.ChangeSame
import Derived.ChangeVars
import Derived.JoinedOf
import Derived.LaidLaws
import Derived.LaidHandle
import Derived.Stop.LaidErr
import Derived.Lib.LaidTab
import Derived.Below
import Derived.Test.YtiffmiabhapfnaaGreatDoorVParse
import Derived.Test.YtiffmiabhapfnaaGreatDoorLexW
/- term.inside, term.In, term.Vars. -/
namespace Go.Proofs.YtiffmiabhapfnaaGreatDoor
open Go.RowKit

theorem leavesL_mem {t : GTold} : ∀ {l : List GExp}, t ∈ leavesL l → ∃ k ∈ l, t ∈ leavesE k
  | [], h => by rw [leavesL] at h; cases h
  | k :: ks, h => by
    rw [leavesL] at h
    rcases List.mem_append.1 h with h | h
    · exact ⟨k, List.mem_cons_self, h⟩
    · obtain ⟨u, hu, hh⟩ := leavesL_mem h
      exact ⟨u, List.mem_cons_of_mem _ hu, hh⟩
theorem leaves_ok : ∀ (d : Nat) (e : GExp) (A : Option Addr) (n c : Nat) (w : World) (B : Nat), SliceIs (Enc.exp d) w B A n c e.kids → e.t.x.size ≤ reachN → e.t.v.ok → ∀ t ∈ leavesE e, t.x.size ≤ reachN ∧ t.v.ok := by
  intro d
  induction d using Nat.strongRecOn with
  | ind d ih =>
    intro e A n c w B hk h1 h2 t ht
    by_cases h0 : e.kids = []
    · rw [leavesE_nil h0] at ht
      simp at ht; subst ht; exact ⟨h1, h2⟩
    · rw [leavesE_kids h0] at ht
      obtain ⟨k, hkm, hkt⟩ := leavesL_mem ht
      obtain ⟨i, hi⟩ := List.mem_iff_getElem?.1 hkm
      have hil : i < n := by rw [← hk.1]; exact (List.getElem?_eq_some_iff.1 hi).1
      obtain ⟨b, o, k', A', n', c', d', rfl, hb, hk', hd, x0, x1, x2, x3, x4, x5, -, f1, f2, hkk⟩ := hk.exp_at hil
      have e1 : k' = k := by have := hk'.out; rw [hi] at this; injection this with this; exact this.symm
      subst e1
      exact ih d' (by omega) k' A' n' c' w B hkk f1 f2 t hkt
theorem told_own {w : World} {base : Nat} {A : Option Addr} {n c : Nat} {l : List GTold} (h : w.ownsRow base 26 4 (.slice A n c) n (l.flatMap GTold.cells)) (hl : l.length = n) (hn : n ≤ 1000000) (hok : ∀ t ∈ l, t.x.size ≤ reachN ∧ t.v.ok) : SliceIs Enc.told w w.heap.size A n c l :=
  SliceIs.of_flat (E := Enc.told) GTold.cells (fun _ => rfl) h hl (by simp [reachN]; omega) (fun q hq => ⟨rfl, hok q hq⟩)
theorem own_keepT {T : TypeId} {w W : World} {base e sz : Nat} {v : Value} {n : Nat} {xs : List Value} (h : w.ownsRow base e sz v n xs) (hk : KeepsT T w W) (he : e ≠ T) : W.ownsRow base e sz v n xs := by
  refine ⟨h.1, ?_⟩
  rcases h.2 with hn | ⟨g, cap, cur, rfl, hg, hh, r⟩
  · exact .inl hn
  · exact .inr ⟨g, cap, cur, rfl, hg, hk g _ _ _ hh he, r⟩
/-- a literal's terms -/
def insideL (x : GLit) : List GTold := x.atom.args ++ (leavesE x.l ++ leavesE x.r)
/-- a rule's terms -/
def ruleT (x : GRule) : List GTold := x.head.args ++ x.body.flatMap insideL
theorem inside_ok {d : Nat} {w : World} {B : Nat} {x : GLit} {a p q : Hd} (h : LitAt d w B x a p q) : ∀ t ∈ insideL x, t.x.size ≤ reachN ∧ t.v.ok := by
  intro t ht
  unfold insideL at ht
  rcases List.mem_append.1 ht with ht | ht
  · exact told_ok h.args t ht
  · rcases List.mem_append.1 ht with ht | ht
    · exact leaves_ok _ _ _ _ _ _ _ h.lk h.lx h.lv t ht
    · exact leaves_ok _ _ _ _ _ _ _ h.rk h.rx h.rv t ht
theorem tup3 {W : World} {A B C : Option Addr} {n m k a b c : Nat} {l1 l2 l3 : List GTold} {T : TypeId} (h1 : SliceIs Enc.told W W.heap.size A n a l1) (h2 : SliceIs Enc.told W W.heap.size B m b l2) (h3 : SliceIs Enc.told W W.heap.size C k c l3) :
    SliceIs (Enc.slice Enc.told) (W.alloc (.cells #[.slice A n a, .slice B m b, .slice C k c] T)) (W.alloc (.cells #[.slice A n a, .slice B m b, .slice C k c] T)).heap.size (some ⟨W.heap.size, 0, none⟩) 3 3 [l1, l2, l3] := by
  refine ⟨rfl, Nat.le_refl _, by simp [maxLen], by simp [reachN], .inr ⟨W.heap.size, 0, rfl, by simp, fun i x hx => ?_⟩⟩
  match i, hx with
  | 0, hx =>
    simp at hx; subst hx
    refine ⟨[.slice A n a], ⟨A, n, a, rfl, h1.mono (by simp) (fun b hb => Below.heap_alloc _ _ _ hb)⟩, fun j v hv => ?_⟩
    match j, hv with
    | 0, hv => simp at hv; subst hv; simp [Enc.slice]
  | 1, hx =>
    simp at hx; subst hx
    refine ⟨[.slice B m b], ⟨B, m, b, rfl, h2.mono (by simp) (fun b hb => Below.heap_alloc _ _ _ hb)⟩, fun j v hv => ?_⟩
    match j, hv with
    | 0, hv => simp at hv; subst hv; simp [Enc.slice]
  | 2, hx =>
    simp at hx; subst hx
    refine ⟨[.slice C k c], ⟨C, k, c, rfl, h3.mono (by simp) (fun b hb => Below.heap_alloc _ _ _ hb)⟩, fun j v hv => ?_⟩
    match j, hv with
    | 0, hv => simp at hv; subst hv; simp [Enc.slice]
theorem own_down {W : World} {base base' : Nat} {e : TypeId} {size : Nat} {v : Value} {k : Nat} {xs : List Value} (h : W.ownsRow base e size v k xs) (hb : base' ≤ base) : W.ownsRow base' e size v k xs := by
  refine ⟨h.1, ?_⟩
  rcases h.2 with hn | ⟨g, cap, cur, hv, hbg, rest⟩
  · exact .inl hn
  · exact .inr ⟨g, cap, cur, hv, Nat.le_trans hb hbg, rest⟩
theorem seq_ge {b W : World} {g : Nat} (h : Below b.heap.size b W) (hz : W.heap.size ≤ g) : b.heap.size ≤ g := Nat.le_trans h.size hz
def SeqPost2 (w : World) (e : GExp) (A : Option Addr) (n c : Nat) (r : Ending) (w' : World) : Prop :=
  ∃ g, r = .returned (.func (.func 25) #[] #[.pointer (some ⟨g, 0, none⟩)]) ∧ w'.heap[g]? = some (.cells #[.int .i64 e.op, .string e.t.x, .int .i64 e.t.v.k, .int .i64 e.t.v.n, .string e.t.v.s, .slice A n c] 29 (0, 0)) ∧ w.heap.size ≤ g ∧ Below w.heap.size w w'
theorem termsF_any2 (w : World) (e : GExp) (A : Option Addr) (n c : Nat) : Calls Tryz.prog 10 #[expV e A n c] w (SeqPost2 w e A n c) :=
  (termsF_any w e A n c).mono (fun r w' h => by
    obtain ⟨rfl, rfl⟩ := h
    exact ⟨w.heap.size, rfl, heapNew rfl, Nat.le_refl _, belowA (Below.refl _ _) _⟩)

set_option maxRecDepth 100000 in
set_option maxHeartbeats 8000000 in
theorem insideT_any (d : Nat) (x : GLit) (a p q : Hd) (w : World) (hx : LitAt d w w.heap.size x a p q) (hsz : (insideL x).length ≤ 1500) :
    Calls Tryz.prog 37 #[.agg (litC x a p q).toArray] w (CollPost (insideL x) w) := by
  have Hsz := Lib.hid hsz
  have hsz1 : (leavesE x.l).length ≤ 1500 := by unfold insideL at hsz; simp only [List.length_append] at hsz; omega
  have hsz2 : (leavesE x.r).length ≤ 1500 := by unfold insideL at hsz; simp only [List.length_append] at hsz; omega
  have HOl := Lib.hid (leaves_ok _ _ _ _ _ _ _ hx.lk hx.lx hx.lv)
  have HOr := Lib.hid (leaves_ok _ _ _ _ _ _ _ hx.rk hx.rx hx.rv)
  obtain ⟨P, HP⟩ : ∃ P : Ending → World → Prop, Hid (P = CollPost (insideL x) w) := ⟨_, rfl⟩
  rw [← HP.out]
  clear hsz
  go_enter Tryz.func37, Tryz.ntmps37
  go_wp2_with fail
  have hg := Go.heap_alloc_new w (.cells (litC x a p q).toArray 63)
  have hbw : Below w.heap.size w (w.alloc (.cells (litC x a p q).toArray 63)) := belowA (Below.refl _ _) _
  generalize w.alloc (.cells (litC x a p q).toArray 63) = wb at hg hbw ⊢
  have hgl : w.heap.size < wb.heap.size := (Array.getElem?_eq_some_iff.1 hg).1
  have Hk := Lib.hid (fun W (h : Below wb.heap.size wb W) => show W.cell? ⟨w.heap.size, 2, none⟩ = some (a.v) ∧ W.cell? ⟨w.heap.size, 4, none⟩ = some (.int .i64 x.l.op) ∧ W.cell? ⟨w.heap.size, 5, none⟩ = some (.string x.l.t.x) ∧ W.cell? ⟨w.heap.size, 6, none⟩ = some (.int .i64 x.l.t.v.k) ∧ W.cell? ⟨w.heap.size, 7, none⟩ = some (.int .i64 x.l.t.v.n) ∧ W.cell? ⟨w.heap.size, 8, none⟩ = some (.string x.l.t.v.s) ∧ W.cell? ⟨w.heap.size, 9, none⟩ = some (p.v) ∧ W.cell? ⟨w.heap.size, 10, none⟩ = some (.int .i64 x.r.op) ∧ W.cell? ⟨w.heap.size, 11, none⟩ = some (.string x.r.t.x) ∧ W.cell? ⟨w.heap.size, 12, none⟩ = some (.int .i64 x.r.t.v.k) ∧ W.cell? ⟨w.heap.size, 13, none⟩ = some (.int .i64 x.r.t.v.n) ∧ W.cell? ⟨w.heap.size, 14, none⟩ = some (.string x.r.t.v.s) ∧ W.cell? ⟨w.heap.size, 15, none⟩ = some (q.v) from by
    obtain ⟨h0, h1, h2, h3, h4, h5, h6, h7, h8, h9, h10, h11, h12, h13, h14, h15, h16⟩ := facts17 ((h.block w.heap.size hgl).trans hg)
    exact ⟨h2, h4, h5, h6, h7, h8, h9, h10, h11, h12, h13, h14, h15⟩)
  have HX := Lib.hid (hx.keep hbw)
  have HL := Lib.hid (fun W (h : Below wb.heap.size wb W) => (HX.out.args).keep h)
  have hb1 := Below.refl wb.heap.size wb
  have Hfirst : Hid True := trivial
  clear hg hgl hx
  go_region_held3 (fun w' => w'.cell? ⟨w.heap.size, 2, none⟩ = some (a.v) ∧ w'.cell? ⟨w.heap.size, 4, none⟩ = some (.int .i64 x.l.op) ∧ w'.cell? ⟨w.heap.size, 5, none⟩ = some (.string x.l.t.x) ∧ w'.cell? ⟨w.heap.size, 6, none⟩ = some (.int .i64 x.l.t.v.k) ∧ w'.cell? ⟨w.heap.size, 7, none⟩ = some (.int .i64 x.l.t.v.n) ∧ w'.cell? ⟨w.heap.size, 8, none⟩ = some (.string x.l.t.v.s) ∧ w'.cell? ⟨w.heap.size, 9, none⟩ = some (p.v) ∧ w'.cell? ⟨w.heap.size, 10, none⟩ = some (.int .i64 x.r.op) ∧ w'.cell? ⟨w.heap.size, 11, none⟩ = some (.string x.r.t.x) ∧ w'.cell? ⟨w.heap.size, 12, none⟩ = some (.int .i64 x.r.t.v.k) ∧ w'.cell? ⟨w.heap.size, 13, none⟩ = some (.int .i64 x.r.t.v.n) ∧ w'.cell? ⟨w.heap.size, 14, none⟩ = some (.string x.r.t.v.s) ∧ w'.cell? ⟨w.heap.size, 15, none⟩ = some (q.v))
    (first
      | (refine Hk.out _ ?_; (repeat (first | with_reducible exact Below.refl _ _ | with_reducible assumption | with_reducible refine Below.drew ?_ | with_reducible refine belowA ?_ _)))
      | go_keep)
    ((first
      | (go_at_call 10
         refine (termsF_any2 _ x.l p.A p.n p.c).mono ?_
         clear Hfirst
         rintro e w1 ⟨g1, rfl, hg1, hz1, hq1⟩
         have hgz1 : wb.heap.size ≤ g1 := by
           refine seq_ge ?_ hz1
           (repeat (first | with_reducible exact Below.refl _ _ | with_reducible assumption | with_reducible refine Below.drew ?_ | with_reducible refine belowA ?_ _))
         have hb1 : Below wb.heap.size wb w1 := by
           refine below_next ?_ hq1
           (repeat (first | with_reducible exact Below.refl _ _ | with_reducible assumption | with_reducible refine Below.drew ?_ | with_reducible refine belowA ?_ _))
         clear hq1 hz1)
      | (go_at_call 64
         refine (collect_any (e := x.l) (g := g1) hg1 wb hgz1 ?hw HX.out.lk hsz1).mono ?_
         case hw => (repeat (first | with_reducible exact Below.refl _ _ | with_reducible assumption | with_reducible refine Below.drew ?_ | with_reducible refine belowA ?_ _))
         clear hg1 hgz1
         rintro e w2 ⟨A9, c9, rfl, hs9, hq1⟩
         have hb1 : Below wb.heap.size wb w2 := by
           refine below_next ?_ hq1
           (repeat (first | with_reducible exact Below.refl _ _ | with_reducible assumption | with_reducible refine Below.drew ?_ | with_reducible refine belowA ?_ _))
         have hs9 := told_own hs9 rfl (by omega) HOl.out
         clear hq1)
      | (go_at_call 10
         refine (termsF_any2 _ x.r q.A q.n q.c).mono ?_
         rintro e w3 ⟨g3, rfl, hg3, hz3, hq1⟩
         have hgz3 : wb.heap.size ≤ g3 := by
           refine seq_ge ?_ hz3
           (repeat (first | with_reducible exact Below.refl _ _ | with_reducible assumption | with_reducible refine Below.drew ?_ | with_reducible refine belowA ?_ _))
         have hb1 : Below wb.heap.size wb w3 := by
           refine below_next ?_ hq1
           (repeat (first | with_reducible exact Below.refl _ _ | with_reducible assumption | with_reducible refine Below.drew ?_ | with_reducible refine belowA ?_ _))
         have hs9 := hs9.keep (w' := w3) (by
           refine below_next ?_ hq1
           (repeat (first | with_reducible exact Below.refl _ _ | with_reducible assumption | with_reducible refine Below.drew ?_ | with_reducible refine belowA ?_ _)))
         clear hq1 hz3)
      | (go_at_call 64
         refine (collect_any (e := x.r) (g := g3) hg3 wb hgz3 ?hw HX.out.rk hsz2).mono ?_
         case hw => (repeat (first | with_reducible exact Below.refl _ _ | with_reducible assumption | with_reducible refine Below.drew ?_ | with_reducible refine belowA ?_ _))
         clear hg3 hgz3
         rintro e w4 ⟨A13, c13, rfl, hs13, hq1⟩
         have hb1 : Below wb.heap.size wb w4 := by
           refine below_next ?_ hq1
           (repeat (first | with_reducible exact Below.refl _ _ | with_reducible assumption | with_reducible refine Below.drew ?_ | with_reducible refine belowA ?_ _))
         have hs9 := hs9.keep (w' := w4) (by
           refine below_next ?_ hq1
           (repeat (first | with_reducible exact Below.refl _ _ | with_reducible assumption | with_reducible refine Below.drew ?_ | with_reducible refine belowA ?_ _)))
         have hs13 := told_own hs13 rfl (by omega) HOr.out
         clear hq1)
      | (go_at_call 63
         refine (concat_any _ 3 3 [x.atom.args, leavesE x.l, leavesE x.r] _ ?hc ?hs).mono ?_
         case hc => exact tup3 (HL.out _ hb1) hs9 hs13
         case hs => have := Hsz.out; simp [sumLen]; simp [insideL] at this; omega
         rintro e w5 ⟨A15, c15, rfl, hs15, hq1⟩
         have hs15 := own_down (base' := w.heap.size) hs15 (by
           refine Nat.le_trans hbw.size (seq_ge (b := wb) ?_ (Nat.le_refl _))
           (repeat (first | with_reducible exact Below.refl _ _ | with_reducible assumption | with_reducible refine Below.drew ?_ | with_reducible refine belowA ?_ _)))
         have hb5 : Below wb.heap.size wb w5 := by
           refine below_next ?_ hq1
           (repeat (first | with_reducible exact Below.refl _ _ | with_reducible assumption | with_reducible refine Below.drew ?_ | with_reducible refine belowA ?_ _)))))
  all_goals
    have hPP : P (.returned (.slice A15 (x.atom.args.length + ((leavesE x.l).length + (leavesE x.r).length)) c15)) w5 := by
      rw [HP.out]
      have e1 : List.flatten [x.atom.args, leavesE x.l, leavesE x.r] = insideL x := by simp [insideL]
      have e2 : x.atom.args.length + ((leavesE x.l).length + (leavesE x.r).length) = (insideL x).length := by simp [insideL]
      rw [e1] at hs15
      rw [e2]
      exact ⟨A15, c15, rfl, hs15, below_next hbw hb5⟩
    have HPP := Lib.hid hPP
    clear hPP hs15
    go_wp2_with fail
    exact HPP.out

def TextsPost (L : List ByteArray) (w : World) (e : Ending) (w' : World) : Prop :=
  ∃ A c, e = .returned (.slice A L.length c) ∧ w'.ownsRow w.heap.size 9 1 (.slice A L.length c) L.length (L.flatMap strC) ∧ Below w.heap.size w w'
theorem TextsPost.is {L : List ByteArray} {w w' : World} {A : Option Addr} {c : Nat} (h : w'.ownsRow w.heap.size 9 1 (.slice A L.length c) L.length (L.flatMap strC)) (hl : L.length ≤ 1000000) (hok : ∀ s ∈ L, s.size ≤ reachN) : SliceIs Enc.str w' w'.heap.size A L.length c L :=
  texts_is h rfl hl hok

set_option maxRecDepth 100000 in
set_option maxHeartbeats 1000000 in
theorem inT_any (d : Nat) (x : GLit) (a p q : Hd) (w : World) (hx : LitAt d w w.heap.size x a p q) (hsz : (insideL x).length ≤ 1500) :
    Calls Tryz.prog 18 #[.agg (litC x a p q).toArray] w (TextsPost (putL [] (insideL x)) w) := by
  have HX := Lib.hid hx
  have Hsz := Lib.hid hsz
  obtain ⟨P, HP⟩ : ∃ P : Ending → World → Prop, Hid (P = TextsPost (putL [] (insideL x)) w) := ⟨_, rfl⟩
  rw [← HP.out]
  clear hx hsz
  have hrb : (w.alloc (.cells (litC x a p q).toArray 63)).heap[w.heap.size]? = some (.cells (litC x a p q).toArray 63 (0, 0)) := heapNew rfl
  obtain ⟨b0, b1, b2, b3, b4, b5, b6, b7, b8, b9, b10, b11, b12, b13, b14, b15, b16⟩ := facts17 hrb
  have hbw : Below w.heap.size w (w.alloc (.cells (litC x a p q).toArray 63)) := belowA (Below.refl _ _) _
  have HC := Lib.hid (insideT_any d x a p q _ (HX.out.keep hbw) Hsz.out)
  go_enter Tryz.func18, Tryz.ntmps18
  go_wp2_with fail
  refine HC.out.mono ?_
  rintro e w1 ⟨A1, c1, rfl, ho1, hb1⟩
  have hzw := hbw.size
  have hz1 := hb1.size
  have HC2 := Lib.hid (put_any w1.heap.size none 0 0 [] A1 (insideL x).length c1 (insideL x) w1 (Nat.le_refl _) rfl (World.ownsRow_nil _ _ _ _) (fun _ h => by cases h) (fun W hk hb => told_own (own_below ho1 hb) rfl (by have := Hsz.out; omega) (inside_ok HX.out)) (by have := Hsz.out; omega))
  clear HC ho1
  go_wp2_with fail
  refine HC2.out.mono ?_
  rintro e w2 ⟨A2, c2, rfl, ho2, -, hb2⟩
  have HPP : Hid (P (.returned (.slice A2 (putL [] (insideL x)).length c2)) w2) := by
    show P _ _
    rw [HP.out]
    exact ⟨A2, c2, rfl, own_down ho2 (by omega), below_next (below_next hbw hb1) hb2⟩
  clear HC2 ho2
  go_wp2_with fail
  exact HPP.out
end Go.Proofs.YtiffmiabhapfnaaGreatDoor

/- term.Vars: a rule's variables. -/
namespace Go.Proofs.YtiffmiabhapfnaaGreatDoor
open Go.RowKit

theorem rule_ok {d : Nat} {w : World} {B : Nat} {x : GRule} {a b : Hd} (h : RuleAt d w B x a b) : ∀ t ∈ ruleT x, t.x.size ≤ reachN ∧ t.v.ok := by
  intro t ht
  unfold ruleT at ht
  rcases List.mem_append.1 ht with ht | ht
  · exact told_ok h.args t ht
  · obtain ⟨y, hy, hty⟩ := List.mem_flatMap.1 ht
    obtain ⟨i, hi⟩ := List.mem_iff_getElem?.1 hy
    have hil : i < b.n := by rw [← h.body.1]; exact (List.getElem?_eq_some_iff.1 hi).1
    obtain ⟨bb, o, y', a', p', q', -, -, hy', hl, -⟩ := h.body.lit_at hil
    have e1 : y' = y := by have := hy'.out; rw [hi] at this; injection this with this; exact this.symm
    subst e1
    exact inside_ok hl t hty
theorem flatMap_take {α β : Type} {l : List α} {f : α → List β} {k : Nat} {y : α} (hx : l[k]? = some y) : (l.take (k + 1)).flatMap f = (l.take k).flatMap f ++ f y := by
  rw [List.take_add_one, hx]; simp
theorem flatMap_len {α β : Type} (l : List α) (f : α → List β) (k : Nat) : ((l.take k).flatMap f).length ≤ (l.flatMap f).length := by
  have : l.flatMap f = (l.take k).flatMap f ++ (l.drop k).flatMap f := by rw [← List.flatMap_append, List.take_append_drop]
  rw [this]; simp only [List.length_append]; omega

set_option maxRecDepth 100000 in
set_option maxHeartbeats 4000000 in
theorem vars_any (d : Nat) (x : GRule) (a b : Hd) (w : World) (hx : RuleAt d w w.heap.size x a b) (hsz : (ruleT x).length ≤ 1500) :
    Calls Tryz.prog 16 #[.agg (ruleC x a b).toArray] w (TextsPost (putL [] (ruleT x)) w) := by
  have HX := Lib.hid hx
  have Hsz := Lib.hid hsz
  have Hok := Lib.hid (rule_ok hx)
  have hn := hx.body.bound
  have hsa : x.head.args.length ≤ 1500 := by unfold ruleT at hsz; simp only [List.length_append] at hsz; omega
  have hsb : (x.body.flatMap insideL).length ≤ 1500 := by unfold ruleT at hsz; simp only [List.length_append] at hsz; omega
  have hal := hx.args.1
  have Hlen := Lib.hid hx.body.1
  obtain ⟨P, HP⟩ : ∃ P : Ending → World → Prop, Hid (P = TextsPost (putL [] (ruleT x)) w) := ⟨_, rfl⟩
  rw [← HP.out]
  have hrb : (w.alloc (.cells (ruleC x a b).toArray 56)).heap[w.heap.size]? = some (.cells (ruleC x a b).toArray 56 (0, 0)) := heapNew rfl
  obtain ⟨b0, b1, b2, b3, b4, b5⟩ := facts6 hrb
  have hbw : Below w.heap.size w (w.alloc (.cells (ruleC x a b).toArray 56)) := belowA (Below.refl _ _) _
  have hz1 : (w.alloc (.cells (ruleC x a b).toArray 56)).heap.size = w.heap.size + 1 := by simp
  have HC := Lib.hid (put_any (w.heap.size + 1) none 0 0 [] a.A a.n a.c x.head.args (w.alloc (.cells (ruleC x a b).toArray 56)) (by omega) rfl (World.ownsRow_nil _ _ _ _) (fun _ h => by cases h) (fun W hk hb => HX.out.args.keep (hbw.trans (hb.mono (by omega)))) (by omega))
  clear hx hsz hal
  go_enter Tryz.func16, Tryz.ntmps16
  go_wp2_with fail
  refine HC.out.mono ?_
  rintro e w1 ⟨A1, c1, rfl, ho1, -, hb1⟩
  have hbw1 : Below w.heap.size w w1 := hbw.trans (hb1.mono (by omega))
  have hbs := hb1.size
  rw [hz1] at hbs
  have hrb1 := (hb1.block w.heap.size (by omega)).trans hrb
  obtain ⟨c0, c1', c2, c3, c4, c5⟩ := facts6 hrb1
  have hl0 := putL_len x.head.args []
  obtain ⟨L0, HL0⟩ : ∃ L0, Hid (putL [] x.head.args = L0) := ⟨_, rfl⟩
  rw [HL0.out] at ho1 hl0
  rw [HL0.out]
  have Ho1 := Lib.hid ho1
  have HM0 : Hid (L0.length = L0.length) := rfl
  obtain ⟨m0, Hm0⟩ : ∃ m0, Hid (L0.length = m0) := ⟨_, rfl⟩
  rw [Hm0.out] at Ho1 hl0
  rw [Hm0.out]
  have HT0 : Hid (putL [] (x.head.args ++ (x.body.take 0).flatMap insideL) = L0) := by show _ = _; simpa using HL0.out
  simp only [List.length_nil, Nat.zero_add] at hl0
  clear ho1 HM0 hbw hb1 hrb hrb1 HC hz1 HL0 b0 b1 b2 b3 b4 b5
  go_wp2_with fail
  go_loopw [3, 5, 13] (fun v _ i wr => ∃ (k m c' : Nat) (A' : Option Addr) (L : List ByteArray), k ≤ b.n ∧ i = .int .i64 k ∧ v = .slice A' m c' ∧ Hid (putL [] (x.head.args ++ (x.body.take k).flatMap insideL) = L) ∧ m ≤ 1500 ∧ Hid (L.length = m) ∧ Hid (wr.ownsRow (w.heap.size + 1) 9 1 (.slice A' m c') m (L.flatMap strC)) ∧ Below w.heap.size w wr ∧ w.heap.size + 1 ≤ wr.heap.size) (fun _ _ i _ => b.n - (intOf i).toNat)
  case atStart => exact ⟨0, m0, c1, A1, L0, by omega, rfl, rfl, HT0, by omega, Hm0, Ho1, hbw1, by omega⟩
  case round =>
    obtain ⟨k, m, c', A', L, hk, rfl, rfl, hL, hm, HLm, HO, hbr, hzr⟩ := hrel
    have i0 : (0 : Int) ≤ (k : Int) := by omega
    by_cases hlt : k < b.n
    · have i1 : (k : Int) < (b.n : Int) := by omega
      obtain ⟨bb, o, y, a', p', q', hA, hbb, hy, hly, Hr⟩ := (HX.out.keep hbr).body.lit_range hlt
      have hbx : Below wr.heap.size wr (wr.alloc (.cells (litC y a' p' q').toArray 63)) := belowA (Below.refl _ _) _
      have hzx : (wr.alloc (.cells (litC y a' p' q').toArray 63)).heap.size = wr.heap.size + 1 := by simp
      have hyl : (insideL y).length ≤ 1500 := by
        have h1 := flatMap_len x.body insideL (k + 1)
        rw [flatMap_take hy.out] at h1
        simp only [List.length_append] at h1
        omega
      have hmk : (putL [] (x.head.args ++ (x.body.take (k + 1)).flatMap insideL)).length ≤ 1500 := by
        have h1 := flatMap_len x.body insideL (k + 1)
        have h2 := putL_len (x.head.args ++ (x.body.take (k + 1)).flatMap insideL) []
        have h3 := Hsz.out
        unfold ruleT at h3
        simp only [List.length_append, List.length_nil] at h2 h3
        omega
      have HT : Hid (putL [] (x.head.args ++ (x.body.take (k + 1)).flatMap insideL) = putL L (insideL y)) := by
        show _ = _
        rw [flatMap_take hy.out, ← List.append_assoc, putL_app, hL.out]
      rw [HT.out] at hmk
      have HLs : Hid (∀ s ∈ L, s.size ≤ reachN) := fun s h => by
        rw [← hL.out] at h
        rcases putL_mem h with h | ⟨t, ht, e⟩
        · cases h
        · refine e ▸ (Hok.out t ?_).1
          unfold ruleT
          rcases List.mem_append.1 ht with ht | ht
          · exact List.mem_append_left _ ht
          · obtain ⟨z, hz, hzt⟩ := List.mem_flatMap.1 ht
            exact List.mem_append_right _ (List.mem_flatMap.2 ⟨z, List.mem_of_mem_take hz, hzt⟩)
      have Hly := Lib.hid (inside_ok hly)
      have HI := Lib.hid (insideT_any d y a' p' q' _ (hly.keep hbx) hyl)
      have hbx' : Below (w.heap.size + 1) wr (wr.alloc (.cells (litC y a' p' q').toArray 63)) := hbx.mono (by omega)
      have Hbx := Lib.hid hbx
      clear hL hly hy hbx
      have hbv : b.v = .slice (some ⟨bb, o, none⟩) b.n b.c := by unfold Hd.v; rw [hA]
      rw [hbv]
      have hrn : (wr.alloc (.cells (litC y a' p' q').toArray 63)).heap[wr.heap.size]? = some (.cells (litC y a' p' q').toArray 63 (0, 0)) := heapNew rfl
      have HRn := Lib.hid (range_row hrn)
      clear hrn
      go_wp2_with (first
        | refine wpList_load_mid rfl 63 (.tmp 15) rfl bb (o + k * 17) rfl (litC y a' p' q') _ Hr.out Tryz.underlying63 rfl (lit_size y a' p' q') ?_
        | refine wpList_new rfl rfl 63 5 (.tmp 16) rfl rfl rfl rfl _ (litC y a' p' q').toArray lit_info rfl (lit_one y a' p' q') rfl rfl ?_
        | refine wpList_load_mid rfl 63 (.tmp 5) rfl wr.heap.size 0 rfl (litC y a' p' q') _ HRn.out Tryz.underlying63 rfl (lit_size y a' p' q') ?_)
      refine HI.out.mono ?_
      rintro e w2 ⟨A2, c2', rfl, ho2, hb2⟩
      have hz2 := hb2.size
      have hbn : Below wr.heap.size wr w2 := below_next Hbx.out hb2
      have HP2 := Lib.hid (put_any (w.heap.size + 1) A' c' m L A2 (insideL y).length c2' (insideL y) w2 (by omega) HLm.out (own_below HO.out hbn) HLs.out (fun W hk hb => told_own (own_keepT ho2 hk (by decide)) rfl (by omega) Hly.out) (by omega))
      have HbN := Lib.hid hbn
      have hbw2 : Below w.heap.size w w2 := below_next hbr hbn
      clear ho2 hb2 HI hbn hbx'
      go_wp2_with fail
      refine HP2.out.mono ?_
      rintro e w3 ⟨A3, c3', rfl, ho3, -, hb3⟩
      have hz3 := hb3.size
      have hbw3 : Below w.heap.size w w3 := hbw2.trans (hb3.mono (by omega))
      obtain ⟨m3, Hm3⟩ : ∃ m3, Hid ((putL L (insideL y)).length = m3) := ⟨_, rfl⟩
      rw [Hm3.out] at ho3 hmk
      rw [Hm3.out]
      have HO3 := Lib.hid ho3
      clear ho3 hb3 HP2 hbw2
      go_wp2_with fail
      go_roundw
      case rel => exact ⟨k + 1, m3, c3', A3, _, by omega, by go_num, rfl, HT, by omega, Hm3, HO3, hbw3, by omega⟩
      case measure => simp [intOf]; omega
    · have i1 : ¬ (k : Int) < (b.n : Int) := by omega
      have e : putL [] (ruleT x) = L := by
        rw [← hL.out, List.take_of_length_le (by have := Hlen.out; omega)]; rfl
      have hPP : Hid (P (.returned (.slice A' m c')) wr) := by
        show P _ _
        rw [HP.out, e]
        exact ⟨A', c', by rw [HLm.out], by rw [HLm.out]; exact own_down HO.out (by omega), hbr⟩
      clear HP e
      go_wp2_with fail
      exact hPP.out
end Go.Proofs.YtiffmiabhapfnaaGreatDoor

/- corollarylaw05.alive. -/
namespace Go.Proofs.YtiffmiabhapfnaaGreatDoor
open Go.RowKit

abbrev vC (s : ByteArray) : List Value := [.int .i64 0, .string s, .int .i64 0, .int .i64 0, .string ⟨#[]⟩, .slice none 0 0]
def VPost (s : ByteArray) (w : World) (r : Ending) (w' : World) : Prop := r = .returned (.agg (vC s).toArray) ∧ w' = w.alloc (.cells (vC s).toArray 29)
set_option maxRecDepth 100000 in
theorem v_any (s : ByteArray) (w : World) : Calls Tryz.prog 23 #[.string s] w (VPost s w) := by
  have hrb : (w.alloc (.cells (vC s).toArray 29)).heap[w.heap.size]? = some (.cells (vC s).toArray 29 (0, 0)) := heapNew rfl
  obtain ⟨b0, b1, b2, b3, b4, b5⟩ := facts6 hrb
  clear hrb
  go_enter Tryz.func23, Tryz.ntmps23
  go_wp2_with fail
  refine bodyPost_ret (v := .agg (vC s).toArray) ?_ rfl ⟨rfl, rfl⟩
  simp [results, Tryz.results23, go_sem]

abbrev bX : ByteArray := ⟨#[88]⟩
abbrev bY : ByteArray := ⟨#[89]⟩
abbrev bZ : ByteArray := ⟨#[90]⟩
abbrev tv (s : ByteArray) : GTold := ⟨s, gv0⟩
abbrev xExp (s : ByteArray) : GExp := .mk 0 (tv s) []
abbrev alLit1 : GLit := ⟨1, ⟨⟨#[113]⟩, [tv bY, tv bZ]⟩, 0, .mk 0 zT [], .mk 0 zT [], 0⟩
abbrev alLit2 : GLit := ⟨3, ⟨⟨#[]⟩, []⟩, 1, xExp bX, xExp bZ, 0⟩
abbrev alRule : GRule := ⟨⟨⟨#[112]⟩, [tv bX, tv bY]⟩, 0, 0, [alLit1, alLit2], 0⟩
abbrev zRule : GRule := ⟨⟨⟨#[]⟩, []⟩, 0, 0, [], 0⟩
abbrev hN : Hd := ⟨none, 0, 0⟩
abbrev hd2 (b : Nat) : Hd := ⟨some ⟨b, 0, none⟩, 2, 2⟩
abbrev tC (s : ByteArray) : List Value := [.string s, .int .i64 0, .int .i64 0, .string ⟨#[]⟩]
def alF (n0 i : Nat) (v : Value) (W : World) : Prop := match i with
  | 0 => v = .agg (tC bX).toArray
  | 1 => v = .agg (tC bY).toArray
  | 2 => ∃ b, v = (hd2 b).v ∧ W.heap[b]? = some (.cells (tC bX ++ tC bY).toArray 26 (0, 0))
  | 3 => ∃ b, v = .agg #[.string ⟨#[112]⟩, (hd2 b).v] ∧ W.heap[b]? = some (.cells (tC bX ++ tC bY).toArray 26 (0, 0))
  | 4 => v = .agg (tC bY).toArray
  | 5 => v = .agg (tC bZ).toArray
  | 6 => ∃ b, v = (hd2 b).v ∧ W.heap[b]? = some (.cells (tC bY ++ tC bZ).toArray 26 (0, 0))
  | 7 => ∃ b, v = .agg #[.string ⟨#[113]⟩, (hd2 b).v] ∧ W.heap[b]? = some (.cells (tC bY ++ tC bZ).toArray 26 (0, 0))
  | 8 => ∃ b, v = .agg (litC alLit1 (hd2 b) hN hN).toArray ∧ W.heap[b]? = some (.cells (tC bY ++ tC bZ).toArray 26 (0, 0))
  | 9 => v = .agg (vC bX).toArray
  | 10 => v = .agg (vC bZ).toArray
  | 11 => v = .agg (litC alLit2 hN hN hN).toArray
  | 12 => ∃ b b', v = (hd2 b').v ∧ W.heap[b]? = some (.cells (tC bY ++ tC bZ).toArray 26 (0, 0)) ∧ W.heap[b']? = some (.cells (litC alLit1 (hd2 b) hN hN ++ litC alLit2 hN hN hN).toArray 63 (0, 0))
  | 13 => ∃ a b b', v = .agg (ruleC alRule (hd2 a) (hd2 b')).toArray ∧ W.heap[a]? = some (.cells (tC bX ++ tC bY).toArray 26 (0, 0)) ∧ W.heap[b]? = some (.cells (tC bY ++ tC bZ).toArray 26 (0, 0)) ∧ W.heap[b']? = some (.cells (litC alLit1 (hd2 b) hN hN ++ litC alLit2 hN hN hN).toArray 63 (0, 0))
  | 14 => ∃ (b : Nat) (cs : List Value), v = .pointer (some ⟨b, 0, none⟩) ∧ n0 ≤ b ∧ cs.length = 6 ∧ W.heap[b]? = some (.cells cs.toArray 56 (0, 0))
  | _ => True
theorem leaf_one (o : Int) (t : GTold) : leavesE (.mk o t []) = [t] := leavesE_nil rfl
theorem al_vars : putL [] (ruleT alRule) = [bX, bY, bZ] := by
  have hz : zT.x = (⟨#[]⟩ : ByteArray) := rfl
  have hX : ((⟨#[88]⟩ : ByteArray)).toList = [88] := toList_mk _
  have hY : ((⟨#[89]⟩ : ByteArray)).toList = [89] := toList_mk _
  have hZ : ((⟨#[90]⟩ : ByteArray)).toList = [90] := toList_mk _
  have h0 : ((⟨#[]⟩ : ByteArray)).toList = [] := toList_mk _
  have n1 : ¬ (⟨#[89]⟩ : ByteArray) = ⟨#[88]⟩ := by decide
  have n2 : ¬ (⟨#[90]⟩ : ByteArray) = ⟨#[88]⟩ := by decide
  have n3 : ¬ (⟨#[90]⟩ : ByteArray) = ⟨#[89]⟩ := by decide
  simp [ruleT, insideL, leaf_one, putL, put1, hz, hX, hY, hZ, h0, n1, n2, n3]
theorem al_rule : rightRule alRule = true := by kernel_rfl
theorem al_X : singleB 3 ⟨#[88]⟩ = true := by kernel_rfl
theorem al_x : singleB 3 ⟨#[120]⟩ = false := by kernel_rfl
instance (n : Int) : Decidable (fits n) := inferInstanceAs (Decidable (_ = true))
theorem tv_ok (s : ByteArray) (w : World) (B : Nat) (hs : s.size ≤ 1) : Enc.told.ok w B (GTold.cells (tv s)) (tv s) := ⟨rfl, by simp [reachN]; omega, GV.ok_zero⟩
theorem al_two {w : World} {g : Nat} {s t : ByteArray} (h : w.heap[g]? = some (.cells (tC s ++ tC t).toArray 26 (0, 0))) (hs : s.size ≤ 1) (ht : t.size ≤ 1) : SliceIs Enc.told w w.heap.size (hd2 g).A (hd2 g).n (hd2 g).c [tv s, tv t] :=
  SliceIs.of_block (E := Enc.told) GTold.cells (fun _ => rfl) h rfl (by simp [reachN]) (fun x hx => by
    simp at hx
    rcases hx with rfl | rfl
    · exact tv_ok _ _ _ hs
    · exact tv_ok _ _ _ ht)
theorem al_lits {w : World} {b b' : Nat} (h : w.heap[b']? = some (.cells (litC alLit1 (hd2 b) hN hN ++ litC alLit2 hN hN hN).toArray 63 (0, 0))) (hb : SliceIs Enc.told w w.heap.size (hd2 b).A (hd2 b).n (hd2 b).c [tv bY, tv bZ]) :
    SliceIs (Enc.lit 1) w w.heap.size (hd2 b').A (hd2 b').n (hd2 b').c [alLit1, alLit2] :=
  SliceIs.of_block (E := Enc.lit 1) (fun x => if x.k = 1 then litC x (hd2 b) hN hN else litC x hN hN hN) (fun x => by split <;> rfl) h (by simp) (by simp [reachN]) (fun x hx => by
    simp at hx
    rcases hx with rfl | rfl
    · refine ⟨hd2 b, hN, hN, by simp, ⟨by decide, by decide, by decide, by decide, hb, by decide, by decide, GV.ok_zero, SliceIs.nil, by decide, by decide, GV.ok_zero, SliceIs.nil⟩⟩
    · refine ⟨hN, hN, hN, by simp, ⟨by decide, by decide, by decide, by decide, SliceIs.nil, by decide, by decide, GV.ok_zero, SliceIs.nil, by decide, by decide, GV.ok_zero, SliceIs.nil⟩⟩)
theorem alF_keep {n0 i : Nat} {v : Value} {w w' : World} (hF : alF n0 i v w) (hb : Below w.heap.size w w') : alF n0 i v w' := by
  have hB : ∀ (g : Nat) (cs : Array Value) (t : TypeId), w.heap[g]? = some (.cells cs t (0, 0)) → w'.heap[g]? = some (.cells cs t (0, 0)) := fun g cs t h => (hb.block g (Array.getElem?_eq_some_iff.1 h).1).trans h
  match i, hF with
  | 0, h => exact h
  | 1, h => exact h
  | 2, ⟨b, h, h1⟩ => exact ⟨b, h, hB _ _ _ h1⟩
  | 3, ⟨b, h, h1⟩ => exact ⟨b, h, hB _ _ _ h1⟩
  | 4, h => exact h
  | 5, h => exact h
  | 6, ⟨b, h, h1⟩ => exact ⟨b, h, hB _ _ _ h1⟩
  | 7, ⟨b, h, h1⟩ => exact ⟨b, h, hB _ _ _ h1⟩
  | 8, ⟨b, h, h1⟩ => exact ⟨b, h, hB _ _ _ h1⟩
  | 9, h => exact h
  | 10, h => exact h
  | 11, h => exact h
  | 12, ⟨a, b, h, h1, hd2⟩ => exact ⟨a, b, h, hB _ _ _ h1, hB _ _ _ hd2⟩
  | 13, ⟨a, b, c, h, h1, hd2, h3⟩ => exact ⟨a, b, c, h, hB _ _ _ h1, hB _ _ _ hd2, hB _ _ _ h3⟩
  | 14, ⟨a, cs, h, h0, h1, hd2⟩ => exact ⟨a, cs, h, h0, h1, hB _ _ _ hd2⟩
  | n + 15, _ => exact trivial
/-- what the boxes of the three variables hold -/
structure AlG (w wb W : World) : Prop where
  x : W.heap[w.heap.size]? = some (.cells (tC bX).toArray 26 (0, 0))
  y : W.heap[w.heap.size + 1]? = some (.cells (tC bY).toArray 26 (0, 0))
  z : W.heap[w.heap.size + 2]? = some (.cells (tC bZ).toArray 26 (0, 0))
  below : Below w.heap.size w W
  len : w.heap.size + 3 ≤ W.heap.size
theorem AlG.keep {w wb W W' : World} (h : AlG w wb W) (hb : Below W.heap.size W W') : AlG w wb W' :=
  ⟨(hb.block _ (Array.getElem?_eq_some_iff.1 h.x).1).trans h.x, (hb.block _ (Array.getElem?_eq_some_iff.1 h.y).1).trans h.y, (hb.block _ (Array.getElem?_eq_some_iff.1 h.z).1).trans h.z, below_next h.below hb, Nat.le_trans h.len hb.size⟩
theorem term_size (s : ByteArray) : (Tryz.prog.info? 26).map (·.size) = some (tC s).length := by
  show _ = some 4
  kernel_rfl
set_option maxRecDepth 100000 in
set_option maxHeartbeats 40000000 in
theorem alive_any (w : World) (hW : LexW w) : Calls Tryz.prog 6 #[] w (RetBool true w) := by
  have mixed : Tryz.prog.follows .mixedOrders = true := by kernel_rfl
  have x0 : ((((w.alloc (.cells (tC bX).toArray 26)).alloc (.cells (tC bY).toArray 26)).alloc (.cells (tC bZ).toArray 26))).heap[w.heap.size]? = some (.cells (tC bX).toArray 26 (0, 0)) := heapOld (heapOld (heapNew rfl))
  have x1 : ((((w.alloc (.cells (tC bX).toArray 26)).alloc (.cells (tC bY).toArray 26)).alloc (.cells (tC bZ).toArray 26))).heap[w.heap.size + 1]? = some (.cells (tC bY).toArray 26 (0, 0)) := heapOld (heapNew (by simp))
  have x2 : ((((w.alloc (.cells (tC bX).toArray 26)).alloc (.cells (tC bY).toArray 26)).alloc (.cells (tC bZ).toArray 26))).heap[w.heap.size + 2]? = some (.cells (tC bZ).toArray 26 (0, 0)) := heapNew (by simp)
  have hbb : Below w.heap.size w (((w.alloc (.cells (tC bX).toArray 26)).alloc (.cells (tC bY).toArray 26)).alloc (.cells (tC bZ).toArray 26)) := belowA (belowA (belowA (Below.refl _ _) _) _) _
  have hzz : w.heap.size + 3 ≤ (((w.alloc (.cells (tC bX).toArray 26)).alloc (.cells (tC bY).toArray 26)).alloc (.cells (tC bZ).toArray 26)).heap.size := by simp
  go_enter Tryz.func6, Tryz.ntmps6
  go_wp2_with fail
  generalize hwb : ((w.alloc _).alloc _).alloc _ = wb
  rw [hwb] at x0 x1 x2 hbb hzz
  have HG := Lib.hid (show AlG w wb wb from ⟨x0, x1, x2, hbb, hzz⟩)
  clear hwb x0 x1 x2 hbb hzz
  refine drawn mixed 15 37 (fun _ W => AlG w wb W) (alF w.heap.size) (fun _ W W' => Below W.heap.size W W') rfl (by kernel_rfl) rfl (fun j _ => HG.out.keep (below_drewN _ 1 _)) (fun _ _ _ _ _ _ _ _ h h' => alF_keep h h') (fun _ _ _ _ _ _ _ _ h h' => h.keep h') ?_ ?_
  · intro i o a' W hi ho hd hold hG _ hw
    have hr1 : a'.tmps[1]? = some (.pointer (some ⟨w.heap.size, 0, none⟩)) := hold 1 (by kernel_rfl)
    have hr2 : a'.tmps[2]? = some (.pointer (some ⟨w.heap.size + 1, 0, none⟩)) := hold 2 (by kernel_rfl)
    have hr3 : a'.tmps[3]? = some (.pointer (some ⟨w.heap.size + 1 + 1, 0, none⟩)) := hold 3 (by kernel_rfl)
    clear hold
    match i, hi, ho with
    | 0, _, ho =>
      injection ho with ho; subst ho
      exact wp_load_mid 26 (.tmp 1) rfl _ _ (eval_tmp hr1) (tC bX) _ (range_row hG.x) Tryz.underlying26 rfl (term_size bX) ⟨_, rfl, Below.refl _ _, rfl⟩
    | 1, _, ho =>
      injection ho with ho; subst ho
      exact wp_load_mid 26 (.tmp 2) rfl _ _ (eval_tmp hr2) (tC bY) _ (range_row hG.y) Tryz.underlying26 rfl (term_size bY) ⟨_, rfl, Below.refl _ _, rfl⟩
    | 2, _, ho =>
      injection ho with ho; subst ho
      obtain ⟨v0, h0, e0⟩ := hw 0 8 (by kernel_rfl)
      obtain ⟨v1, h1, e1⟩ := hw 1 9 (by kernel_rfl)
      obtain rfl : v0 = .agg (tC bX).toArray := e0
      obtain rfl : v1 = .agg (tC bY).toArray := e1
      exact op_bslice 51 26 2 _ rfl 4 [.agg (tC bX).toArray, .agg (tC bY).toArray] Tryz.underlying51 (by kernel_rfl) (by decide) rfl (by decide) (by decide) (by simp [Act.eval, h0, h1]) (fun v hv => by simp at hv; rcases hv with rfl | rfl <;> rfl) ⟨_, rfl, belowA (Below.refl _ _) _, _, rfl, heapNew rfl⟩
    | 3, _, ho =>
      injection ho with ho; subst ho
      obtain ⟨v0, h0, b, e0, hb⟩ := hw 2 10 (by kernel_rfl)
      obtain rfl : v0 = (hd2 b).v := e0
      exact op_build 53 _ rfl [(0, .string ⟨#[112]⟩), (1, (hd2 b).v)] #[.string ⟨#[112]⟩, (hd2 b).v] (by simp [Act.eval, h0]) (by kernel_rfl) ⟨_, rfl, Below.refl _ _, _, rfl, hb⟩
    | 4, _, ho =>
      injection ho with ho; subst ho
      exact wp_load_mid 26 (.tmp 2) rfl _ _ (eval_tmp hr2) (tC bY) _ (range_row hG.y) Tryz.underlying26 rfl (term_size bY) ⟨_, rfl, Below.refl _ _, rfl⟩
    | 5, _, ho =>
      injection ho with ho; subst ho
      exact wp_load_mid 26 (.tmp 3) rfl _ _ (eval_tmp hr3) (tC bZ) _ (range_row hG.z) Tryz.underlying26 rfl (term_size bZ) ⟨_, rfl, Below.refl _ _, rfl⟩
    | 6, _, ho =>
      injection ho with ho; subst ho
      obtain ⟨v0, h0, e0⟩ := hw 4 12 (by kernel_rfl)
      obtain ⟨v1, h1, e1⟩ := hw 5 13 (by kernel_rfl)
      obtain rfl : v0 = .agg (tC bY).toArray := e0
      obtain rfl : v1 = .agg (tC bZ).toArray := e1
      exact op_bslice 51 26 2 _ rfl 4 [.agg (tC bY).toArray, .agg (tC bZ).toArray] Tryz.underlying51 (by kernel_rfl) (by decide) rfl (by decide) (by decide) (by simp [Act.eval, h0, h1]) (fun v hv => by simp at hv; rcases hv with rfl | rfl <;> rfl) ⟨_, rfl, belowA (Below.refl _ _) _, _, rfl, heapNew rfl⟩
    | 7, _, ho =>
      injection ho with ho; subst ho
      obtain ⟨v0, h0, b, e0, hb⟩ := hw 6 14 (by kernel_rfl)
      obtain rfl : v0 = (hd2 b).v := e0
      exact op_build 53 _ rfl [(0, .string ⟨#[113]⟩), (1, (hd2 b).v)] #[.string ⟨#[113]⟩, (hd2 b).v] (by simp [Act.eval, h0]) (by kernel_rfl) ⟨_, rfl, Below.refl _ _, _, rfl, hb⟩
    | 8, _, ho =>
      injection ho with ho; subst ho
      obtain ⟨v0, h0, b, e0, hb⟩ := hw 7 15 (by kernel_rfl)
      obtain rfl : v0 = .agg #[.string ⟨#[113]⟩, (hd2 b).v] := e0
      exact op_build 63 _ rfl [(0, .int .i64 1), (1, .agg #[.string ⟨#[113]⟩, (hd2 b).v])] (litC alLit1 (hd2 b) hN hN).toArray (by simp [Act.eval, h0]) (by kernel_rfl) ⟨_, rfl, Below.refl _ _, _, rfl, hb⟩
    | 9, _, ho =>
      injection ho with ho; subst ho
      refine op_call 23 _ rfl rfl #[.string bX] (by simp [Act.eval]) _ Tryz.func23 (by kernel_rfl) (by kernel_rfl) ((v_any bX _).mono ?_)
      rintro e w1 ⟨rfl, rfl⟩
      exact ⟨_, rfl, _, rfl, belowA (Below.refl _ _) _, rfl⟩
    | 10, _, ho =>
      injection ho with ho; subst ho
      refine op_call 23 _ rfl rfl #[.string bZ] (by simp [Act.eval]) _ Tryz.func23 (by kernel_rfl) (by kernel_rfl) ((v_any bZ _).mono ?_)
      rintro e w1 ⟨rfl, rfl⟩
      exact ⟨_, rfl, _, rfl, belowA (Below.refl _ _) _, rfl⟩
    | 11, _, ho =>
      injection ho with ho; subst ho
      obtain ⟨v0, h0, e0⟩ := hw 9 17 (by kernel_rfl)
      obtain ⟨v1, h1, e1⟩ := hw 10 18 (by kernel_rfl)
      obtain rfl : v0 = .agg (vC bX).toArray := e0
      obtain rfl : v1 = .agg (vC bZ).toArray := e1
      exact op_build 63 _ rfl [(0, .int .i64 3), (2, .int .i64 1), (3, .agg (vC bX).toArray), (4, .agg (vC bZ).toArray)] (litC alLit2 hN hN hN).toArray (by simp [Act.eval, h0, h1]) (by kernel_rfl) ⟨_, rfl, Below.refl _ _, rfl⟩
    | 12, _, ho =>
      injection ho with ho; subst ho
      obtain ⟨v0, h0, b, e0, hb⟩ := hw 8 16 (by kernel_rfl)
      obtain ⟨v1, h1, e1⟩ := hw 11 19 (by kernel_rfl)
      obtain rfl : v0 = .agg (litC alLit1 (hd2 b) hN hN).toArray := e0
      obtain rfl : v1 = .agg (litC alLit2 hN hN hN).toArray := e1
      exact op_bslice 54 63 2 _ rfl 17 [.agg (litC alLit1 (hd2 b) hN hN).toArray, .agg (litC alLit2 hN hN hN).toArray] Tryz.underlying54 (by kernel_rfl) (by decide) rfl (by decide) (by decide) (by simp [Act.eval, h0, h1]) (fun v hv => by simp at hv; rcases hv with rfl | rfl <;> rfl) ⟨_, rfl, belowA (Below.refl _ _) _, _, _, rfl, heapOld hb, heapNew rfl⟩
    | 13, _, ho =>
      injection ho with ho; subst ho
      obtain ⟨v0, h0, a, e0, ha⟩ := hw 3 11 (by kernel_rfl)
      obtain ⟨v1, h1, b, b', e1, hb, hb'⟩ := hw 12 20 (by kernel_rfl)
      obtain rfl : v0 = .agg #[.string ⟨#[112]⟩, (hd2 a).v] := e0
      obtain rfl : v1 = (hd2 b').v := e1
      exact op_build 56 _ rfl [(0, .agg #[.string ⟨#[112]⟩, (hd2 a).v]), (3, (hd2 b').v)] (ruleC alRule (hd2 a) (hd2 b')).toArray (by simp [Act.eval, h0, h1]) (by kernel_rfl) ⟨_, rfl, Below.refl _ _, _, _, _, rfl, ha, hb, hb'⟩
    | 14, _, ho =>
      injection ho with ho; subst ho
      exact op_alloc 56 rfl (ruleC zRule hN hN).toArray 6 (by kernel_rfl) ⟨_, rfl, belowA (Below.refl _ _) _, _, (ruleC zRule hN hN), rfl, hG.below.size, rfl, heapNew rfl⟩
    | n + 15, hi, ho => omega
  · intro o a' W ho hd hs hold hG hw
    obtain ⟨v0, h0, a, b, b', e0, ha, hb, hb'⟩ := hw 13 21 (by decide) (by kernel_rfl)
    obtain ⟨v1, h1, g, cs, e1, hgn, hcs, hg⟩ := hw 14 4 (by decide) (by kernel_rfl)
    obtain rfl : v0 = _ := e0
    obtain rfl : v1 = _ := e1
    clear hw hold
    injection ho with ho; subst ho
    refine wp_store_row 56 (.tmp 4) (.tmp 21) rfl g (ruleC alRule (hd2 a) (hd2 b')).toArray (eval_tmp h1) (eval_tmp h0) 56 cs.toArray hg (by kernel_rfl) (by simp [hcs]) (by simp [Value.oneCell']) ?_
    have ng : ∀ x : Nat, ∀ (c : Array Value) (t : TypeId), W.heap[x]? = some (.cells c t (0, 0)) → t ≠ 56 → (W.setRow g (ruleC alRule (hd2 a) (hd2 b')).toArray).heap[x]? = some (.cells c t (0, 0)) := fun x c t hx ht => by
      refine (setRow_ne (fun e => ?_)).trans hx
      subst e
      rw [hg] at hx
      injection hx with hx
      injection hx with _ h3 _
      exact ht h3.symm
    have ha := ng _ _ _ ha (by decide)
    have hb := ng _ _ _ hb (by decide)
    have hb' := ng _ _ _ hb' (by decide)
    have hg := setRow_at (cs' := (ruleC alRule (hd2 a) (hd2 b')).toArray) hg
    obtain ⟨f, hf, hf2⟩ := act_lit 37 hs hd
    have f4 := hf2 _ _ h1
    have hrep : Hid ((List.range 37).map f = [f 0, f 1, f 2, f 3, f 4, f 5, f 6, f 7, f 8, f 9, f 10, f 11, f 12, f 13, f 14, f 15, f 16, f 17, f 18, f 19, f 20, f 21, f 22, f 23, f 24, f 25, f 26, f 27, f 28, f 29, f 30, f 31, f 32, f 33, f 34, f 35, f 36]) := rfl
    rw [hrep.out, f4] at hf
    subst hf
    clear hf2 hrep h1 h0 f4 hs hd
    have hbW : Below w.heap.size w (W.setRow g (ruleC alRule (hd2 a) (hd2 b')).toArray) := ⟨hG.below.os, hG.below.tape, hG.below.output, by rw [setRow_size]; exact hG.below.size, fun x hx => (setRow_ne (by omega)).trans (hG.below.block x hx)⟩
    clear hG ng hcs hgn HG
    generalize W.setRow g _ = W2 at *
    have HX := Lib.hid (show RuleAt 1 W2 W2.heap.size alRule (hd2 a) (hd2 b') from ⟨by decide, al_two ha (by decide) (by decide), by decide, by decide, al_lits hb' (al_two hb (by decide) (by decide)), by decide⟩)
    have HWx := Lib.hid (fun (W : World) (h : Below w.heap.size w W) => hW.on h)
    obtain ⟨c0, c1, c2, c3, c4, c5⟩ := facts6 hg
    clear hW ha hb hb'
    simp only [Act.put]
    go_wp2_with fail
    refine (vars_any 1 alRule (hd2 a) (hd2 b') W2 HX.out (by simp [ruleT, insideL, leaf_one])).mono ?_
    rintro e W3 ⟨A3, d3, rfl, ho3, hb3⟩
    rw [al_vars] at ho3
    have hS3 := TextsPost.is ho3 (by decide) (by intro s hs; simp at hs; rcases hs with rfl | rfl | rfl <;> decide)
    have HX3 := Lib.hid (HX.out.keep hb3)
    have hgW3 := (hb3.block _ (Array.getElem?_eq_some_iff.1 hg).1).trans hg
    have hbW3 := below_next hbW hb3
    clear ho3 hb3 HX hg hbW c0 c1 c2 c3 c4 c5
    rw [al_vars]
    simp only [List.length_cons, List.length_nil, Nat.reduceAdd]
    have hL : SliceIs Enc.str (W3.alloc (.cells #[.string bX, .string bY, .string bZ] 9)) (W3.alloc (.cells #[.string bX, .string bY, .string bZ] 9)).heap.size (some ⟨W3.heap.size, 0, none⟩) 3 3 [bX, bY, bZ] :=
      SliceIs.of_block (E := Enc.str) strC (fun _ => rfl) (heapNew (o := .cells #[.string bX, .string bY, .string bZ] 9) rfl) rfl (by simp [reachN]) (fun s hs => ⟨rfl, by simp at hs; rcases hs with rfl | rfl | rfl <;> decide⟩)
    have hbA : Below W3.heap.size W3 (W3.alloc (.cells #[.string bX, .string bY, .string bZ] 9)) := belowA (Below.refl _ _) _
    have HT := Lib.hid (texts_eq A3 (some ⟨W3.heap.size, 0, none⟩) 3 3 d3 3 _ _ (hS3.mono' hbA.size (Kept.of hbA.block)) hL)
    have hgA := (hbA.block _ (Array.getElem?_eq_some_iff.1 hgW3).1).trans hgW3
    have HXA := Lib.hid (HX3.out.keep hbA)
    have hbWA := below_next hbW3 hbA
    clear hS3 HX3 hgW3 hbW3 hL hbA
    go_wp2_with fail
    refine HT.out.mono ?_
    rintro e W4 ⟨rfl, hb4⟩
    have hg4 := (hb4.block _ (Array.getElem?_eq_some_iff.1 hgA).1).trans hgA
    have HX4 := Lib.hid (HXA.out.keep hb4)
    have hbW4 := below_next hbWA hb4
    obtain ⟨c0, c1, c2, c3, c4, c5⟩ := facts6 hg4
    clear hgA HXA hbWA hb4 HT hg4
    go_wp2_with fail
    refine (rightRule_any 1 alRule (hd2 a) (hd2 b') W4 HX4.out (HWx.out _ hbW4)).mono ?_
    rintro e W5 ⟨rfl, hb5⟩
    have hbW5 := below_next hbW4 hb5
    rw [al_rule]
    clear HX4 hbW4 hb5 c0 c1 c2 c3 c4 c5
    go_wp2_with fail
    refine (variable_any ⟨#[88]⟩ (by decide) W5 (HWx.out _ hbW5)).mono ?_
    rintro e W6 ⟨rfl, hb6⟩
    have hbW6 := below_next hbW5 hb6
    rw [al_X]
    clear hbW5 hb6
    go_wp2_with fail
    refine (variable_any ⟨#[120]⟩ (by decide) W6 (HWx.out _ hbW6)).mono ?_
    rintro e W7 ⟨rfl, hb7⟩
    have hbW7 := below_next hbW6 hb7
    rw [al_x]
    clear hbW6 hb7
    go_wp2_with fail
    go_ret
    exact ⟨rfl, hbW7⟩
end Go.Proofs.YtiffmiabhapfnaaGreatDoor

/- Worlds with the rows of slices alone emptied: what is read there stays when such a row is written. -/
namespace Go.Proofs.YtiffmiabhapfnaaGreatDoor
open Go.RowKit

def isSl : Value → Bool
  | .slice .. => true
  | _ => false
def bareO : Obj → Obj
  | .cells cs t fr => if cs.all isSl then .cells #[] 0 (0, 0) else .cells cs t fr
  | o => o
/-- the world without its rows of slices alone -/
def bare (w : World) : World := { w with heap := w.heap.map bareO }
theorem bare_size (w : World) : (bare w).heap.size = w.heap.size := by simp [bare]
theorem bare_get (w : World) (b : Nat) : (bare w).heap[b]? = (w.heap[b]?).map bareO := by simp [bare]
theorem bare_in {w : World} {b : Nat} {cs : Array Value} {t : TypeId} {fr : Nat × Nat} (h : (bare w).heap[b]? = some (.cells cs t fr)) (hc : cs ≠ #[]) : w.heap[b]? = some (.cells cs t fr) ∧ cs.all isSl = false := by
  rw [bare_get] at h
  obtain ⟨o, ho, h⟩ := Option.map_eq_some_iff.1 h
  cases o with
  | cells cs' t' fr' =>
    simp only [bareO] at h
    split at h
    · injection h with h; exact absurd h.symm hc
    · rename_i hn
      injection h with h1 h2 h3
      subst h1 h2 h3
      exact ⟨ho, by simpa using hn⟩
  | _ => simp [bareO] at h
theorem bare_out {w : World} {b : Nat} {cs : Array Value} {t : TypeId} {fr : Nat × Nat} (h : w.heap[b]? = some (.cells cs t fr)) (hc : cs.all isSl = false) : (bare w).heap[b]? = some (.cells cs t fr) := by
  rw [bare_get, h]; simp [bareO, hc]
theorem bare_kept (w : World) (B : Nat) : Kept (bare w) w B := fun _ _ _ _ _ h hc => (bare_in h hc).1
theorem cell_row {w : World} {b i : Nat} {v : Value} (h : w.cell? ⟨b, i, none⟩ = some v) : ∃ cs t fr, w.heap[b]? = some (.cells cs t fr) ∧ cs[i]? = some v := by
  cases ho : w.heap[b]? with
  | none => simp [World.cell?, ho] at h
  | some o =>
    cases o with
    | cells cs t fr => exact ⟨cs, t, fr, rfl, by simpa [World.cell?, ho] using h⟩
    | _ => simp [World.cell?, ho] at h
theorem row_cell {w : World} {b i : Nat} {v : Value} {cs : Array Value} {t : TypeId} {fr : Nat × Nat} (h : w.heap[b]? = some (.cells cs t fr)) (hv : cs[i]? = some v) : w.cell? ⟨b, i, none⟩ = some v := by
  simpa [World.cell?, h] using hv
theorem not_all {cs : Array Value} {i : Nat} {v : Value} (h : cs[i]? = some v) (hv : isSl v = false) : cs.all isSl = false := by
  rw [Array.all_eq_false]
  obtain ⟨hi, e⟩ := Array.getElem?_eq_some_iff.1 h
  exact ⟨i, hi, by rw [e]; simp [hv]⟩

/-- what the encoding lays holds no slice in its first cell, and lies outside of the rows of slices alone -/
def Solid {α : Type} (E : Enc α) : Prop := ∀ (w : World) (B : Nat) (cs : List Value) (x : α), E.ok w B cs x → (∃ v, cs[0]? = some v ∧ isSl v = false) ∧ E.ok (bare w) B cs x
theorem SliceIs.bare {α : Type} {E : Enc α} (hE : Solid E) {w : World} {B : Nat} {A : Option Addr} {n c : Nat} {l : List α} (h : SliceIs E w B A n c l) : SliceIs E (bare w) B A n c l := by
  obtain ⟨h1, h2, h3, hr, h4⟩ := h
  refine ⟨h1, h2, h3, hr, ?_⟩
  rcases h4 with h4 | ⟨b, o, hA, hb, hc⟩
  · exact .inl h4
  · refine .inr ⟨b, o, hA, hb, fun i x hx => ?_⟩
    obtain ⟨cs, hok, hcs⟩ := hc i x hx
    obtain ⟨⟨v, hv, hs⟩, hok2⟩ := hE w B cs x hok
    obtain ⟨row, t, fr, hrow, hi⟩ := cell_row (hcs 0 v hv)
    refine ⟨cs, hok2, fun j u hu => ?_⟩
    obtain ⟨row', t', fr', hrow', hj⟩ := cell_row (hcs j u hu)
    exact row_cell (bare_out hrow (not_all hi hs)) (by rw [hrow] at hrow'; injection hrow' with e; injection e with e1; rw [e1]; exact hj)
theorem solid_int : Solid Enc.int := fun _ _ cs x h => by
  have e := h.1
  subst e
  exact ⟨⟨_, rfl, rfl⟩, rfl, h.2⟩
theorem solid_told : Solid Enc.told := fun _ _ cs x h => by
  have e := h.1
  subst e
  exact ⟨⟨_, rfl, rfl⟩, rfl, h.2⟩
theorem solid_exp : ∀ d, Solid (Enc.exp d)
  | 0 => fun _ _ _ _ h => h.elim
  | d + 1 => fun w B cs x h => by
    obtain ⟨A, n, c, rfl, h1, h2, h3, h4⟩ := h
    exact ⟨⟨_, rfl, rfl⟩, A, n, c, rfl, h1, h2, h3, h4.bare (solid_exp d)⟩
theorem solid_lit (d : Nat) : Solid (Enc.lit d) := fun w B cs x h => by
  obtain ⟨a, p, q, rfl, h⟩ := h
  exact ⟨⟨_, rfl, rfl⟩, a, p, q, rfl, ⟨h.k, h.op, h.pos, h.rel, h.args.bare solid_told, h.lop, h.lx, h.lv, h.lk.bare (solid_exp d), h.rop, h.rx, h.rv, h.rk.bare (solid_exp d)⟩⟩
theorem solid_rule (d : Nat) : Solid (Enc.rule d) := fun w B cs x h => by
  obtain ⟨a, b, rfl, h⟩ := h
  exact ⟨⟨_, rfl, rfl⟩, a, b, rfl, ⟨h.rel, h.args.bare solid_told, h.agg, h.col, h.body.bare (solid_lit d), h.pos⟩⟩
theorem solid_decl : Solid Enc.decl := fun w B cs x h => by
  obtain ⟨a, rfl, h⟩ := h
  exact ⟨⟨_, rfl, rfl⟩, a, rfl, ⟨h.rel, h.kinds.bare solid_int, h.pos⟩⟩
theorem ProgAt.bare {d : Nat} {w : World} {B : Nat} {x : GProg} {a b : Hd} (h : ProgAt d w B x a b) : ProgAt d (bare w) B x a b := ⟨h.decls.bare solid_decl, h.rules.bare (solid_rule d)⟩
theorem ProgAt.unbare {d : Nat} {w : World} {B : Nat} {x : GProg} {a b : Hd} (h : ProgAt d (Proofs.YtiffmiabhapfnaaGreatDoor.bare w) B x a b) : ProgAt d w B x a b := ⟨h.decls.mono' (Nat.le_refl _) (bare_kept w B), h.rules.mono' (Nat.le_refl _) (bare_kept w B)⟩

/-- what is no row of slices alone stays -/
structure SoftS (w w' : World) : Prop where
  size : w.heap.size ≤ w'.heap.size
  block : ∀ (b : Nat) (cs : Array Value) (t : TypeId) (fr : Nat × Nat), w.heap[b]? = some (.cells cs t fr) → cs.all isSl = false → w'.heap[b]? = some (.cells cs t fr)
theorem SoftS.of_below {w w' : World} (h : Below w.heap.size w w') : SoftS w w' := ⟨h.size, fun b _ _ _ hb _ => (h.block b (Array.getElem?_eq_some_iff.1 hb).1).trans hb⟩
theorem SoftS.set {w : World} {g : Nat} {cs cs' : Array Value} {t : TypeId} {fr : Nat × Nat} (h : w.heap[g]? = some (.cells cs t fr)) (hc : cs.all isSl = true) : SoftS w (w.setRow g cs') := by
  refine ⟨by rw [setRow_size]; exact Nat.le_refl _, fun b cs2 t2 fr2 hb h2 => ?_⟩
  rw [setRow_ne]
  · exact hb
  · rintro rfl
    rw [h] at hb
    injection hb with e; injection e with e1
    rw [e1, h2] at hc; cases hc
theorem SoftS.kept {w w' : World} (h : SoftS w w') (B : Nat) : Kept (bare w) (bare w') B := fun b _ cs t fr hcs hc => by
  obtain ⟨h1, h2⟩ := bare_in hcs hc
  exact (bare_out (h.block b cs t fr h1 h2) h2)
theorem ProgAt.soft {d : Nat} {w w' : World} {x : GProg} {a b : Hd} (h : ProgAt d (Proofs.YtiffmiabhapfnaaGreatDoor.bare w) w.heap.size x a b) (hs : SoftS w w') : ProgAt d (Proofs.YtiffmiabhapfnaaGreatDoor.bare w') w'.heap.size x a b :=
  ⟨h.decls.mono' hs.size (hs.kept _), h.rules.mono' hs.size (hs.kept _)⟩

theorem twoJ_on {B T i0 i1 i2 d0 d1 : Nat} {c1 zs : Array Value} {l : Nat → Bool} {t : Array Value} {W W' : World} (h : twoJ B T i0 i1 i2 d0 d1 c1 zs l t W) (hb : Below W.heap.size W W') : twoJ B T i0 i1 i2 d0 d1 c1 zs l t W' := by
  obtain ⟨g, k, h1, h2, h3, h4⟩ := h
  refine ⟨g, k, fun h => ?_, fun h => ?_, h3, h4⟩
  · obtain ⟨k1, k2, k3, cs, k4, k5, k6⟩ := h1 h
    exact ⟨k1, k2, Nat.lt_of_lt_of_le k3 hb.size, cs, k4, (hb.block _ k3).trans k5, k6⟩
  · obtain ⟨k1, k2, k3, k5⟩ := h2 h
    exact ⟨k1, k2, Nat.lt_of_lt_of_le k3 hb.size, (hb.block _ k3).trans k5⟩
theorem twoJ_any {B T i0 i1 i2 d0 d1 : Nat} {c1 c2 zs : Array Value} {l : Nat → Bool} {t : Array Value} {W : World} (h : twoJ B T i0 i1 i2 d0 d1 c1 zs l t W) (ho : l i2 = false) : twoJ B T i0 i1 i2 d0 d1 c2 zs l t W := by
  obtain ⟨g, k, h1, h2, h3, h4⟩ := h
  refine ⟨g, k, fun h => ?_, h2, h3, h4⟩
  obtain ⟨k1, k2, k3, cs, k4, k5, k6, k7⟩ := h1 h
  exact ⟨k1, k2, k3, cs, k4, k5, (fun h => by rw [ho] at h; cases h), k7⟩
end Go.Proofs.YtiffmiabhapfnaaGreatDoor

/- TermFormed: the walk. -/
namespace Go.Proofs.YtiffmiabhapfnaaGreatDoor
open Go.RowKit

def tfF (d1 d2 : Nat) (x y : GProg) (c1 c2 : List Value) (i : Nat) (v : Value) (W : World) : Prop := match i with
  | 0 => v = .agg c1.toArray
  | 1 => ∃ p q : Hd, v = .agg (progC p q).toArray ∧ ProgAt d1 (bare W) W.heap.size x p q
  | 2 => v = .agg c2.toArray
  | 3 => ∃ p q : Hd, v = .agg (progC p q).toArray ∧ ProgAt d2 (bare W) W.heap.size y p q
  | _ => True
def tfR (w0 : World) (W W' : World) : Prop := SoftS W W' ∧ (w0.heap.size ≤ W.heap.size → Below w0.heap.size W W')
def tfJ (d1 : Nat) (x : GProg) (B : Nat) (l : Nat → Bool) (t : Array Value) (W : World) : Prop :=
  ∃ c1, twoJ B 69 4 5 6 5 6 c1 #[.slice none 0 0, .slice none 0 0] l t W ∧ (l 6 = true → ∃ p q : Hd, c1 = (progC p q).toArray ∧ ProgAt d1 (bare W) W.heap.size x p q)
theorem tfJ_any {d1 : Nat} {x : GProg} {B : Nat} {l : Nat → Bool} {t t' : Array Value} {W W' : World} (l' : Nat → Bool) (h : tfJ d1 x B l t W) (h6 : l' 6 = l 6) (hs : SoftS W W') (hj : ∀ c1, twoJ B 69 4 5 6 5 6 c1 #[.slice none 0 0, .slice none 0 0] l t W → twoJ B 69 4 5 6 5 6 c1 #[.slice none 0 0, .slice none 0 0] l' t' W') : tfJ d1 x B l' t' W' := by
  obtain ⟨c1, h1, h2⟩ := h
  refine ⟨c1, hj c1 h1, fun h => ?_⟩
  obtain ⟨p, q, e, hp⟩ := h2 (by rw [← h6]; exact h)
  exact ⟨p, q, e, hp.soft hs⟩
theorem prog_size (a b : Hd) : (Tryz.prog.info? 48).map (·.size) = some (progC a b).length := by
  show _ = some 2
  kernel_rfl

set_option maxRecDepth 100000 in
set_option maxHeartbeats 8000000 in
theorem termFormed_walk (d1 d2 : Nat) (x y : GProg) (A : Option Addr) (n c : Nat) (E : Option Addr) (m e : Nat) (A' : Option Addr) (n' c' : Nat) (E' : Option Addr) (m' e' : Nat) (w : World)
    (hx : ProgAt d1 w w.heap.size x ⟨A, n, c⟩ ⟨E, m, e⟩) (hy : ProgAt d2 w w.heap.size y ⟨A', n', c'⟩ ⟨E', m', e'⟩) (hW : LexW w) :
    Calls Tryz.prog 5 #[.agg (progC ⟨A, n, c⟩ ⟨E, m, e⟩).toArray, .agg (progC ⟨A', n', c'⟩ ⟨E', m', e'⟩).toArray] w (RetBool true w) := by
  have mixed : Tryz.prog.follows .mixedOrders = true := by kernel_rfl
  have HA := Lib.hid (fun (W : World) (hb : Below w.heap.size w W) => alive_any W (hW.on hb))
  have HWx := Lib.hid (fun (W : World) (hb : Below w.heap.size w W) => hW.on hb)
  have HX := Lib.hid hx
  have HY := Lib.hid hy
  have hrX : ((w.alloc (.cells (progC ⟨A, n, c⟩ ⟨E, m, e⟩).toArray 48)).alloc (.cells (progC ⟨A', n', c'⟩ ⟨E', m', e'⟩).toArray 48)).heap[w.heap.size]? = some (.cells (progC ⟨A, n, c⟩ ⟨E, m, e⟩).toArray 48 (0, 0)) := heapOld (heapNew rfl)
  have hrY : ((w.alloc (.cells (progC ⟨A, n, c⟩ ⟨E, m, e⟩).toArray 48)).alloc (.cells (progC ⟨A', n', c'⟩ ⟨E', m', e'⟩).toArray 48)).heap[w.heap.size + 1]? = some (.cells (progC ⟨A', n', c'⟩ ⟨E', m', e'⟩).toArray 48 (0, 0)) := heapNew (by simp)
  have hb0 : Below w.heap.size w ((w.alloc (.cells (progC ⟨A, n, c⟩ ⟨E, m, e⟩).toArray 48)).alloc (.cells (progC ⟨A', n', c'⟩ ⟨E', m', e'⟩).toArray 48)) := belowA (belowA (Below.refl _ _) _) _
  clear hx hy hW
  go_enter Tryz.func5, Tryz.ntmps5
  go_wp2_with fail
  refine (HA.out _ hb0).mono ?_
  rintro r w1 ⟨rfl, hb1⟩
  replace hrX := (hb1.block _ (Array.getElem?_eq_some_iff.1 hrX).1).trans hrX
  replace hrY := (hb1.block _ (Array.getElem?_eq_some_iff.1 hrY).1).trans hrY
  replace hb0 := below_next hb0 hb1
  obtain ⟨c0, c1⟩ := facts2 hrX
  obtain ⟨e0, e1⟩ := facts2 hrY
  have HS := Lib.hid (size_any d1 x ⟨A, n, c⟩ ⟨E, m, e⟩ w1 (HX.out.keep hb0))
  clear HA hb1
  go_wp2_with fail
  refine HS.out.mono ?_
  rintro r w2 ⟨R, rfl, hR, hb2⟩
  replace hrX := (hb2.block _ (Array.getElem?_eq_some_iff.1 hrX).1).trans hrX
  replace hrY := (hb2.block _ (Array.getElem?_eq_some_iff.1 hrY).1).trans hrY
  replace hb0 := below_next hb0 hb2
  clear c0 c1 e0 e1
  obtain ⟨c0, c1⟩ := facts2 hrX
  obtain ⟨e0, e1⟩ := facts2 hrY
  clear HS hb2
  by_cases hneg : R < 0
  · clear hR
    go_wp2_with fail
    go_ret
    exact ⟨rfl, hb0⟩
  have HSx := Lib.hid (szP_all (hR.1 (by omega)))
  have HS := Lib.hid (size_any d2 y ⟨A', n', c'⟩ ⟨E', m', e'⟩ w2 (HY.out.keep hb0))
  clear hR
  go_wp2_with fail
  refine HS.out.mono ?_
  rintro r w3 ⟨R2, rfl, hR, hb2⟩
  replace hrX := (hb2.block _ (Array.getElem?_eq_some_iff.1 hrX).1).trans hrX
  replace hrY := (hb2.block _ (Array.getElem?_eq_some_iff.1 hrY).1).trans hrY
  replace hb0 := below_next hb0 hb2
  clear c0 c1 e0 e1
  obtain ⟨c0, c1⟩ := facts2 hrX
  obtain ⟨e0, e1⟩ := facts2 hrY
  clear HS hb2
  by_cases hneg2 : R2 < 0
  · clear hR
    go_wp2_with fail
    go_ret
    exact ⟨rfl, hb0⟩
  have HSy := Lib.hid (szP_all (hR.1 (by omega)))
  clear hR
  have Hx3 := Lib.hid (HX.out.keep hb0)
  have Hy3 := Lib.hid (HY.out.keep hb0)
  have HrX := Lib.hid hrX
  have HrY := Lib.hid hrY
  have HB0 := Lib.hid hb0
  have HC1 := Lib.hid (fun (W : World) (hb : Below w3.heap.size w3 W) => copyProg_any d1 x ⟨A, n, c⟩ ⟨E, m, e⟩ W (Hx3.out.keep hb) HSx.out)
  have HC2 := Lib.hid (fun (W : World) (hb : Below w3.heap.size w3 W) => copyProg_any d2 y ⟨A', n', c'⟩ ⟨E', m', e'⟩ W (Hy3.out.keep hb) HSy.out)
  clear hrX hrY hb0 HX HY
  go_wp2_with fail
  clear c0 c1 e0 e1
  refine drawnJ3 mixed 7 40 [17, 18, 19, 20, 5, 6] (fun _ W => Below w3.heap.size w3 W) (tfF d1 d2 x y (progC ⟨A, n, c⟩ ⟨E, m, e⟩) (progC ⟨A', n', c'⟩ ⟨E', m', e'⟩)) (fun _ W W' => tfR w3 W W') (tfJ d1 x w3.heap.size) rfl (by kernel_rfl) (by kernel_rfl) rfl
    ⟨#[], ⟨0, 0, (fun h => by cases h), (fun h => by cases h), (fun h => by cases h), (fun h => by cases h)⟩, (fun h => by cases h)⟩ (fun j _ => below_drewN _ 1 _) ?_ (fun i j W W' _ _ _ _ h h' => h.trans (h'.2 h.size)) ?_ ?_
  · intro i j v W W' _ _ _ h hr
    match i, h with
    | 0, h => exact h
    | 1, ⟨p, q, e, hp⟩ => exact ⟨p, q, e, hp.soft hr.1⟩
    | 2, h => exact h
    | 3, ⟨p, q, e, hp⟩ => exact ⟨p, q, e, hp.soft hr.1⟩
    | _ + 4, _ => exact trivial
  · intro l i o2' a2' W hJ hli hlw hi ho hd hsz hold hG _ hw
    have hr2 : a2'.tmps[2]? = some (.pointer (some ⟨w.heap.size, 0, none⟩)) := hold 2 (by kernel_rfl)
    have hr3 : a2'.tmps[3]? = some (.pointer (some ⟨w.heap.size + 1, 0, none⟩)) := hold 3 (by kernel_rfl)
    have hgX := (hG.block _ (Array.getElem?_eq_some_iff.1 HrX.out).1).trans HrX.out
    have hgY := (hG.block _ (Array.getElem?_eq_some_iff.1 HrY.out).1).trans HrY.out
    have hre : tfR w3 W W := ⟨⟨Nat.le_refl _, fun _ _ _ _ h _ => h⟩, fun _ => Below.refl _ _⟩
    have hal : ∀ o, tfR w3 W (W.alloc o) := fun o => ⟨SoftS.of_below (belowA (Below.refl _ _) o), fun h => (belowA (Below.refl _ _) o).mono h⟩
    clear hold
    match i, hi, ho with
    | 0, _, ho =>
      injection ho with ho; subst ho
      exact wp_load_mid 48 (.tmp 2) rfl _ _ (eval_tmp hr2) (progC ⟨A, n, c⟩ ⟨E, m, e⟩) _ (range_off hgX rfl) Tryz.underlying48 rfl (prog_size _ _) ⟨_, rfl, hre, rfl, fun l' h1 h2 => tfJ_any l' hJ (h2 6 (by decide)) hre.1 (fun c1 hj => twoJ_val hj (by decide) (by decide) (by decide) (by decide) (by decide) h1 h2)⟩
    | 1, _, ho =>
      injection ho with ho; subst ho
      obtain ⟨v0, h0, e0'⟩ := hw 0 17 (by kernel_rfl)
      obtain rfl : v0 = _ := e0'
      refine op_call 19 _ rfl rfl #[.agg (progC ⟨A, n, c⟩ ⟨E, m, e⟩).toArray] (by simp [Act.eval, h0]) _ Tryz.func19 (by kernel_rfl) (by kernel_rfl) ((HC1.out W hG).mono ?_)
      rintro r w' ⟨p, q, rfl, hat, hb⟩
      exact ⟨_, rfl, _, rfl, ⟨SoftS.of_below hb, fun h => hb.mono h⟩, ⟨p, q, rfl, hat.bare⟩, fun l' h1 h2 => tfJ_any l' hJ (h2 6 (by decide)) (SoftS.of_below hb) (fun c1 hj => twoJ_val (twoJ_on hj hb) (by decide) (by decide) (by decide) (by decide) (by decide) h1 h2)⟩
    | 2, _, ho =>
      injection ho with ho; subst ho
      exact wp_load_mid 48 (.tmp 3) rfl _ _ (eval_tmp hr3) (progC ⟨A', n', c'⟩ ⟨E', m', e'⟩) _ (range_off hgY rfl) Tryz.underlying48 rfl (prog_size _ _) ⟨_, rfl, hre, rfl, fun l' h1 h2 => tfJ_any l' hJ (h2 6 (by decide)) hre.1 (fun c1 hj => twoJ_val hj (by decide) (by decide) (by decide) (by decide) (by decide) h1 h2)⟩
    | 3, _, ho =>
      injection ho with ho; subst ho
      obtain ⟨v0, h0, e0'⟩ := hw 2 19 (by kernel_rfl)
      obtain rfl : v0 = _ := e0'
      refine op_call 19 _ rfl rfl #[.agg (progC ⟨A', n', c'⟩ ⟨E', m', e'⟩).toArray] (by simp [Act.eval, h0]) _ Tryz.func19 (by kernel_rfl) (by kernel_rfl) ((HC2.out W hG).mono ?_)
      rintro r w' ⟨p, q, rfl, hat, hb⟩
      exact ⟨_, rfl, _, rfl, ⟨SoftS.of_below hb, fun h => hb.mono h⟩, ⟨p, q, rfl, hat.bare⟩, fun l' h1 h2 => tfJ_any l' hJ (h2 6 (by decide)) (SoftS.of_below hb) (fun c1 hj => twoJ_val (twoJ_on hj hb) (by decide) (by decide) (by decide) (by decide) (by decide) h1 h2)⟩
    | 4, _, ho =>
      injection ho with ho; subst ho
      exact op_alloc 69 rfl #[.slice none 0 0, .slice none 0 0] 2 (by kernel_rfl) ⟨_, rfl, hal _, trivial, fun l' h1 h2 => tfJ_any l' hJ (h2 6 (by decide)) (hal _).1 (fun c1 hj => twoJ_a0 (zs := #[.slice none 0 0, .slice none 0 0]) hj (by decide) (by decide) (by decide) (by rw [hsz]; decide) hG.size hli h1 h2)⟩
    | 5, _, ho =>
      injection ho with ho; subst ho
      exact op_alloc 69 rfl #[.slice none 0 0, .slice none 0 0] 2 (by kernel_rfl) ⟨_, rfl, hal _, trivial, fun l' h1 h2 => tfJ_any l' hJ (h2 6 (by decide)) (hal _).1 (fun c1 hj => twoJ_a1 (zs := #[.slice none 0 0, .slice none 0 0]) hj (by decide) (by decide) (by decide) (by rw [hsz]; decide) hG.size h1 h2)⟩
    | 6, _, ho =>
      injection ho with ho; subst ho
      have hl4 : l 4 = true := hlw ⟨4, .data⟩ (by simp) rfl
      obtain ⟨v0, h0, p, q, rfl, hp⟩ := hw 1 18 (by kernel_rfl)
      obtain ⟨c1, hj, -⟩ := hJ
      obtain ⟨g, h, j1, j2, j3, j4⟩ := id hj
      obtain ⟨t6, hBg, hgz, cs, hcs, hrow, -, hcz⟩ := j1 hl4
      have hall : cs.all isSl = true := by rw [hcz hli]; simp [isSl]
      refine wp_store_row 69 (.tmp 5) (.tmp 18) rfl g (progC p q).toArray (eval_tmp t6) (eval_tmp h0) 69 cs hrow (by kernel_rfl) (by rw [hcs]; rfl) (by simp [Value.oneCell']) ⟨undef, rfl, ⟨SoftS.set hrow hall, fun h => below_set (Below.refl _ _) hBg _⟩, trivial, fun l' h1 h2 => ?_⟩
      refine ⟨(progC p q).toArray, twoJ_s (twoJ_any hj hli) (by decide) (by decide) t6 rfl hl4 h1 h2, fun _ => ⟨p, q, rfl, hp.soft (SoftS.set hrow hall)⟩⟩
    | n + 7, hi, _ => omega
  · intro l o2' u W t hJ ht hlL ho hG hw
    obtain ⟨⟨P2, pn2, pc2⟩, ⟨Q2, qn2, qc2⟩, e0, hp2⟩ := hw 3 20 (by decide) (by kernel_rfl)
    obtain ⟨c1, hj, h6⟩ := hJ
    obtain ⟨⟨P1, pn1, pc1⟩, ⟨Q1, qn1, qc1⟩, rfl, hp⟩ := h6 (hlL 6 (by decide))
    obtain ⟨g, h, t6', t7', hBg, hBh, hgh, hrow, cs2, hcs2, hrow2⟩ := twoJ_fin hj (hlL 4 (by decide)) (hlL 5 (by decide)) (hlL 6 (by decide)) (ht 5 (by decide) (by decide)) (ht 6 (by decide) (by decide))
    have hall : cs2.all isSl = true := by rw [hcs2]; simp [isSl]
    injection ho with ho; subst ho
    clear hj h6 hlL ht
    simp only [List.foldl_cons, List.foldl_nil, Act.put, List.setIfInBounds_toArray, List.set_cons_zero, List.set_cons_succ]
    rw [show u 20 = Value.agg (progC ⟨P2, pn2, pc2⟩ ⟨Q2, qn2, qc2⟩).toArray from e0, t6', t7']
    refine wp_store_row 69 (.tmp 6) (.tmp 20) rfl h (progC ⟨P2, pn2, pc2⟩ ⟨Q2, qn2, qc2⟩).toArray rfl rfl 69 cs2 hrow2 (by kernel_rfl) (by rw [hcs2]; rfl) (by simp [Value.oneCell']) ?_
    have rP := Lib.hid ((setRow_ne (cs' := (progC ⟨P2, pn2, pc2⟩ ⟨Q2, qn2, qc2⟩).toArray) hgh).trans hrow)
    have rQ := Lib.hid (setRow_at (cs' := (progC ⟨P2, pn2, pc2⟩ ⟨Q2, qn2, qc2⟩).toArray) hrow2)
    have hBW : Below w3.heap.size w3 (W.setRow h (progC ⟨P2, pn2, pc2⟩ ⟨Q2, qn2, qc2⟩).toArray) := below_set hG hBh _
    have Hp := Lib.hid (hp.soft (SoftS.set (cs' := (progC ⟨P2, pn2, pc2⟩ ⟨Q2, qn2, qc2⟩).toArray) hrow2 hall)).unbare
    have Hp2 := Lib.hid (hp2.soft (SoftS.set (cs' := (progC ⟨P2, pn2, pc2⟩ ⟨Q2, qn2, qc2⟩).toArray) hrow2 hall)).unbare
    have HBW := Lib.hid hBW
    clear hw e0 hG t6' t7' hrow hrow2 hcs2 hBW hBg hBh hgh hp hp2 HC1 HC2 hall
    generalize W.setRow _ _ = W2 at *
    simp only [Act.put]
    have HFx := Lib.hid (fun (V : World) (hb : Below W2.heap.size W2 V) => formed_any d1 x ⟨A, n, c⟩ ⟨E, m, e⟩ V ((Hx3.out.keep HBW.out).keep hb) (HWx.out _ (below_next HB0.out (below_next HBW.out hb))))
    have HFr := Lib.hid (fun (V : World) (hb : Below W2.heap.size W2 V) => refFormed_any d1 x ⟨P1, pn1, pc1⟩ ⟨Q1, qn1, qc1⟩ V (Hp.keep hb))
    have HSm := Lib.hid (fun (V : World) (hb : Below W2.heap.size W2 V) => sameP_any d1 d2 x y A n c E m e A' n' c' E' m' e' V ((Hx3.out.keep HBW.out).keep hb) ((Hy3.out.keep HBW.out).keep hb))
    have HSr := Lib.hid (fun (V : World) (hb : Below W2.heap.size W2 V) => refSameP_any d1 d2 x y P1 pn1 pc1 Q1 qn1 qc1 P2 pn2 pc2 Q2 qn2 qc2 V (Hp.keep hb) (Hp2.keep hb))
    have HSs : Hid (∀ (V : World) (hb : Below W2.heap.size W2 V), Calls Tryz.prog 21 #[.agg #[.slice A n c, .slice E m e], .agg #[.slice A n c, .slice E m e]] V (RetBool true V)) := fun V hb => by
      have h := sameP_any d1 d1 x x A n c E m e A n c E m e V ((Hx3.out.keep HBW.out).keep hb) ((Hx3.out.keep HBW.out).keep hb)
      rw [sameP_refl] at h
      exact h
    have hX2 := (HBW.out.block _ (Array.getElem?_eq_some_iff.1 HrX.out).1).trans HrX.out
    have hY2 := (HBW.out.block _ (Array.getElem?_eq_some_iff.1 HrY.out).1).trans HrY.out
    have k0 := facts2 hX2
    have k1 := facts2 hY2
    have k2 := facts2 rP.out
    have k3 := facts2 rQ.out
    have Hk := Lib.hid (fun (V : World) (h : Below W2.heap.size W2 V) => And.intro (below_cell h k0.1) (And.intro (below_cell h k0.2) (And.intro (below_cell h k1.1) (And.intro (below_cell h k1.2) (And.intro (below_cell h k2.1) (And.intro (below_cell h k2.2) (And.intro (below_cell h k3.1) (below_cell h k3.2))))))))
    have HBl := Lib.hid (below_next HB0.out HBW.out)
    dsimp only [Hd.v] at k0 k1 k2 k3 Hk
    obtain ⟨c0, c1⟩ := k0
    obtain ⟨c2, c3⟩ := k1
    obtain ⟨c4, c5⟩ := k2
    obtain ⟨c6, c7⟩ := k3
    clear hX2 hY2 rP rQ Hp Hp2 HrX HrY HBW HWx Hx3 Hy3 HSx HSy HB0
    generalize formedB x = fb at *
    generalize sameP x y = sb at *
    have hb1 := Below.refl W2.heap.size W2
    go_wp2_with fail
    go_region_held3 (fun w' => w'.cell? ⟨w.heap.size, 0, none⟩ = some (.slice A n c) ∧ w'.cell? ⟨w.heap.size, 1, none⟩ = some (.slice E m e) ∧ w'.cell? ⟨w.heap.size + 1, 0, none⟩ = some (.slice A' n' c') ∧ w'.cell? ⟨w.heap.size + 1, 1, none⟩ = some (.slice E' m' e') ∧ w'.cell? ⟨g, 0, none⟩ = some (.slice P1 pn1 pc1) ∧ w'.cell? ⟨g, 1, none⟩ = some (.slice Q1 qn1 qc1) ∧ w'.cell? ⟨h, 0, none⟩ = some (.slice P2 pn2 pc2) ∧ w'.cell? ⟨h, 1, none⟩ = some (.slice Q2 qn2 qc2))
      (first
        | (refine Hk.out _ ?_; (repeat (first | with_reducible exact Below.refl _ _ | with_reducible assumption | with_reducible refine Below.drew ?_ | with_reducible refine belowA ?_ _)); done)
        | go_keep)
      ((first
        | (go_at_call 14
           refine (HFx.out _ (by repeat (first | with_reducible exact Below.refl _ _ | with_reducible assumption | with_reducible refine Below.drew ?_ | with_reducible refine belowA ?_ _))).mono ?_
           rintro r wN ⟨rfl, hq1⟩
           have hb1 : Below W2.heap.size W2 wN := by
             refine below_next ?_ hq1
             repeat (first | with_reducible exact Below.refl _ _ | with_reducible assumption | with_reducible refine Below.drew ?_ | with_reducible refine belowA ?_ _)
           clear hq1)
        | (go_at_call 20
           refine (HFr.out _ (by repeat (first | with_reducible exact Below.refl _ _ | with_reducible assumption | with_reducible refine Below.drew ?_ | with_reducible refine belowA ?_ _))).mono ?_
           rintro r wN ⟨rfl, hq1⟩
           have hb1 : Below W2.heap.size W2 wN := by
             refine below_next ?_ hq1
             repeat (first | with_reducible exact Below.refl _ _ | with_reducible assumption | with_reducible refine Below.drew ?_ | with_reducible refine belowA ?_ _)
           clear hq1)
        | (go_at_call 22
           refine (HSr.out _ (by repeat (first | with_reducible exact Below.refl _ _ | with_reducible assumption | with_reducible refine Below.drew ?_ | with_reducible refine belowA ?_ _))).mono ?_
           rintro r wN ⟨rfl, hq1⟩
           have hb1 : Below W2.heap.size W2 wN := by
             refine below_next ?_ hq1
             repeat (first | with_reducible exact Below.refl _ _ | with_reducible assumption | with_reducible refine Below.drew ?_ | with_reducible refine belowA ?_ _)
           clear hq1)
        | (go_at_call 21
           first
             | (have hS2 := hS1
                refine (HSs.out _ (by repeat (first | with_reducible exact Below.refl _ _ | with_reducible assumption | with_reducible refine Below.drew ?_ | with_reducible refine belowA ?_ _))).mono ?_
                rintro r wN ⟨rfl, hq1⟩
                have hb1 : Below W2.heap.size W2 wN := by
                  refine below_next ?_ hq1
                  repeat (first | with_reducible exact Below.refl _ _ | with_reducible assumption | with_reducible refine Below.drew ?_ | with_reducible refine belowA ?_ _)
                clear hq1)
             | (refine (HSm.out _ (by repeat (first | with_reducible exact Below.refl _ _ | with_reducible assumption | with_reducible refine Below.drew ?_ | with_reducible refine belowA ?_ _))).mono ?_
                rintro r wN ⟨rfl, hq1⟩
                have hb1 : Below W2.heap.size W2 wN := by
                  refine below_next ?_ hq1
                  repeat (first | with_reducible exact Below.refl _ _ | with_reducible assumption | with_reducible refine Below.drew ?_ | with_reducible refine belowA ?_ _)
                clear hq1
                have hS1 : True := trivial))))
    go_wp2_with fail
    go_ret
    exact ⟨rfl, below_next HBl.out hb1⟩
end Go.Proofs.YtiffmiabhapfnaaGreatDoor

/- The frame of the rows on values: opening the arguments, the tables, a start that fits. -/
namespace Go.Proofs.YtiffmiabhapfnaaGreatDoor
open Go.ChangeShapes Go.WideShapes Go.ChangeAt Go.RowKit
set_option linter.unusedVariables false

theorem own : ownKnob Tryz.prog.godebug = none := by kernel_rfl
theorem laidOut : laidOutB Tryz.prog = true := by kernel_rfl
theorem u_bool : Tryz.prog.underlying 4 = some .bool := by kernel_rfl

def laid {H : Type} : List (String × DataW H) := [("math/bits.deBruijn32tab", Rows.laid_math_bits_deBruijn32tab), ("math/bits.deBruijn64tab", Rows.laid_math_bits_deBruijn64tab), ("internal/strconv.uint64pow10", Rows.laid_internal_strconv_uint64pow10)]

theorem gP : Tryz.prog.globalNamed "internal/strconv.uint64pow10" = some 5 := by kernel_rfl
theorem gPT : (Tryz.prog.globals[5]?).map (·.type) = some 212 := by kernel_rfl
theorem pow_eq : (Rows.laid_internal_strconv_uint64pow10 : DataW Unit) = Lib.tabData .u64 Lib.pow10Tab := by kernel_rfl
theorem tab_of_laid {W : World} (h : laidMet Tryz.prog laid W) : TabW W :=
  TabW.of (Lib.tabIs_of_head gP gPT Tryz.underlying212 Tryz.underlying194 (by kernel_rfl) (by kernel_rfl) (rest := []) (by rw [← pow_eq]; exact laidMet.tail (laidMet.tail h)))

/-- a value as an argument -/
theorem open_value {H : Type} {enc : TypeId × Value → H} {P : Program} {w : World} {t : TypeId} {v : Value} {d : DataW H} {p : List MemPlace} {r : Reach} {b0 : Nat} {fs : Array Field} (hs : P.underlying t = some (.struct fs)) (hz : P.cellsOf t = 3) (ho : Opens P t Enc.val)
    (hval : Value.okWide P w r b0 t v) (h : DataW.Trod enc P w 0 (fun _ => true) true t v d p) (hwt : ∀ n ∈ d.weights P t, n ≤ reachBytes) :
    ∃ x : GV, v = x.v := by
  obtain ⟨cs, rfl, hsz⟩ := okWide_struct hs hval
  obtain ⟨fuel, hx⟩ := h
  obtain ⟨x, hx, -⟩ := ho H enc w fuel _ _ hx hwt
  refine ⟨x, ?_⟩
  have : cs = #[.int .i64 x.k, .int .i64 x.n, .string x.s] := by
    cases cs; simpa [Value.cells] using hx
  rw [this]
theorem open_value' {H : Type} {enc : TypeId × Value → H} {P : Program} {w : World} {t : TypeId} {v : Value} {d : DataW H} {p : List MemPlace} {r : Reach} {b0 : Nat} {fs : Array Field} (hs : P.underlying t = some (.struct fs)) (hz : P.cellsOf t = 3) (ho : Opens P t Enc.val)
    (hval : Value.okWide P w r b0 t v) (h : DataW.Trod enc P w 0 (fun _ => true) true t v d p) (hwt : ∀ n ∈ d.weights P t, n ≤ reachBytes) :
    ∃ x : GV, v = x.v ∧ x.ok := by
  obtain ⟨cs, rfl, hsz⟩ := okWide_struct hs hval
  obtain ⟨fuel, hx⟩ := h
  obtain ⟨x, hx, hok⟩ := ho H enc w fuel _ _ hx hwt
  refine ⟨x, ?_, hok⟩
  have : cs = #[.int .i64 x.k, .int .i64 x.n, .string x.s] := by
    cases cs; simpa [Value.cells] using hx
  rw [this]
theorem open_str' {H : Type} {enc : TypeId × Value → H} {P : Program} {w : World} {t : TypeId} {v : Value} {d : DataW H} {p : List MemPlace} {r : Reach} {b0 : Nat} (hs : P.underlying t = some .string) (hval : Value.okWide P w r b0 t v)
    (h : DataW.Trod enc P w 0 (fun _ => true) true t v d p) (hwt : ∀ n ∈ d.weights P t, n ≤ reachBytes) : ∃ s : ByteArray, v = .string s ∧ s.size ≤ reachN := by
  obtain ⟨fuel, hx⟩ := h
  obtain ⟨s0, rfl⟩ := okWide_string hs hval
  obtain ⟨s, e, hok⟩ := opens_str hs H enc w fuel _ _ hx hwt
  simp [Value.cells] at e
  subst e
  exact ⟨_, rfl, hok⟩
theorem open_int' {H : Type} {enc : TypeId × Value → H} {P : Program} {w : World} {t : TypeId} {v : Value} {d : DataW H} {p : List MemPlace} {r : Reach} {b0 : Nat} {k : IntKind} (hs : P.underlying t = some (.int k)) (hval : Value.okWide P w r b0 t v)
    (h : DataW.Trod enc P w 0 (fun _ => true) true t v d p) : ∃ n : Int, v = .int k n ∧ (Lit.int k n).wf = true := by
  obtain ⟨n, rfl, -, -, hw⟩ := open_int hs hval h
  exact ⟨n, rfl, hw⟩
theorem o_val : Opens Tryz.prog 24 Enc.val := opens_val (a := 22) (b := 3) (c := 9) (by kernel_rfl) (by kernel_rfl) (by kernel_rfl) (by kernel_rfl) (by kernel_rfl)
theorem z_val : Tryz.prog.cellsOf 24 = 3 := by kernel_rfl
theorem u_val : ∃ fs, Tryz.prog.underlying 24 = some (.struct fs) := ⟨_, Tryz.underlying24⟩


/-- a start that fits: the settled world, the three tables laid -/
noncomputable def laidWorld (os : Os) : World :=
  let w0 := World.holding Tryz.prog os ⟨#[], #[], []⟩
  let put (h : Array Obj) (g : Nat) (cs : Array Value) : Array Obj := h.modify g fun
    | .cells _ t frozen => .cells cs t frozen
    | o => o
  let tab (d : DataW Unit) : Array Value := match d with
    | .agg l => (l.map fun | .lit (.int k n) => Value.int k n | _ => undef).toArray
    | _ => #[]
  let h1 := put w0.heap 6 (tab Rows.laid_math_bits_deBruijn32tab)
  let h2 := put h1 7 (tab Rows.laid_math_bits_deBruijn64tab)
  let h3 := put h2 5 (tab Rows.laid_internal_strconv_uint64pow10)
  { w0 with heap := h3 }
set_option maxRecDepth 100000 in
theorem laidWorld_met (os : Os) (args : Array Value) : laidMet Tryz.prog laid ((laidWorld os).forCall (fun _ _ => 0) ⟨#[], args, []⟩).memory :=
  laidMet_of_run' 8 (by kernel_rfl) (by kernel_rfl)
end Go.Proofs.YtiffmiabhapfnaaGreatDoor

/- The frame of the rows that list the two errors of strconv besides the three tables. -/
namespace Go.Proofs.YtiffmiabhapfnaaGreatDoor
open Go.ChangeShapes Go.WideShapes Go.ChangeAt Go.RowKit
set_option linter.unusedVariables false

theorem open_u32' {H : Type} {enc : TypeId × Value → H} {P : Program} {w : World} {t : TypeId} {v : Value} {d : DataW H} {p : List MemPlace} {r : Reach} {b0 : Nat} (hs : P.underlying t = some (.int .u32)) (hval : Value.okWide P w r b0 t v)
    (h : DataW.Trod enc P w 0 (fun _ => true) true t v d p) : ∃ n : Nat, v = .int .u32 n ∧ n < 4294967296 := by
  obtain ⟨n, rfl, hw⟩ := open_int' hs hval h
  have hw' : 0 ≤ n ∧ n < 4294967296 := by
    simp [Lit.wf, IntKind.min, IntKind.max, IntKind.signed, IntKind.bits] at hw; omega
  exact ⟨n.toNat, by congr 1; omega, by omega⟩
def laidE {H : Type} : List (String × DataW H) := [("math/bits.deBruijn32tab", Rows.laid_math_bits_deBruijn32tab), ("math/bits.deBruijn64tab", Rows.laid_math_bits_deBruijn64tab), ("internal/strconv.uint64pow10", Rows.laid_internal_strconv_uint64pow10), ("strconv.ErrRange", Rows.laid_strconv_ErrRange), ("strconv.ErrSyntax", Rows.laid_strconv_ErrSyntax)]

theorem tab_of_laidE {W : World} (h : laidMet Tryz.prog laidE W) : TabW W :=
  TabW.of (Lib.tabIs_of_head gP gPT Tryz.underlying212 Tryz.underlying194 (by kernel_rfl) (by kernel_rfl) (rest := [("strconv.ErrRange", Rows.laid_strconv_ErrRange), ("strconv.ErrSyntax", Rows.laid_strconv_ErrSyntax)]) (by rw [← pow_eq]; exact laidMet.tail (laidMet.tail h)))

theorem gER : Tryz.prog.globalNamed "strconv.ErrRange" = some 4 := by kernel_rfl
theorem gERT : (Tryz.prog.globals[4]?).map (·.type) = some 80 := by kernel_rfl
theorem gES : Tryz.prog.globalNamed "strconv.ErrSyntax" = some 3 := by kernel_rfl
theorem gEST : (Tryz.prog.globals[3]?).map (·.type) = some 80 := by kernel_rfl
theorem cellsES : Tryz.prog.cellsOf 210 = 1 := by kernel_rfl
theorem cellsStr : Tryz.prog.cellsOf 9 = 1 := by kernel_rfl
theorem starES : "*" ++ "errors.errorString" = "*errors.errorString" := by decide
theorem rowES (u : TypeId) (h : Tryz.prog.typeName? 3 u = some "*errors.errorString") : u = 208 :=
  typeName_ptr_named (nm := "errors.errorString") (by rw [starES]; kernel_rfl) (by kernel_rfl) (by decide) u (by rw [starES]; exact h)
theorem err_of_laidE {W : World} (h : laidMet Tryz.prog laidE W) : ErrW W := by
  have h3 := laidMet.tail (laidMet.tail (laidMet.tail h))
  obtain ⟨a0, s0, hv0, -, -, -⟩ := laid_sentinel h3 gER gERT Tryz.underlying80 rowES Tryz.underlying208 Tryz.underlying210 rfl rfl Tryz.underlying9 cellsES cellsStr
  obtain ⟨a1, s1, hv1, -, -, -⟩ := laid_sentinel (laidMet.tail h3) gES gEST Tryz.underlying80 rowES Tryz.underlying208 Tryz.underlying210 rfl rfl Tryz.underlying9 cellsES cellsStr
  exact ⟨⟨_, _, by have h0 := World.var?_cell gES hv1 0; simpa using h0⟩, ⟨_, _, by have h0 := World.var?_cell gER hv0 0; simpa using h0⟩⟩

abbrev synS : ByteArray := { data := #[105, 110, 118, 97, 108, 105, 100, 32, 115, 121, 110, 116, 97, 120] }
abbrev rngS : ByteArray := { data := #[118, 97, 108, 117, 101, 32, 111, 117, 116, 32, 111, 102, 32, 114, 97, 110, 103, 101] }
noncomputable def low : Nat := (World.holding Tryz.prog default ⟨#[], #[], []⟩).heap.size
noncomputable def laidWorldE (os : Os) : World :=
  let w0 := World.holding Tryz.prog os ⟨#[.cells #[.string synS] 210, .cells #[.string rngS] 210], #[], []⟩
  let put (h : Array Obj) (g : Nat) (cs : Array Value) : Array Obj := h.modify g fun
    | .cells _ t frozen => .cells cs t frozen
    | o => o
  let tab (d : DataW Unit) : Array Value := match d with
    | .agg l => (l.map fun | .lit (.int k n) => Value.int k n | _ => undef).toArray
    | _ => #[]
  let h1 := put w0.heap 6 (tab Rows.laid_math_bits_deBruijn32tab)
  let h2 := put h1 7 (tab Rows.laid_math_bits_deBruijn64tab)
  let h3 := put h2 5 (tab Rows.laid_internal_strconv_uint64pow10)
  let h4 := put h3 3 #[.iface 208 (.pointer (some ⟨low, 0, none⟩))]
  let h5 := put h4 4 #[.iface 208 (.pointer (some ⟨low + 1, 0, none⟩))]
  { w0 with heap := h5 }
set_option maxRecDepth 100000 in
theorem laidWorldE_met (os : Os) (args : Array Value) : laidMet Tryz.prog laidE ((laidWorldE os).forCall (fun _ _ => 0) ⟨#[], args, []⟩).memory :=
  laidMet_of_run' 8 (by kernel_rfl) (by kernel_rfl)
end Go.Proofs.YtiffmiabhapfnaaGreatDoor

/- The frame of the rows on tokens: the three tables and two errors of the library, and the program's own two lists. -/
namespace Go.Proofs.YtiffmiabhapfnaaGreatDoor
open Go.ChangeShapes Go.WideShapes Go.ChangeAt Go.RowKit
set_option linter.unusedVariables false

def laidL {H : Type} : List (String × DataW H) := [("math/bits.deBruijn32tab", Rows.laid_math_bits_deBruijn32tab), ("math/bits.deBruijn64tab", Rows.laid_math_bits_deBruijn64tab), ("internal/strconv.uint64pow10", Rows.laid_internal_strconv_uint64pow10), ("strconv.ErrRange", Rows.laid_strconv_ErrRange), ("strconv.ErrSyntax", Rows.laid_strconv_ErrSyntax), ("corollary/lex.keys", Rows.laid_corollary_lex_keys), ("corollary/lex.signs", Rows.laid_corollary_lex_signs)]

/-- a list of texts as laid data -/
def strsData {H : Type} (L : List (List UInt8)) : DataW H := .agg (L.map fun l => .lit (.string l))
theorem cells_of_strs {H : Type} {enc : TypeId × Value → H} {P : Program} {w : World} {base : Nat} {sp : Nat → Bool} {held : Bool} {fuel : Nat} {t e : TypeId} {n : Nat} {cs : List Value} {L : List (List UInt8)} {p : List MemPlace}
    (ht : P.underlying t = some (.array n e)) (he : P.underlying e = some .string) (hce : P.cellsOf e = 1) (hct : P.cellsOf t = n)
    (h : DataW.trod enc P w base sp held fuel t cs = some (strsData L, p)) : cs = L.map fun l => Value.string (bytes l) := by
  cases fuel with
  | zero => simp [DataW.trod] at h
  | succ fuel =>
    simp only [DataW.trod, ht, hce, hct, Nat.mul_one] at h
    split at h
    · rename_i hl
      obtain ⟨xs, hm, hx⟩ := Option.map_eq_some_iff.1 h
      have hxs : xs.map (·.1) = L.map fun l => (DataW.lit (.string l) : DataW H) := by
        have := congrArg Prod.fst hx
        simpa [strsData] using this
      have hxl : xs.length = n := by simpa using Lib.mapM_length hm
      have hzl : L.length = n := by
        have := congrArg List.length hxs
        simp at this
        omega
      apply List.ext_getElem?
      intro i
      by_cases hi : i < n
      · obtain ⟨b, hb, hf⟩ := Lib.mapM_at hm i i (by simp [hi])
        obtain ⟨z, hc, rfl, _⟩ := DataW.trod_string he hf
        have h1 : cs[i]? = some (.string z) := by
          have := congrArg (·[0]?) hc
          simpa [List.getElem?_take, List.getElem?_drop] using this
        have h2 : (xs.map (·.1))[i]? = some (DataW.lit (.string z.data.toList) : DataW H) := by simp [hb]
        rw [hxs] at h2
        simp only [List.getElem?_map, Option.map_eq_some_iff, DataW.lit.injEq, Lit.string.injEq] at h2
        obtain ⟨z', hz', hzz⟩ := h2
        have e1 : bytes z' = z := by rw [hzz]; rfl
        simp [h1, hz', e1]
      · rw [List.getElem?_eq_none (by omega), List.getElem?_eq_none (by simp; omega)]
    · cases h
theorem strs_of_head {P : Program} {W : World} {name : String} {L : List (List UInt8)} {rest : List (String × DataW Unit)} {g : Nat} {t e : TypeId} {n : Nat}
    (hg : P.globalNamed name = some g) (hty : (P.globals[g]?).map (·.type) = some t) (ht : P.underlying t = some (.array n e)) (he : P.underlying e = some .string) (hce : P.cellsOf e = 1) (hct : P.cellsOf t = n)
    (h : laidMet P ((name, strsData L) :: rest) W) : StrsW g L W := by
  obtain ⟨ps, ⟨g', t', cs, fuel, p, q, hg', ht', hvar, hd, _, _⟩, _⟩ := h
  obtain rfl := Option.some.inj (hg.symm.trans hg')
  obtain rfl := Option.some.inj (hty.symm.trans ht')
  have e1 := cells_of_strs ht he hce hct hd
  simp only [World.var?, hg, Option.bind_some] at hvar
  split at hvar
  · rename_i c t2 fr hb
    injection hvar with hvar
    refine ⟨t2, fr, hb.trans ?_⟩
    rw [hvar, ← e1]
  · cases hvar
theorem keys_eq {H : Type} : (Rows.laid_corollary_lex_keys : DataW H) = strsData keysL := rfl
theorem signs_eq {H : Type} : (Rows.laid_corollary_lex_signs : DataW H) = strsData signsL := rfl
theorem gK : Tryz.prog.globalNamed "corollary/lex.keys" = some 1 := by kernel_rfl
theorem gKT : (Tryz.prog.globals[1]?).map (·.type) = some 170 := by kernel_rfl
theorem gS : Tryz.prog.globalNamed "corollary/lex.signs" = some 0 := by kernel_rfl
theorem gST : (Tryz.prog.globals[0]?).map (·.type) = some 162 := by kernel_rfl
abbrev restL : List (String × DataW Unit) := [("strconv.ErrRange", Rows.laid_strconv_ErrRange), ("strconv.ErrSyntax", Rows.laid_strconv_ErrSyntax), ("corollary/lex.keys", Rows.laid_corollary_lex_keys), ("corollary/lex.signs", Rows.laid_corollary_lex_signs)]
theorem lexW_of_laidL {W : World} (h : laidMet Tryz.prog laidL W) : LexW W := by
  have h3 := laidMet.tail (laidMet.tail (laidMet.tail h))
  have h5 := laidMet.tail (laidMet.tail h3)
  have h6 := laidMet.tail h5
  refine ⟨TabW.of (Lib.tabIs_of_head gP gPT Tryz.underlying212 Tryz.underlying194 (by kernel_rfl) (by kernel_rfl) (rest := restL) (by rw [← pow_eq]; exact laidMet.tail (laidMet.tail h))), ?_, ?_, ?_⟩
  · obtain ⟨a0, s0, hv0, -, -, -⟩ := laid_sentinel h3 gER gERT Tryz.underlying80 rowES Tryz.underlying208 Tryz.underlying210 rfl rfl Tryz.underlying9 cellsES cellsStr
    obtain ⟨a1, s1, hv1, -, -, -⟩ := laid_sentinel (laidMet.tail h3) gES gEST Tryz.underlying80 rowES Tryz.underlying208 Tryz.underlying210 rfl rfl Tryz.underlying9 cellsES cellsStr
    exact ⟨⟨_, _, by have h0 := World.var?_cell gES hv1 0; simpa using h0⟩, ⟨_, _, by have h0 := World.var?_cell gER hv0 0; simpa using h0⟩⟩
  · rw [keys_eq] at h5
    exact strs_of_head gK gKT Tryz.underlying170 Tryz.underlying9 (by kernel_rfl) (by kernel_rfl) h5
  · rw [signs_eq] at h6
    exact strs_of_head gS gST Tryz.underlying162 Tryz.underlying9 (by kernel_rfl) (by kernel_rfl) h6
noncomputable def laidWorldL (os : Os) : World :=
  let w0 := World.holding Tryz.prog os ⟨#[.cells #[.string synS] 210, .cells #[.string rngS] 210], #[], []⟩
  let put (h : Array Obj) (g : Nat) (cs : Array Value) : Array Obj := h.modify g fun
    | .cells _ t frozen => .cells cs t frozen
    | o => o
  let tab (d : DataW Unit) : Array Value := match d with
    | .agg l => (l.map fun | .lit (.int k n) => Value.int k n | .lit (.string s) => Value.string ⟨s.toArray⟩ | _ => undef).toArray
    | _ => #[]
  let h1 := put w0.heap 6 (tab Rows.laid_math_bits_deBruijn32tab)
  let h2 := put h1 7 (tab Rows.laid_math_bits_deBruijn64tab)
  let h3 := put h2 5 (tab Rows.laid_internal_strconv_uint64pow10)
  let h4 := put h3 3 #[.iface 208 (.pointer (some ⟨low, 0, none⟩))]
  let h5 := put h4 4 #[.iface 208 (.pointer (some ⟨low + 1, 0, none⟩))]
  let h6 := put h5 1 (tab Rows.laid_corollary_lex_keys)
  let h7 := put h6 0 (tab Rows.laid_corollary_lex_signs)
  { w0 with heap := h7 }
set_option maxRecDepth 100000 in
theorem laidWorldL_met (os : Os) (args : Array Value) : laidMet Tryz.prog laidL ((laidWorldL os).forCall (fun _ _ => 0) ⟨#[], args, []⟩).memory :=
  laidMet_of_run' 8 (by kernel_rfl) (by kernel_rfl)
end Go.Proofs.YtiffmiabhapfnaaGreatDoor

/- The frame of the rows on expressions and programs: how such arguments are read. -/
namespace Go.Proofs.YtiffmiabhapfnaaGreatDoor
open Go.RowKit Go.WideShapes

theorem open_encB {α : Type} {E : Nat → Enc α} {H : Type} {enc : TypeId × Value → H} {P : Program} {w : World} {t : TypeId} {v : Value} {d : DataW H} {p : List MemPlace} {r : Reach} {b0 : Nat} (hs : ∃ fs, P.underlying t = some (.struct fs)) (ho : ∀ N, OpensB N P t (E N))
    (hval : Value.okWide P w r b0 t v) (h : DataW.Trod enc P w 0 (fun _ => true) true t v d p) (hwt : ∀ n ∈ d.weights P t, n ≤ reachBytes) : ∃ (N : Nat) (x : α) (cs : List Value), v = .agg cs.toArray ∧ (E N).ok w w.heap.size cs x := by
  obtain ⟨fs, hs⟩ := hs
  obtain ⟨cs, rfl, hsz⟩ := okWide_struct hs hval
  obtain ⟨fuel, hx⟩ := h
  obtain ⟨y, hy⟩ := ho fuel _ _ _ fuel _ _ (Nat.le_refl _) hx hwt
  obtain ⟨cs⟩ := cs
  exact ⟨fuel, y, cs, rfl, by simpa [Value.cells] using hy⟩
theorem o_val2 : Opens Tryz.prog 24 Enc.val := opens_val (a := 22) (b := 3) (c := 9) (by kernel_rfl) (by kernel_rfl) Tryz.underlying22 Tryz.underlying3 Tryz.underlying9
theorem o_term : Opens Tryz.prog 26 Enc.told := opens_told (a := 9) (b := 24) (by kernel_rfl) (by kernel_rfl) Tryz.underlying9 o_val2
theorem o_exp (N : Nat) : OpensB N Tryz.prog 29 (Enc.exp (N + 1)) := opens_exp (a := 3) (b := 26) (c := 27) (by kernel_rfl) (by kernel_rfl) (of_decide_eq_true (by kernel_rfl)) Tryz.underlying3 o_term Tryz.underlying27 N
theorem u_exp : ∃ fs, Tryz.prog.underlying 29 = some (.struct fs) := ⟨_, Tryz.underlying29⟩
theorem o_terms : Opens Tryz.prog 51 (Enc.slice Enc.told) := opens_slice Tryz.underlying51 o_term (by kernel_rfl) (by show 0 < _; decide) (of_decide_eq_true (by kernel_rfl))
theorem o_lit (N : Nat) : OpensB N Tryz.prog 63 (Enc.lit N) := opens_lit (k := 61) (at_ := 53) (o := 3) (e := 29) (s := 9) (al := 51) (by kernel_rfl) (by kernel_rfl) Tryz.underlying61 Tryz.underlying3 (by kernel_rfl) (by kernel_rfl) Tryz.underlying9 o_terms (o_exp N)
theorem o_lits (N : Nat) : OpensB N Tryz.prog 54 (Enc.slice (Enc.lit N)) := opensB_slice' Tryz.underlying54 (o_lit N) (by show _ = 17; kernel_rfl) (show 0 < 17 by decide) (of_decide_eq_true (by kernel_rfl))
theorem o_rule (N : Nat) : OpensB N Tryz.prog 56 (Enc.rule N) := opens_rule (at_ := 53) (o := 3) (lt := 54) (s := 9) (al := 51) (by kernel_rfl) (by kernel_rfl) Tryz.underlying3 (by kernel_rfl) (by kernel_rfl) Tryz.underlying9 o_terms (o_lits N)
theorem o_rules (N : Nat) : OpensB N Tryz.prog 46 (Enc.slice (Enc.rule N)) := opensB_slice' Tryz.underlying46 (o_rule N) (by show _ = 6; kernel_rfl) (show 0 < 6 by decide) (of_decide_eq_true (by kernel_rfl))
theorem o_kind : Opens Tryz.prog 22 Enc.int := opens_int Tryz.underlying22
theorem o_kinds : Opens Tryz.prog 87 (Enc.slice Enc.int) := opens_slice Tryz.underlying87 o_kind (by kernel_rfl) (by show 0 < _; decide) (of_decide_eq_true (by kernel_rfl))
theorem o_decl : Opens Tryz.prog 89 Enc.decl := opens_decl (s := 9) (k := 87) (o := 3) (by kernel_rfl) (by kernel_rfl) Tryz.underlying9 o_kinds Tryz.underlying3
theorem o_decls : Opens Tryz.prog 45 (Enc.slice Enc.decl) := opens_slice Tryz.underlying45 o_decl (by kernel_rfl) (by show 0 < _; decide) (of_decide_eq_true (by kernel_rfl))
theorem o_prog (N : Nat) : OpensB N Tryz.prog 48 (Enc.prog N) := opens_prog (a := 45) (b := 46) (by kernel_rfl) (by kernel_rfl) o_decls (o_rules N)
theorem u_prog : ∃ fs, Tryz.prog.underlying 48 = some (.struct fs) := ⟨_, Tryz.underlying48⟩
end Go.Proofs.YtiffmiabhapfnaaGreatDoor
