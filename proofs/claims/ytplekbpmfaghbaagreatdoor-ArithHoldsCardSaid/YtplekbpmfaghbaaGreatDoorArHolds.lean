/- ArithHolds: the walk. -/
import Derived.Test.YtplekbpmfaghbaaGreatDoorArAl
import Derived.Test.YtplekbpmfaghbaaGreatDoorArRH
import Derived.Test.YtplekbpmfaghbaaGreatDoorArRE
import Derived.Deep.RegionHeld3
namespace Go.Proofs.YtplekbpmfaghbaaGreatDoor
open Go.RowKit

theorem two_told {W : World} {b : Nat} {T : TypeId} {s1 s2 : ByteArray} {u v : GV} (h : W.heap[b]? = some (.cells #[.string s1, .int .i64 u.k, .int .i64 u.n, .string u.s, .string s2, .int .i64 v.k, .int .i64 v.n, .string v.s] T (0, 0))) (h1 : s1.size ≤ reachN) (h2 : s2.size ≤ reachN) (hu : u.ok) (hv : v.ok) :
    SliceIs Enc.told W W.heap.size (some ⟨b, 0, none⟩) 2 2 [⟨s1, u⟩, ⟨s2, v⟩] := by
  refine SliceIs.of_block (E := Enc.told) (l := [⟨s1, u⟩, ⟨s2, v⟩]) GTold.cells (fun _ => rfl) h rfl (by simp [reachN]) (fun t ht => ?_)
  simp only [List.mem_cons, List.not_mem_nil, or_false] at ht
  rcases ht with rfl | rfl
  · exact ⟨rfl, h1, hu⟩
  · exact ⟨rfl, h2, hv⟩

set_option maxRecDepth 100000 in
set_option maxHeartbeats 8000000 in
theorem arithHolds_walk (op : Int) (a b : GV) (t : GTold) (hoa : a.ok) (hob : b.ok) (hx : t.x.size ≤ reachN) (hv : t.v.ok) (w : World) (hW : ParW w) :
    Calls Tryz.prog 7 #[.int .i64 op, .agg #[.int .i64 a.k, .int .i64 a.n, .string a.s, .int .i64 b.k, .int .i64 b.n, .string b.s], .agg #[.string t.x, .int .i64 t.v.k, .int .i64 t.v.n, .string t.v.s]] w (RetBool true w) := by
  have mixed : Tryz.prog.follows .mixedOrders = true := by kernel_rfl
  have hba : Below w.heap.size w ((w.alloc (.cells #[.int .i64 a.k, .int .i64 a.n, .string a.s, .int .i64 b.k, .int .i64 b.n, .string b.s] 113)).alloc (.cells #[.string t.x, .int .i64 t.v.k, .int .i64 t.v.n, .string t.v.s] 33)) := belowA (belowA (Below.refl _ _) _) _
  have hr1 : ((w.alloc (.cells #[.int .i64 a.k, .int .i64 a.n, .string a.s, .int .i64 b.k, .int .i64 b.n, .string b.s] 113)).alloc (.cells #[.string t.x, .int .i64 t.v.k, .int .i64 t.v.n, .string t.v.s] 33)).heap[w.heap.size]? = some (.cells #[.int .i64 a.k, .int .i64 a.n, .string a.s, .int .i64 b.k, .int .i64 b.n, .string b.s] 113 (0, 0)) := heapOld (heapNew rfl)
  have hr2 : ((w.alloc (.cells #[.int .i64 a.k, .int .i64 a.n, .string a.s, .int .i64 b.k, .int .i64 b.n, .string b.s] 113)).alloc (.cells #[.string t.x, .int .i64 t.v.k, .int .i64 t.v.n, .string t.v.s] 33)).heap[w.heap.size + 1]? = some (.cells #[.string t.x, .int .i64 t.v.k, .int .i64 t.v.n, .string t.v.s] 33 (0, 0)) := heapNew (by simp)
  have HA := Lib.hid (alive13_any _ (hW.on hba))
  have HF : Hid (∀ W, Below ((w.alloc (.cells #[.int .i64 a.k, .int .i64 a.n, .string a.s, .int .i64 b.k, .int .i64 b.n, .string b.s] 113)).alloc (.cells #[.string t.x, .int .i64 t.v.k, .int .i64 t.v.n, .string t.v.s] 33)).heap.size ((w.alloc (.cells #[.int .i64 a.k, .int .i64 a.n, .string a.s, .int .i64 b.k, .int .i64 b.n, .string b.s] 113)).alloc (.cells #[.string t.x, .int .i64 t.v.k, .int .i64 t.v.n, .string t.v.s] 33)) W → W.heap[w.heap.size]? = some (.cells #[.int .i64 a.k, .int .i64 a.n, .string a.s, .int .i64 b.k, .int .i64 b.n, .string b.s] 113 (0, 0)) ∧ W.heap[w.heap.size + 1]? = some (.cells #[.string t.x, .int .i64 t.v.k, .int .i64 t.v.n, .string t.v.s] 33 (0, 0))) :=
    fun W h => ⟨(h.block _ (Array.getElem?_eq_some_iff.1 hr1).1).trans hr1, (h.block _ (Array.getElem?_eq_some_iff.1 hr2).1).trans hr2⟩
  have HB := Lib.hid hba
  have Hv := Lib.hid hv
  have Hoa := Lib.hid hoa
  have Hob := Lib.hid hob
  have z1 : a.s.size ≤ 140737488351232 := hoa.2.2
  have z2 : b.s.size ≤ 140737488351232 := hob.2.2
  have z3 : t.x.size ≤ 140737488351232 := hx
  have z4 : t.v.s.size ≤ 140737488351232 := hv.2.2
  have HH := Lib.hid (fun W => holds_any op a b W)
  have HR := Lib.hid (fun W => refHolds_any op a b hoa hob W)
  unfold RetBE at HH HR
  generalize holdsS op a b = q at *
  obtain ⟨qb, qe⟩ := q
  dsimp only at HH HR
  clear hba hr1 hr2 hW hx hv hoa hob
  generalize hwb : ((w.alloc (.cells #[.int .i64 a.k, .int .i64 a.n, .string a.s, .int .i64 b.k, .int .i64 b.n, .string b.s] 113)).alloc (.cells #[.string t.x, .int .i64 t.v.k, .int .i64 t.v.n, .string t.v.s] 33)) = wb at *
  go_enter Tryz.func7, Tryz.ntmps7
  go_wp2_with fail
  try simp only [hwb]
  clear hwb
  go_wp2_with fail
  refine HA.out.mono ?_
  rintro e w1 ⟨rfl, hb1⟩
  have HB1 := Lib.hid hb1
  obtain ⟨rr1, rr2⟩ := HF.out _ hb1
  obtain ⟨p0, p1, p2, p3, p4, p5⟩ := facts6 rr1
  obtain ⟨t0, t1, t2, t3⟩ := facts4 rr2
  clear hb1 rr1 rr2
  by_cases hlong : 1000 < a.s.size + b.s.size + t.x.size + t.v.s.size
  · have i0 : (1000 : Int) < (a.s.size : Int) + (b.s.size : Int) + (t.x.size : Int) + (t.v.s.size : Int) := by omega
    clear HH HR
    go_wp2_with fail
    go_ret
    exact ⟨rfl, below_next HB.out HB1.out⟩
  have i0 : ¬ (1000 : Int) < (a.s.size : Int) + (b.s.size : Int) + (t.x.size : Int) + (t.v.s.size : Int) := by omega
  go_wp2_with fail
  refine (HH.out _).mono ?_
  rintro e w2 ⟨rfl, hb2⟩
  have HB2 := Lib.hid (below_next HB1.out hb2)
  obtain ⟨rr1, rr2⟩ := HF.out _ HB2.out
  obtain ⟨q0, q1, q2, q3, q4, q5⟩ := facts6 rr1
  clear hb2 rr1 rr2 p0 p1 p2 p3 p4 p5 t0 t1 t2 t3
  go_wp2_with fail
  refine (HR.out _).mono ?_
  rintro e w3 ⟨rfl, hb3⟩
  have HB3 := Lib.hid (below_next HB2.out hb3)
  obtain ⟨rr1, rr2⟩ := HF.out _ HB3.out
  obtain ⟨p0, p1, p2, p3, p4, p5⟩ := facts6 rr1
  clear hb3 rr1 rr2 q0 q1 q2 q3 q4 q5 HA
  have hrL : (w3.alloc (.cells #[.string ⟨#[88]⟩, .int .i64 a.k, .int .i64 a.n, .string a.s, .string ⟨#[89]⟩, .int .i64 b.k, .int .i64 b.n, .string b.s] 119)).heap[w3.heap.size]? = some (.cells #[.string ⟨#[88]⟩, .int .i64 a.k, .int .i64 a.n, .string a.s, .string ⟨#[89]⟩, .int .i64 b.k, .int .i64 b.n, .string b.s] 119 (0, 0)) := heapNew rfl
  have hlL := two_told hrL (by simp [reachN, ByteArray.size]) (by simp [reachN, ByteArray.size]) Hoa.out Hob.out
  have HB4 := Lib.hid (belowA HB3.out (.cells #[.string ⟨#[88]⟩, .int .i64 a.k, .int .i64 a.n, .string a.s, .string ⟨#[89]⟩, .int .i64 b.k, .int .i64 b.n, .string b.s] 119))
  have HLs := Lib.hid hlL
  clear hrL hlL
  go_wp2_with fail
  generalize w3.alloc (.cells #[.string ⟨#[88]⟩, .int .i64 a.k, .int .i64 a.n, .string a.s, .string ⟨#[89]⟩, .int .i64 b.k, .int .i64 b.n, .string b.s] 119) = w4 at *
  generalize w3.heap.size = lb at *
  obtain ⟨p, hp⟩ : ∃ p, termS (getT [⟨⟨#[88]⟩, a⟩, ⟨⟨#[89]⟩, b⟩]) t = p := ⟨_, rfl⟩
  have HTm : Hid (∀ m W, EnvIs W m (getT [⟨⟨#[88]⟩, a⟩, ⟨⟨#[89]⟩, b⟩]) → Calls Tryz.prog 49 #[t.v', m] W (TermErr p (errV 90) W)) := fun m W hm => by rw [← hp]; exact aterm_any m _ t W hm
  have HRm : Hid (∀ W, Below w4.heap.size w4 W → Calls Tryz.prog 50 #[t.v', .slice (some ⟨lb, 0, none⟩) 2 2] W (TermErr p (fun e => .int .i64 e) W)) := fun W hb => by rw [← hp]; exact refAterm_any t _ 2 2 [⟨⟨#[88]⟩, a⟩, ⟨⟨#[89]⟩, b⟩] W (HLs.out.keep hb) Hv.out (getT_ok HLs.out)
  have HN := Lib.hid (fun n W => num_any n W)
  unfold TermErr at HTm HRm
  clear hp
  obtain ⟨v, er⟩ := p
  dsimp only at HTm HRm
  have rn := run_eql_value v v
  rw [GV.beq_self] at rn
  have Hk : Hid (∀ W, Below w4.heap.size w4 W → W.cell? ⟨w.heap.size + 1, 0, none⟩ = some (.string t.x) ∧ W.cell? ⟨w.heap.size + 1, 1, none⟩ = some (.int .i64 t.v.k) ∧ W.cell? ⟨w.heap.size + 1, 2, none⟩ = some (.int .i64 t.v.n) ∧ W.cell? ⟨w.heap.size + 1, 3, none⟩ = some (.string t.v.s)) := fun W h => facts4 (HF.out _ (below_next HB4.out h)).2
  have hq1 := Below.refl w4.heap.size w4
  go_region_held3 (fun W => W.cell? ⟨w.heap.size + 1, 0, none⟩ = some (.string t.x) ∧ W.cell? ⟨w.heap.size + 1, 1, none⟩ = some (.int .i64 t.v.k) ∧ W.cell? ⟨w.heap.size + 1, 2, none⟩ = some (.int .i64 t.v.n) ∧ W.cell? ⟨w.heap.size + 1, 3, none⟩ = some (.string t.v.s))
    (first
      | (refine Hk.out _ ?_; (repeat (first | with_reducible exact Below.refl _ _ | with_reducible assumption | with_reducible refine Below.drew ?_ | with_reducible refine belowA ?_ _ | with_reducible refine Below.setCell ?_ (by first | exact Nat.le_refl _ | exact hq2.size | exact hq3.size) _)); done)
      | go_keep)
    ((first
      | (go_at_call 40
         refine (env_any (some ⟨lb, 0, none⟩) 2 2 _ w4.drew (HLs.out.keep ((Below.refl _ _).drew))).mono ?_
         rintro e5 w5 ⟨g, rfl, hg, hgs, hb5⟩
         have hq2 : Below w4.heap.size w4 w5 := ((Below.refl w4.heap.size w4).drew).trans hb5
         clear hb5)
      | (go_at_call 40
         refine (env_any (some ⟨lb, 0, none⟩) 2 2 _ (w4.drew.alloc (.cells #[.int .i64 0, .int .i64 0, .string ⟨#[]⟩] 31)) (HLs.out.keep (belowA ((Below.refl _ _).drew) _))).mono ?_
         rintro e5 w5 ⟨g, rfl, hg, hgs, hb5⟩
         have hq2 : Below w4.heap.size w4 w5 := (belowA ((Below.refl w4.heap.size w4).drew) (.cells #[.int .i64 0, .int .i64 0, .string ⟨#[]⟩] 31)).trans (hb5.mono (belowA ((Below.refl w4.heap.size w4).drew) (.cells #[.int .i64 0, .int .i64 0, .string ⟨#[]⟩] 31)).size)
         have hh5 := (hb5.block w4.heap.size (by simp)).trans (heapNew (w := w4.drew) (o := (.cells #[.int .i64 0, .int .i64 0, .string ⟨#[]⟩] 31)) rfl)
         clear hb5)
      | (go_at_call 49
         refine (HTm.out (.map (some g)) w5 ⟨_, .inr ⟨g, rfl, hg⟩, envOf_keys _, fun s => envOf_get _ s⟩).mono ?_
         rintro e6 w6 ⟨rfl, hb6⟩
         have hq3 : Below w4.heap.size w4 w6 := hq2.trans (hb6.mono hq2.size)
         try
           have hh := (hb6.block w4.heap.size (Array.getElem?_eq_some_iff.1 hh5).1).trans hh5
           obtain ⟨y0, y1, y2⟩ := facts3 hh
           obtain ⟨x0, x1, x2⟩ := frz3 hh
         clear hb6)
      | (go_at_call 49
         refine (HTm.out (.map (some g)) (w5.alloc (.cells #[.int .i64 0, .int .i64 0, .string ⟨#[]⟩] 31)) ⟨_, .inr ⟨g, rfl, hg.alloc _⟩, envOf_keys _, fun s => envOf_get _ s⟩).mono ?_
         rintro e6 w6 ⟨rfl, hb6⟩
         have hq3 : Below w4.heap.size w4 w6 := (belowA hq2 (.cells #[.int .i64 0, .int .i64 0, .string ⟨#[]⟩] 31)).trans (hb6.mono (belowA hq2 (.cells #[.int .i64 0, .int .i64 0, .string ⟨#[]⟩] 31)).size)
         have hh := (hb6.block w5.heap.size (by simp)).trans (heapNew (w := w5) (o := (.cells #[.int .i64 0, .int .i64 0, .string ⟨#[]⟩] 31)) rfl)
         obtain ⟨y0, y1, y2⟩ := facts3 hh
         obtain ⟨x0, x1, x2⟩ := frz3 hh
         clear hb6)))
  · have hrow : (w6.alloc (.cells #[.int .i64 v.k, .int .i64 v.n, .string v.s] 31)).heap[w6.heap.size]? = some (.cells #[.int .i64 v.k, .int .i64 v.n, .string v.s] 31 (0, 0)) := heapNew rfl
    have hbw : Below w4.heap.size w4 (w6.alloc (.cells #[.int .i64 v.k, .int .i64 v.n, .string v.s] 31)) := belowA hq3 _
    have HRm2 := Lib.hid (HRm.out _ hbw)
    generalize w6.alloc (.cells #[.int .i64 v.k, .int .i64 v.n, .string v.s] 31) = w7 at *
    generalize w6.heap.size = vb at *
    have Hrow := Lib.hid hrow
    have HB7 := Lib.hid (below_next HB4.out hbw)
    obtain ⟨t0, t1, t2, t3⟩ := facts4 (HF.out _ HB7.out).2
    clear hrow hbw hq1 hq2 hq3 HTm HRm Hk HLs hg hgs
    go_wp2_with fail
    refine HRm2.out.mono ?_
    rintro e8 w8 ⟨rfl, hb8⟩
    have HB8 := Lib.hid (below_next HB7.out hb8)
    have h8 := (hb8.block _ (Array.getElem?_eq_some_iff.1 Hrow.out).1).trans Hrow.out
    have hlt8 := (Array.getElem?_eq_some_iff.1 h8).1
    obtain ⟨v0, v1, v2⟩ := facts3 h8
    have h9 := heapOld (o := (.cells #[.int .i64 v.k, .int .i64 v.n, .string v.s] 31)) h8
    have h9n : (w8.alloc (.cells #[.int .i64 v.k, .int .i64 v.n, .string v.s] 31)).heap[w8.heap.size]? = some (.cells #[.int .i64 v.k, .int .i64 v.n, .string v.s] 31 (0, 0)) := heapNew rfl
    have HB9 := Lib.hid (belowA HB8.out (.cells #[.int .i64 v.k, .int .i64 v.n, .string v.s] 31))
    have Hrow9 := Lib.hid (And.intro h9 h9n)
    clear hb8 h8 h9 h9n t0 t1 t2 t3 v0 v1 v2
    generalize hw9 : w8.alloc (.cells #[.int .i64 v.k, .int .i64 v.n, .string v.s] 31) = w9 at *
    go_wp2_with fail
    try simp only [hw9]
    clear hw9
    go_wp2_with fail
    refine (HN.out qe _).mono ?_
    rintro e10 w10 ⟨rfl, hb10⟩
    have HB10 := Lib.hid (below_next HB9.out hb10)
    obtain ⟨v0, v1, v2⟩ := facts3 ((hb10.block _ (Array.getElem?_eq_some_iff.1 Hrow9.out.1).1).trans Hrow9.out.1)
    obtain ⟨u0, u1, u2⟩ := facts3 ((hb10.block _ (Array.getElem?_eq_some_iff.1 Hrow9.out.2).1).trans Hrow9.out.2)
    clear hb10
    go_wp2_with fail
    refine (HN.out er _).mono ?_
    rintro e11 w11 ⟨rfl, hb11⟩
    have HB11 := Lib.hid (below_next HB10.out hb11)
    clear hb11
    go_wp2_with fail
    go_ret
    exact ⟨rfl, below_next HB.out HB11.out⟩
  · have hrow : (((w6.setCell ⟨w5.heap.size, 0, none⟩ (.int .i64 v.k)).setCell ⟨w5.heap.size, 1, none⟩ (.int .i64 v.n)).setCell ⟨w5.heap.size, 2, none⟩ (.string v.s)).heap[w5.heap.size]? = some (.cells #[.int .i64 v.k, .int .i64 v.n, .string v.s] 31 (0, 0)) := row_set (i := 2) _ (row_set (i := 1) _ (row_set (i := 0) _ hh))
    have hbw : Below w4.heap.size w4 (((w6.setCell ⟨w5.heap.size, 0, none⟩ (.int .i64 v.k)).setCell ⟨w5.heap.size, 1, none⟩ (.int .i64 v.n)).setCell ⟨w5.heap.size, 2, none⟩ (.string v.s)) := ((hq3.setCell hq2.size _).setCell hq2.size _).setCell hq2.size _
    have HRm2 := Lib.hid (HRm.out _ hbw)
    generalize ((w6.setCell ⟨w5.heap.size, 0, none⟩ (.int .i64 v.k)).setCell ⟨w5.heap.size, 1, none⟩ (.int .i64 v.n)).setCell ⟨w5.heap.size, 2, none⟩ (.string v.s) = w7 at *
    generalize w5.heap.size = vb at *
    have Hrow := Lib.hid hrow
    have HB7 := Lib.hid (below_next HB4.out hbw)
    obtain ⟨t0, t1, t2, t3⟩ := facts4 (HF.out _ HB7.out).2
    clear hrow hbw hq1 hq2 hq3 HTm HRm Hk HLs hg hgs
    go_wp2_with fail
    refine HRm2.out.mono ?_
    rintro e8 w8 ⟨rfl, hb8⟩
    have HB8 := Lib.hid (below_next HB7.out hb8)
    have h8 := (hb8.block _ (Array.getElem?_eq_some_iff.1 Hrow.out).1).trans Hrow.out
    have hlt8 := (Array.getElem?_eq_some_iff.1 h8).1
    obtain ⟨v0, v1, v2⟩ := facts3 h8
    have h9 := heapOld (o := (.cells #[.int .i64 v.k, .int .i64 v.n, .string v.s] 31)) h8
    have h9n : (w8.alloc (.cells #[.int .i64 v.k, .int .i64 v.n, .string v.s] 31)).heap[w8.heap.size]? = some (.cells #[.int .i64 v.k, .int .i64 v.n, .string v.s] 31 (0, 0)) := heapNew rfl
    have HB9 := Lib.hid (belowA HB8.out (.cells #[.int .i64 v.k, .int .i64 v.n, .string v.s] 31))
    have Hrow9 := Lib.hid (And.intro h9 h9n)
    clear hb8 h8 h9 h9n t0 t1 t2 t3 v0 v1 v2
    generalize hw9 : w8.alloc (.cells #[.int .i64 v.k, .int .i64 v.n, .string v.s] 31) = w9 at *
    go_wp2_with fail
    try simp only [hw9]
    clear hw9
    go_wp2_with fail
    refine (HN.out qe _).mono ?_
    rintro e10 w10 ⟨rfl, hb10⟩
    have HB10 := Lib.hid (below_next HB9.out hb10)
    obtain ⟨v0, v1, v2⟩ := facts3 ((hb10.block _ (Array.getElem?_eq_some_iff.1 Hrow9.out.1).1).trans Hrow9.out.1)
    obtain ⟨u0, u1, u2⟩ := facts3 ((hb10.block _ (Array.getElem?_eq_some_iff.1 Hrow9.out.2).1).trans Hrow9.out.2)
    clear hb10
    go_wp2_with fail
    refine (HN.out er _).mono ?_
    rintro e11 w11 ⟨rfl, hb11⟩
    have HB11 := Lib.hid (below_next HB10.out hb11)
    clear hb11
    go_wp2_with fail
    go_ret
    exact ⟨rfl, below_next HB.out HB11.out⟩
  · have hrow : (((w6.setCell ⟨w4.heap.size, 0, none⟩ (.int .i64 v.k)).setCell ⟨w4.heap.size, 1, none⟩ (.int .i64 v.n)).setCell ⟨w4.heap.size, 2, none⟩ (.string v.s)).heap[w4.heap.size]? = some (.cells #[.int .i64 v.k, .int .i64 v.n, .string v.s] 31 (0, 0)) := row_set (i := 2) _ (row_set (i := 1) _ (row_set (i := 0) _ hh))
    have hbw : Below w4.heap.size w4 (((w6.setCell ⟨w4.heap.size, 0, none⟩ (.int .i64 v.k)).setCell ⟨w4.heap.size, 1, none⟩ (.int .i64 v.n)).setCell ⟨w4.heap.size, 2, none⟩ (.string v.s)) := ((hq3.setCell (Nat.le_refl _) _).setCell (Nat.le_refl _) _).setCell (Nat.le_refl _) _
    have HRm2 := Lib.hid (HRm.out _ hbw)
    generalize ((w6.setCell ⟨w4.heap.size, 0, none⟩ (.int .i64 v.k)).setCell ⟨w4.heap.size, 1, none⟩ (.int .i64 v.n)).setCell ⟨w4.heap.size, 2, none⟩ (.string v.s) = w7 at *
    have Hrow := Lib.hid hrow
    have HB7 := Lib.hid (below_next HB4.out hbw)
    obtain ⟨t0, t1, t2, t3⟩ := facts4 (HF.out _ HB7.out).2
    clear hrow hbw hq1 hq2 hq3 HTm HRm Hk HLs hg hgs
    go_wp2_with fail
    refine HRm2.out.mono ?_
    rintro e8 w8 ⟨rfl, hb8⟩
    have HB8 := Lib.hid (below_next HB7.out hb8)
    have h8 := (hb8.block _ (Array.getElem?_eq_some_iff.1 Hrow.out).1).trans Hrow.out
    have hlt8 := (Array.getElem?_eq_some_iff.1 h8).1
    obtain ⟨v0, v1, v2⟩ := facts3 h8
    have h9 := heapOld (o := (.cells #[.int .i64 v.k, .int .i64 v.n, .string v.s] 31)) h8
    have h9n : (w8.alloc (.cells #[.int .i64 v.k, .int .i64 v.n, .string v.s] 31)).heap[w8.heap.size]? = some (.cells #[.int .i64 v.k, .int .i64 v.n, .string v.s] 31 (0, 0)) := heapNew rfl
    have HB9 := Lib.hid (belowA HB8.out (.cells #[.int .i64 v.k, .int .i64 v.n, .string v.s] 31))
    have Hrow9 := Lib.hid (And.intro h9 h9n)
    clear hb8 h8 h9 h9n t0 t1 t2 t3 v0 v1 v2
    generalize hw9 : w8.alloc (.cells #[.int .i64 v.k, .int .i64 v.n, .string v.s] 31) = w9 at *
    go_wp2_with fail
    try simp only [hw9]
    clear hw9
    go_wp2_with fail
    refine (HN.out qe _).mono ?_
    rintro e10 w10 ⟨rfl, hb10⟩
    have HB10 := Lib.hid (below_next HB9.out hb10)
    obtain ⟨v0, v1, v2⟩ := facts3 ((hb10.block _ (Array.getElem?_eq_some_iff.1 Hrow9.out.1).1).trans Hrow9.out.1)
    obtain ⟨u0, u1, u2⟩ := facts3 ((hb10.block _ (Array.getElem?_eq_some_iff.1 Hrow9.out.2).1).trans Hrow9.out.2)
    clear hb10
    go_wp2_with fail
    refine (HN.out er _).mono ?_
    rintro e11 w11 ⟨rfl, hb11⟩
    have HB11 := Lib.hid (below_next HB10.out hb11)
    clear hb11
    go_wp2_with fail
    go_ret
    exact ⟨rfl, below_next HB.out HB11.out⟩
end Go.Proofs.YtplekbpmfaghbaaGreatDoor
