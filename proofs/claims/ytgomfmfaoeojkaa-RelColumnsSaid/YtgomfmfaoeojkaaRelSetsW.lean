/- RelSets: the walk. -/
import Derived.Test.YtgomfmfaoeojkaaRefOf
import Derived.Test.YtgomfmfaoeojkaaRelPlays
namespace Go.Proofs.Ytgomfmfaoeojkaa
open Go.RowKit Go.Shelf

set_option maxRecDepth 100000 in
theorem union_nil (p : Nat) (w : World) : Calls Try.prog 30 #[relP p, .pointer none] w (fun e w' => e = .returned (.tuple #[.pointer none, .iface 45 (.int .i64 13)]) ∧ Below w.heap.size w w') := by
  have H1 := Lib.hid (two_none2 p w)
  unfold relP at H1 ⊢
  go_enter Try.func30, Try.ntmps30
  go_wp2_with fail
  refine H1.out.mono ?_
  rintro e w1 ⟨rfl, hb1⟩
  go_wp2_with fail
  go_ret2
  exact ⟨rfl, hb1⟩
set_option maxRecDepth 100000 in
theorem minus_nil (q : Nat) (w : World) : Calls Try.prog 31 #[.pointer none, relP q] w (fun e w' => e = .returned (.tuple #[.pointer none, .iface 45 (.int .i64 13)]) ∧ Below w.heap.size w w') := by
  have H1 := Lib.hid (two_none1 (some q) w)
  unfold relQ relP at H1
  unfold relP
  go_enter Try.func31, Try.ntmps31
  go_wp2_with fail
  refine H1.out.mono ?_
  rintro e w1 ⟨rfl, hb1⟩
  go_wp2_with fail
  go_ret2
  exact ⟨rfl, hb1⟩
theorem numE_any (x : Int) (hx : x ≠ 0) (w : World) : Calls Try.prog 23 #[.iface 45 (.int .i64 x)] w (RetInt x w) := by
  have h := num_any x w
  simpa only [errV, if_neg hx] using h
theorem num0_any (w : World) : Calls Try.prog 23 #[.nilIface] w (RetInt 0 w) := by
  have h := num_any 0 w
  simpa only [errV, if_true] using h

set_option maxRecDepth 100000 in
set_option maxHeartbeats 8000000 in
theorem relSets_walk (ar : Int) (A B : Option Addr) (n c m d : Nat) (a b : List (List GV)) (w : World) (ha : SliceIs (Enc.slice Enc.val) w w.heap.size A n c a) (hb : SliceIs (Enc.slice Enc.val) w w.heap.size B m d b) :
    Calls Try.prog 7 #[.int .i64 ar, .slice A n c, .slice B m d] w (RetBool true w) := by
  have HA := Lib.hid ha
  have HB := Lib.hid hb
  have hna := ha.bound
  have hnb := hb.bound
  have hla := ha.1
  have hlb := hb.1
  have Hla := Lib.hid hla
  have Hlb := Lib.hid hlb
  clear ha hb hla hlb
  go_enter Try.func7, Try.ntmps7
  go_wp2_with fail
  refine (alive_any _).mono ?_
  rintro e w1 ⟨rfl, hb1⟩
  have H1 := Lib.hid (large_any A n c a w1 (HA.out.mono hb1.size hb1.block))
  go_wp2_with fail
  refine H1.out.mono ?_
  rintro e w2 ⟨r, rfl, hr, hq⟩
  replace hb1 := below_next hb1 hq
  clear H1 hq
  cases r with
  | true =>
    clear hr
    go_wp2_with fail
    go_ret
    exact ⟨rfl, hb1⟩
  | false =>
  obtain ⟨la, l5a⟩ := hr rfl
  clear hr
  have H1 := Lib.hid (large_any B m d b w2 (HB.out.mono hb1.size hb1.block))
  go_wp2_with fail
  refine H1.out.mono ?_
  rintro e w3 ⟨r, rfl, hr, hq⟩
  replace hb1 := below_next hb1 hq
  clear H1 hq
  cases r with
  | true =>
    clear hr
    go_wp2_with fail
    go_ret
    exact ⟨rfl, hb1⟩
  | false =>
  obtain ⟨lb, l5b⟩ := hr rfl
  clear hr
  have L5a := Lib.hid l5a
  have L5b := Lib.hid l5b
  clear l5a l5b
  have H1 := Lib.hid (of_any ar A n c a w3 (HA.out.mono hb1.size hb1.block))
  go_wp2_with fail
  refine H1.out.mono ?_
  rintro e w4 ⟨hq, hor⟩
  replace hb1 := below_next hb1 hq
  have H2 := Lib.hid (of_any ar B m d b w4 (HB.out.mono hb1.size hb1.block))
  have HO1 : Hid ((ofE ar a = 0 ∧ ∃ p rb, e = .returned (.tuple #[relP p, .nilIface]) ∧ RelAt w4 (p :: rb.toList) p rb ar (ofL ar a)) ∨ (ofE ar a ≠ 0 ∧ e = .returned (.tuple #[.pointer none, .iface 45 (.int .i64 (ofE ar a))]))) := by
    rcases hor with ⟨h0, p, he, rb, h1, -⟩ | h0
    · exact .inl ⟨h0, p, rb, he, h1⟩
    · exact .inr h0
  have R1 : Hid (∀ W, Below w.heap.size w W → Calls Try.prog 25 #[.int .i64 ar, .slice A n c] W (RefOfPost ar (ofE ar a) (ofL ar a) W)) := fun W hb => refOf_any ar A n c a W (HA.out.mono hb.size hb.block) (by have := Hla.out; omega) L5a.out
  have R2 : Hid (∀ W, Below w.heap.size w W → Calls Try.prog 25 #[.int .i64 ar, .slice B m d] W (RefOfPost ar (ofE ar b) (ofL ar b) W)) := fun W hb => refOf_any ar B m d b W (HB.out.mono hb.size hb.block) (by have := Hlb.out; omega) L5b.out
  have lL := ofL_len ar a
  have lM := ofL_len ar b
  clear H1 hq hor
  generalize ofE ar a = xa at *
  generalize ofL ar a = L at *
  generalize hxb : ofE ar b = xb at *
  generalize hMM : ofL ar b = M at *
  clear hxb hMM
  rcases HO1.out with ⟨h0a, x, rbx, rfl, hx⟩ | ⟨h0a, rfl⟩
  rotate_left
  · have H0a := Lib.hid h0a
    have q1 : (xa != 0) = true := by simpa using h0a
    clear HO1 h0a
    go_wp2_with fail
    refine H2.out.mono ?_
    rintro e w5 ⟨hq, hor2⟩
    replace hb1 := below_next hb1 hq
    have RR := Lib.hid (R1.out w5 hb1)
    clear H2 hq
    rcases hor2 with ⟨h0b, y, rfl, hy⟩ | ⟨h0b, rfl⟩
    · clear hy
      unfold relP
      go_wp2_with fail
      refine RR.out.mono ?_
      rintro e w6 ⟨hq, hor3⟩
      rcases hor3 with ⟨hz, -⟩ | ⟨-, rfl⟩
      · exact absurd hz H0a.out
      replace hb1 := below_next hb1 hq
      have hb7 : Below w6.heap.size w6 (w6.alloc (.cells #[.int .i64 0, .slice none 0 0] 47)) := belowA (Below.refl _ _) _
      have RR2 := Lib.hid (R2.out _ (below_next hb1 hb7))
      clear RR hq
      go_wp2_with fail
      refine RR2.out.mono ?_
      rintro e w8 ⟨hq, hor4⟩
      have hb8 := below_next (below_next hb1 hb7) hq
      clear RR2 hq hb7
      rcases hor4 with ⟨-, A4, c4, rfl, hs4⟩ | ⟨hz, -⟩
      rotate_left
      · exact absurd h0b hz
      subst h0b
      clear hs4
      go_wp2_with fail
      refine (numE_any xa H0a.out _).mono ?_
      rintro e w9 ⟨rfl, hq⟩
      have hb9 := below_next (belowA hb8 _) hq
      have n1 : (xa != xa) = false := by simp
      go_wp2_with fail
      refine (num0_any _).mono ?_
      rintro e w10 ⟨rfl, hq2⟩
      have hb10 := below_next hb9 hq2
      go_wp2_with fail
      go_ret
      exact ⟨by simp, hb10⟩
    · have H0b := Lib.hid h0b
      have q2 : (xb != 0) = true := by simpa using h0b
      clear h0b
      go_wp2_with fail
      refine RR.out.mono ?_
      rintro e w6 ⟨hq, hor3⟩
      rcases hor3 with ⟨hz, -⟩ | ⟨-, rfl⟩
      · exact absurd hz H0a.out
      replace hb1 := below_next hb1 hq
      have hb7 : Below w6.heap.size w6 (w6.alloc (.cells #[.int .i64 0, .slice none 0 0] 47)) := belowA (Below.refl _ _) _
      have RR2 := Lib.hid (R2.out _ (below_next hb1 hb7))
      clear RR hq
      go_wp2_with fail
      refine RR2.out.mono ?_
      rintro e w8 ⟨hq, hor4⟩
      have hb8 := below_next (below_next hb1 hb7) hq
      clear RR2 hq hb7
      rcases hor4 with ⟨hz, -⟩ | ⟨-, rfl⟩
      · exact absurd hz H0b.out
      go_wp2_with fail
      refine (numE_any xa H0a.out _).mono ?_
      rintro e w9 ⟨rfl, hq⟩
      have hb9 := below_next (belowA hb8 _) hq
      have n1 : (xa != xa) = false := by simp
      go_wp2_with fail
      refine (numE_any xb H0b.out _).mono ?_
      rintro e w10 ⟨rfl, hq2⟩
      have hb10 := below_next hb9 hq2
      have n2 : (xb != xb) = false := by simp
      go_wp2_with fail
      go_ret
      exact ⟨by simp, hb10⟩
  subst h0a
  clear HO1
  have HX := Lib.hid hx
  clear hx
  unfold relP
  go_wp2_with fail
  refine H2.out.mono ?_
  rintro e w5 ⟨hq, hor2⟩
  replace hb1 := below_next hb1 hq
  have HX5 := Lib.hid (HX.out.on hq)
  have RR := Lib.hid (R1.out w5 hb1)
  clear H2 hq HX
  rcases hor2 with ⟨h0b, y, rfl, hy⟩ | ⟨h0b, rfl⟩
  rotate_left
  · have H0b := Lib.hid h0b
    have q2 : (xb != 0) = true := by simpa using h0b
    clear h0b HX5
    go_wp2_with fail
    refine RR.out.mono ?_
    rintro e w6 ⟨hq, hor3⟩
    rcases hor3 with ⟨-, A6, c6, rfl, hs6⟩ | ⟨hz, -⟩
    rotate_left
    · exact absurd rfl hz
    clear hs6
    replace hb1 := below_next hb1 hq
    have hb7 : Below w6.heap.size w6 (w6.alloc (.cells #[.int .i64 ar, .slice A6 L.length c6] 47)) := belowA (Below.refl _ _) _
    have RR2 := Lib.hid (R2.out _ (below_next hb1 hb7))
    clear RR hq
    go_wp2_with fail
    refine RR2.out.mono ?_
    rintro e w8 ⟨hq, hor4⟩
    have hb8 := below_next (below_next hb1 hb7) hq
    clear RR2 hq hb7
    rcases hor4 with ⟨hz, -⟩ | ⟨-, rfl⟩
    · exact absurd hz H0b.out
    go_wp2_with fail
    refine (num0_any _).mono ?_
    rintro e w9 ⟨rfl, hq⟩
    have hb9 := below_next (belowA hb8 _) hq
    go_wp2_with fail
    refine (numE_any xb H0b.out _).mono ?_
    rintro e w10 ⟨rfl, hq2⟩
    have hb10 := below_next hb9 hq2
    have n2 : (xb != xb) = false := by simp
    go_wp2_with fail
    go_ret
    exact ⟨by simp, hb10⟩
  subst h0b
  obtain ⟨rby, hy', -, -, -⟩ := hy
  have HY5 := Lib.hid hy'
  clear hy'
  have h6L : Hid (∀ t ∈ L, t.length ≤ 100000) := fun t ht => by have := (HX5.out.right t ht).2; simp [rightT] at this; omega
  have h6M : Hid (∀ t ∈ M, t.length ≤ 100000) := fun t ht => by have := (HY5.out.right t ht).2; simp [rightT] at this; omega
  unfold relP
  go_wp2_with fail
  refine RR.out.mono ?_
  rintro e w6 ⟨hq, hor3⟩
  rcases hor3 with ⟨-, A6, c6, rfl, hs6⟩ | ⟨hz, -⟩
  rotate_left
  · exact absurd rfl hz
  replace hb1 := below_next hb1 hq
  have hb7 : Below w6.heap.size w6 (w6.alloc (.cells #[.int .i64 ar, .slice A6 L.length c6] 47)) := belowA (Below.refl _ _) _
  have hgm : (w6.alloc (.cells #[.int .i64 ar, .slice A6 L.length c6] 47)).heap[w6.heap.size]? = some (.cells #[.int .i64 ar, .slice A6 L.length c6] 47 (0, 0)) := heapNew rfl
  have RR2 := Lib.hid (R2.out _ (below_next hb1 hb7))
  have HX6 := Lib.hid ((HX5.out.on hq).on hb7)
  have HY6 := Lib.hid ((HY5.out.on hq).on hb7)
  have HL6 := Lib.hid (hs6.keep hb7)
  clear RR hq HX5 HY5 hs6
  go_wp2_with fail
  refine RR2.out.mono ?_
  rintro e w8 ⟨hq, hor4⟩
  rcases hor4 with ⟨-, A8, c8, rfl, hs8⟩ | ⟨hz, -⟩
  rotate_left
  · exact absurd rfl hz
  have hb8 := below_next (below_next hb1 hb7) hq
  have hb9 : Below w8.heap.size w8 (w8.alloc (.cells #[.int .i64 ar, .slice A8 M.length c8] 47)) := belowA (Below.refl _ _) _
  have hgm9 : (w8.alloc (.cells #[.int .i64 ar, .slice A8 M.length c8] 47)).heap[w6.heap.size]? = some (.cells #[.int .i64 ar, .slice A6 L.length c6] 47 (0, 0)) := heapOld ((hq.block _ (Array.getElem?_eq_some_iff.1 hgm).1).trans hgm)
  have hgn9 : (w8.alloc (.cells #[.int .i64 ar, .slice A8 M.length c8] 47)).heap[w8.heap.size]? = some (.cells #[.int .i64 ar, .slice A8 M.length c8] 47 (0, 0)) := heapNew rfl
  have HX9 := Lib.hid ((HX6.out.on hq).on hb9)
  have HY9 := Lib.hid ((HY6.out.on hq).on hb9)
  have HL9 := Lib.hid ((HL6.out.keep hq).keep hb9)
  have HM9 := Lib.hid (hs8.keep hb9)
  have hb10 := below_next hb8 hb9
  clear RR2 hq HX6 HY6 HL6 hs8 hgm hb7 hb8 hb9 R1 R2
  go_wp2_with fail
  generalize hg1 : w6.heap.size = gm at *
  generalize hg2 : w8.heap.size = gn at *
  generalize (w8.alloc (.cells #[.int .i64 ar, .slice A8 M.length c8] 47)) = w9 at *
  clear hg1 hg2
  refine (num0_any _).mono ?_
  rintro e w10 ⟨rfl, hq⟩
  go_wp2_with fail
  refine (num0_any _).mono ?_
  rintro e w11 ⟨rfl, hq2⟩
  have hbq := below_next hq hq2
  have HXa := Lib.hid (HX9.out.on hbq)
  have HYa := Lib.hid (HY9.out.on hbq)
  have HLa := Lib.hid (HL9.out.keep hbq)
  have HMa := Lib.hid (HM9.out.keep hbq)
  have hgma := (hbq.block _ (Array.getElem?_eq_some_iff.1 hgm9).1).trans hgm9
  have hgna := (hbq.block _ (Array.getElem?_eq_some_iff.1 hgn9).1).trans hgn9
  have hba := below_next hb10 hbq
  have H1 := Lib.hid (union_any HXa.out HYa.out (by omega))
  clear HX9 HY9 HL9 HM9 hgm9 hgn9 hb10 hbq hq hq2 hb1
  unfold relP at H1
  go_wp2_with fail
  refine H1.out.mono ?_
  rintro e w12 ⟨hq, u, rfl, ⟨rbu, ru, -, -, -⟩⟩
  have HUb := Lib.hid ru
  have HXb := Lib.hid (HXa.out.on hq)
  have HYb := Lib.hid (HYa.out.on hq)
  have hbw1 := Lib.hid hq
  have H2 := Lib.hid (minus_any HXb.out HYb.out)
  clear H1 ru hq
  unfold relP at H2 ⊢
  go_wp2_with fail
  refine H2.out.mono ?_
  rintro e w13 ⟨hq, dd, rfl, ⟨rbd, rd, -, -, -⟩⟩
  have HDc := Lib.hid rd
  have HUc := Lib.hid (HUb.out.on hq)
  have HXc := Lib.hid (HXb.out.on hq)
  have HYc := Lib.hid (HYb.out.on hq)
  have hbw2 := Lib.hid (below_next hbw1.out hq)
  have H1 := Lib.hid (both_any HXc.out HYc.out)
  clear H2 rd hq HUb HXb HYb hbw1
  unfold relP at H1 ⊢
  go_wp2_with fail
  refine H1.out.mono ?_
  rintro e w14 ⟨hq, ww, rfl, ⟨rbw, rw14, -, -, -⟩⟩
  have HWd := Lib.hid rw14
  have HDd := Lib.hid (HDc.out.on hq)
  have HUd := Lib.hid (HUc.out.on hq)
  have HXd := Lib.hid (HXc.out.on hq)
  have HYd := Lib.hid (HYc.out.on hq)
  have hbw3 := below_next hbw2.out hq
  have HLd := Lib.hid (HLa.out.keep hbw3)
  have HMd := Lib.hid (HMa.out.keep hbw3)
  have hgmd := (hbw3.block _ (Array.getElem?_eq_some_iff.1 hgma).1).trans hgma
  have hgnd := (hbw3.block _ (Array.getElem?_eq_some_iff.1 hgna).1).trans hgna
  have hbd := below_next hba hbw3
  clear H1 rw14 hq HDc HUc HXc HYc hbw2 HLa HMa hgma hgna hba HXa HYa hbw3
  have far := fun (W : World) (hs : SliceIs (Enc.slice Enc.val) W W.heap.size A6 L.length c6 L) => (SliceFar.old (S := []) hs (Nat.le_refl _) (fun b hb => by cases hb))
  have H2 := Lib.hid (refUnion_any ar ar A6 A8 L.length c6 M.length c8 L M w14 [] (fun b hb => by cases hb) (far w14 HLd.out) HMd.out (by omega) h6M.out)
  have c0 : w14.cell? ⟨gm, 0, none⟩ = some (.int .i64 ar) := (cell_of_row _ _ 0 _ _ _ hgmd).trans rfl
  have c1 : w14.cell? ⟨gm, 1, none⟩ = some (.slice A6 L.length c6) := (cell_of_row _ _ 1 _ _ _ hgmd).trans rfl
  have c2 : w14.cell? ⟨gn, 0, none⟩ = some (.int .i64 ar) := (cell_of_row _ _ 0 _ _ _ hgnd).trans rfl
  have c3 : w14.cell? ⟨gn, 1, none⟩ = some (.slice A8 M.length c8) := (cell_of_row _ _ 1 _ _ _ hgnd).trans rfl
  have Far := Lib.hid far
  clear far
  unfold relP
  go_wp2_with fail
  refine H2.out.mono ?_
  rintro e w15 ⟨A15, c15, rfl, hs15, hq⟩
  have hb16 : Below w15.heap.size w15 (w15.alloc (.cells #[.int .i64 ar, .slice A15 (uniL L M).length c15] 47)) := belowA (Below.refl _ _) _
  have hbe := below_next hq hb16
  have hgw : (w15.alloc (.cells #[.int .i64 ar, .slice A15 (uniL L M).length c15] 47)).heap[w15.heap.size]? = some (.cells #[.int .i64 ar, .slice A15 (uniL L M).length c15] 47 (0, 0)) := heapNew rfl
  have HWant := Lib.hid ((hs15.on hb16).is)
  have HWe := Lib.hid (HWd.out.on hbe)
  have HDe := Lib.hid (HDd.out.on hbe)
  have HUe := Lib.hid (HUd.out.on hbe)
  have HXe := Lib.hid (HXd.out.on hbe)
  have HYe := Lib.hid (HYd.out.on hbe)
  have HLe := Lib.hid (HLd.out.keep hbe)
  have HMe := Lib.hid (HMd.out.keep hbe)
  have hgme := (hbe.block _ (Array.getElem?_eq_some_iff.1 hgmd).1).trans hgmd
  have hgne := (hbe.block _ (Array.getElem?_eq_some_iff.1 hgnd).1).trans hgnd
  have hbz := below_next hbd hbe
  clear H2 hs15 hq hb16 hbe HWd HDd HUd HXd HYd HLd HMd hgmd hgnd c0 c1 c2 c3 hbd
  go_wp2_with fail
  generalize hg3 : w15.heap.size = gw at *
  generalize (w15.alloc (.cells #[.int .i64 ar, .slice A15 (uniL L M).length c15] 47)) = w16 at *
  clear hg3
  have hk : ∀ W, Below w16.heap.size w16 W → (W.cell? ⟨gm, 0, none⟩ = some (.int .i64 ar) ∧ W.cell? ⟨gm, 1, none⟩ = some (.slice A6 L.length c6)) ∧ (W.cell? ⟨gn, 0, none⟩ = some (.int .i64 ar) ∧ W.cell? ⟨gn, 1, none⟩ = some (.slice A8 M.length c8)) ∧ (W.cell? ⟨gw, 0, none⟩ = some (.int .i64 ar) ∧ W.cell? ⟨gw, 1, none⟩ = some (.slice A15 (uniL L M).length c15)) := fun W hb =>
    ⟨⟨(cell_of_row _ _ 0 _ _ _ ((hb.block _ (Array.getElem?_eq_some_iff.1 hgme).1).trans hgme)).trans rfl, (cell_of_row _ _ 1 _ _ _ ((hb.block _ (Array.getElem?_eq_some_iff.1 hgme).1).trans hgme)).trans rfl⟩,
      ⟨(cell_of_row _ _ 0 _ _ _ ((hb.block _ (Array.getElem?_eq_some_iff.1 hgne).1).trans hgne)).trans rfl, (cell_of_row _ _ 1 _ _ _ ((hb.block _ (Array.getElem?_eq_some_iff.1 hgne).1).trans hgne)).trans rfl⟩,
      ⟨(cell_of_row _ _ 0 _ _ _ ((hb.block _ (Array.getElem?_eq_some_iff.1 hgw).1).trans hgw)).trans rfl, (cell_of_row _ _ 1 _ _ _ ((hb.block _ (Array.getElem?_eq_some_iff.1 hgw).1).trans hgw)).trans rfl⟩⟩
  have Hk := Lib.hid hk
  clear hk hgme hgne hgw
  have lL2 : L.length ≤ 60 := by omega
  have lM2 : M.length ≤ 60 := by omega
  have keepL := Lib.hid (fun (W : World) (hb : Below w16.heap.size w16 W) => HLe.out.mono hb.size hb.block)
  have keepM := Lib.hid (fun (W : World) (hb : Below w16.heap.size w16 W) => HMe.out.mono hb.size hb.block)
  have I1 := Lib.hid (fun (W : World) (hb : Below w16.heap.size w16 W) => is_yes (HUe.out.on hb) A15 c15 (HWant.out.mono hb.size hb.block))
  have I2 := Lib.hid (fun (W : World) (hb : Below w16.heap.size w16 W) => refMinus_any ar ar A6 A8 L.length c6 M.length c8 L M W [] (fun b hb => by cases hb) (Far.out W (keepL.out W hb)) (keepM.out W hb) (by omega) h6M.out)
  have I3 := Lib.hid (fun (W : World) (hb : Below w16.heap.size w16 W) (A' : Option Addr) (c' : Nat) (hs : SliceIs (Enc.slice Enc.val) W W.heap.size A' (minL L M).length c' (minL L M)) => is_yes (HDe.out.on hb) A' c' (by rw [← minL_sie]; exact hs))
  have I4 := Lib.hid (fun (W : World) (hb : Below w16.heap.size w16 W) => refBoth_any ar ar A6 A8 L.length c6 M.length c8 L M W [] (fun b hb => by cases hb) (Far.out W (keepL.out W hb)) (keepM.out W hb) (by omega) (by omega) h6M.out h6L.out)
  have I5 := Lib.hid (fun (W : World) (hb : Below w16.heap.size w16 W) (A' : Option Addr) (c' : Nat) (hs : SliceIs (Enc.slice Enc.val) W W.heap.size A' (minL L (minL L M)).length c' (minL L (minL L M))) => is_yes (HWe.out.on hb) A' c' (by rw [← both_sie]; exact hs))
  rw [← minL_sie] at I3
  rw [← both_sie] at I5
  unfold relP at I1 I3 I5
  have hb0 := Below.refl w16.heap.size w16
  obtain ⟨⟨a0, a1⟩, ⟨a2, a3⟩, ⟨a4, a5⟩⟩ := Hk.out w16 hb0
  go_wp2_with fail
  refine (I1.out w16 hb0).mono ?_
  rintro e w17 ⟨rfl, hq⟩
  have hb17 := below_next hb0 hq
  clear a0 a1 a2 a3 a4 a5 hq
  obtain ⟨⟨a0, a1⟩, ⟨a2, a3⟩, -⟩ := Hk.out w17 hb17
  go_wp2_with fail
  refine (I2.out w17 hb17).mono ?_
  rintro e w18 ⟨A18, c18, rfl, hs18, hq⟩
  have hb18 := below_next hb17 hq
  have J := Lib.hid (I3.out w18 hb18 A18 c18 hs18.is)
  clear hs18 hq a0 a1 a2 a3
  go_wp2_with fail
  refine J.out.mono ?_
  rintro e w19 ⟨rfl, hq⟩
  have hb19 := below_next hb18 hq
  clear hq J
  obtain ⟨⟨a0, a1⟩, ⟨a2, a3⟩, -⟩ := Hk.out w19 hb19
  go_wp2_with fail
  refine (I4.out w19 hb19).mono ?_
  rintro e w20 ⟨A20, c20, rfl, hs20, hq⟩
  have hb20 := below_next hb19 hq
  have J := Lib.hid (I5.out w20 hb20 A20 c20 hs20.is)
  clear hs20 hq a0 a1 a2 a3
  go_wp2_with fail
  refine J.out.mono ?_
  rintro e w21 ⟨rfl, hq⟩
  have hb21 := below_next hb20 hq
  have J2 := Lib.hid (union_nil x w21)
  clear hq J
  unfold relP at J2
  go_wp2_with fail
  refine J2.out.mono ?_
  rintro e w22 ⟨rfl, hq⟩
  have hb22 := below_next hb21 hq
  have J3 := Lib.hid (minus_nil y w22)
  clear hq J2
  unfold relP at J3
  go_wp2_with fail
  refine J3.out.mono ?_
  rintro e w23 ⟨rfl, hq⟩
  have hb23 := below_next hb22 hq
  clear hq J3 I1 I2 I3 I4 I5 hb17 hb18 hb19 hb20 hb21 hb22
  have S1 := Lib.hid (fun (W : World) (hb : Below w23.heap.size w23 W) => same_any (HXe.out.on (below_next hb23 hb)) (HYe.out.on (below_next hb23 hb)))
  have S2 := Lib.hid (fun (W : World) (hb : Below w23.heap.size w23 W) => refSame_any ar A6 A8 L.length c6 M.length c8 L M W (keepL.out W (below_next hb23 hb)) (keepM.out W (below_next hb23 hb)))
  have S3 := Lib.hid (fun (W : World) (hb : Below w23.heap.size w23 W) => is_yes (HXe.out.on (below_next hb23 hb)) A6 c6 (keepL.out W (below_next hb23 hb)))
  have S4 := Lib.hid (fun (W : World) (hb : Below w23.heap.size w23 W) => is_yes (HYe.out.on (below_next hb23 hb)) A8 c8 (keepM.out W (below_next hb23 hb)))
  have S5 : Hid (∀ W, Calls Try.prog 19 #[.iface 45 (.int .i64 13), .int .i64 13] W (RetBool true W)) := fun W => isN_any 13 (by decide) W
  have Hk2 := Lib.hid (fun (W : World) (hb : Below w23.heap.size w23 W) => And.intro (Hk.out W (below_next hb23 hb)).1.1 (And.intro (Hk.out W (below_next hb23 hb)).1.2 (Hk.out W (below_next hb23 hb)).2.1))
  generalize decide (L = M) = bs at S1 S2
  unfold relP at S1 S3 S4
  have hbz23 := below_next hbz hb23
  clear HXe HYe HUe HDe HWe HLe HMe HWant keepL keepM Far Hk hb23 hb0 hbz
  have nb : (bs == bs) = true := by simp
  go_wp2_with fail
  go_region_held3 (fun w' => w'.cell? ⟨gm, 0, none⟩ = some (.int .i64 ar) ∧ w'.cell? ⟨gm, 1, none⟩ = some (.slice A6 L.length c6) ∧ w'.cell? ⟨gn, 0, none⟩ = some (.int .i64 ar) ∧ w'.cell? ⟨gn, 1, none⟩ = some (.slice A8 M.length c8))
    (first
      | (refine Hk2.out _ ?_; (repeat (first | with_reducible exact Below.refl _ _ | with_reducible assumption | with_reducible refine Below.drew ?_)); done)
      | go_keep)
    ((first
      | (go_at_call 33
         with_reducible refine (S1.out _ ?s1).mono ?_
         case s1 => repeat (first | with_reducible exact Below.refl _ _ | with_reducible assumption | with_reducible refine Below.drew ?_)
         rintro e v1 ⟨rfl, hv1⟩
         have hc1 : Below w23.heap.size w23 v1 := below_next (Below.drew (Below.refl _ _)) hv1)
      | (go_at_call 37
         with_reducible refine (S2.out _ ?s1).mono ?_
         case s1 => repeat (first | with_reducible exact Below.refl _ _ | with_reducible assumption | with_reducible refine Below.drew ?_)
         rintro e v2 ⟨rfl, hv2⟩
         have hc2 : Below w23.heap.size w23 v2 := below_next hc1 hv2)
      | (go_at_call 24
         with_reducible refine (S3.out _ ?s1).mono ?_
         case s1 => repeat (first | with_reducible exact Below.refl _ _ | with_reducible assumption | with_reducible refine Below.drew ?_)
         rintro e v3 ⟨rfl, hv3⟩
         have hc3 : Below w23.heap.size w23 v3 := below_next hc2 hv3)
      | (go_at_call 24
         with_reducible refine (S4.out _ ?s1).mono ?_
         case s1 => repeat (first | with_reducible exact Below.refl _ _ | with_reducible assumption | with_reducible refine Below.drew ?_)
         rintro e v4 ⟨rfl, hv4⟩
         have hc4 : Below w23.heap.size w23 v4 := below_next hc3 hv4)
      | (go_at_call 19
         first
           | (have hc5' := hc5
              with_reducible refine (S5.out _).mono ?_
              rintro e v6 ⟨rfl, hv6⟩
              have hc6 : Below w23.heap.size w23 v6 := below_next hc5 hv6)
           | (with_reducible refine (S5.out _).mono ?_
              rintro e v5 ⟨rfl, hv5⟩
              have hc5 : Below w23.heap.size w23 v5 := below_next hc4 hv5))))
  all_goals
    go_wp2_with fail
    go_ret
    exact ⟨by simp, below_next hbz23 hc6⟩
end Go.Proofs.Ytgomfmfaoeojkaa
