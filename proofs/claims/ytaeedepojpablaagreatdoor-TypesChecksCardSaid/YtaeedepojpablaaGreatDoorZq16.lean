/- My own texts PaX, as far as this claim needs them. -/
import Derived.Test.YtaeedepojpablaaGreatDoorZq15
set_option linter.unusedVariables false
set_option linter.unusedSimpArgs false
set_option maxRecDepth 1000000
set_option maxHeartbeats 16000000
namespace Go.Proofs.YtaeedepojpablaaGreatDoor
open Go.RowKit
theorem fits_1 : fits 1 := by unfold fits; decide
theorem fits_2 : fits 2 := by unfold fits; decide
theorem fits_3 : fits 3 := by unfold fits; decide
section
variable {B g : Nat} {A : Option Addr} {c : Nat} {T : List GTok} {E : Nat}
structure ExJ (B g : Nat) (A : Option Addr) (c : Nat) (T : List GTok) (E : Nat) (w : World) (n eb : Nat) (ys : PS) (ye : GExp) (W : World) : Prop where
 ex : ∃ A1 n1 c1 d1, Fr B g A c T E w [(eb, Obj.cells (expC ye A1 n1 c1).toArray 78 (0, 0)), (w.heap.size, Obj.cells zeC.toArray 78 (0, 0))] ys W ∧ SliceFar (Enc.exp d1) W (eb :: List.range (w.heap.size + 1)) A1 n1 c1 ye.kids
 op : fits ye.op
 t : toldOk ye.t
 deep : ys.deep + n = 20
theorem ExJ.go {w W W' : World} {n eb : Nat} {ys ys' : PS} {ye : GExp} (h : ExJ B g A c T E w n eb ys ye W) (hr : Rd B g A c T E ys' W') (ho : Out [g] W W') (hd : ys'.deep = ys.deep) : ExJ B g A c T E w n eb ys' ye W' := by
 obtain ⟨⟨A1, n1, c1, d1, h1, h2⟩, h3, h4, h5⟩ := h; have hg := h1.glt; exact ⟨⟨A1, n1, c1, d1, h1.go hr ho, SliceFar.out h2 ho (fun b hb _ => by simp at hb; simp; omega) (fun _ h _ => h)⟩, h3, h4, by omega⟩
theorem ExJ.rd {w W : World} {n eb : Nat} {ys : PS} {ye : GExp} (h : ExJ B g A c T E w n eb ys ye W) : Rd B g A c T E ys W := by
 obtain ⟨A1, n1, c1, d1, h1, h2⟩ := h.ex; exact h1.rd
theorem ExJ.bin {w w2 W : World} {n eb b : Nat} {ys s' : PS} {ye z : GExp} {A1 A2 : Option Addr} {n1 c1 n2 c2 d1 d2 : Nat} {k : Int} (hB : B ≤ w.heap.size) (hk : fits k) (heb : w.heap.size < eb) (hez : eb < w2.heap.size)
 (hF : Fr B g A c T E w [(eb, Obj.cells (expC ye A1 n1 c1).toArray 78 (0, 0)), (w.heap.size, Obj.cells zeC.toArray 78 (0, 0))] ys w2) (hK : SliceFar (Enc.exp d1) w2 (eb :: List.range (w.heap.size + 1)) A1 n1 c1 ye.kids) (ho1 : fits ye.op) (ht1 : toldOk ye.t)
 (hr : Rd B g A c T E s' W) (hz : fits z.op ∧ toldOk z.t ∧ SliceFar (Enc.exp d2) W (List.range w2.heap.size) A2 n2 c2 z.kids) (hbr : W.heap[b]? = some (.cells (expC ye A1 n1 c1 ++ expC z A2 n2 c2).toArray 78 (0, 0))) (hb : w2.heap.size ≤ b) (ho : Out [g] w2 W)
 (her : W.heap[eb]? = some (.cells (expC ye A1 n1 c1).toArray 78 (0, 0))) (hd : s'.deep + n = 20) : ExJ B g A c T E w n eb s' (.mk k zT [ye, z]) (W.setRow eb (expC (.mk k zT [ye, z]) (some ⟨b, 0, none⟩) 2 2).toArray) := by
 have hg := hF.glt; have hF3 := hF.go hr ho; have ho4 : Out [eb] W (W.setRow eb (expC (.mk k zT [ye, z]) (some ⟨b, 0, none⟩) 2 2).toArray) := ⟨rfl, rfl, rfl, by rw [setRow_size]; exact Nat.le_refl _, fun x _ hx => setRow_ne (by simpa using hx)⟩
 have hF4 := hF3.put (L' := [(eb, Obj.cells (expC (.mk k zT [ye, z]) (some ⟨b, 0, none⟩) 2 2).toArray 78 (0, 0)), (w.heap.size, Obj.cells zeC.toArray 78 (0, 0))]) (b := eb) (by omega) ho4 (fun p hp => by
  simp only [List.mem_cons, List.not_mem_nil, or_false] at hp; rcases hp with rfl | rfl
  ·exact .inr ⟨rfl, setRow_at her⟩
  ·exact .inl ⟨by simp, by dsimp only; omega⟩) hB
 exact ⟨⟨some ⟨b, 0, none⟩, 2, 2, max d1 d2 + 1, hF4, exps_far hb hez (by omega) hbr ⟨ho1, ht1, SliceFar.out hK ho (fun b hb _ => by simp at hb; simp; omega) (fun _ h _ => h)⟩ hz _⟩, hk, toldOk_z, hd⟩
theorem product_of (n : Nat) (op : PS → PS × GExp) (hgo : Within T E → ∀ s, Goes T E s (op s).1) (HO' : ∀ (s : PS) (w : World), Rd B g A c T E s w → s.deep + n = 20 → Calls Tryz.prog 226 #[.pointer (some ⟨g, 0, none⟩)] w (ExpPost B g A c T E (op s) w))
 (s : PS) (w : World) (h : Rd B g A c T E s w) (hd : s.deep + n = 20) : Calls Tryz.prog 198 #[.pointer (some ⟨g, 0, none⟩)] w (ExpPost B g A c T E (productP T E op s) w) := by
 have hB := h.size; have hgl := h.glt; have hW := h.within; have HF0 := hZ9 ((Fr.start h).alloc (.cells zeC.toArray 78)); have HO := hZ9 HO'; have Hgo := hZ9 (hgo hW); have t42 : (⟨#[42]⟩ : ByteArray).toList = [42] := toList_mk [42]; have HM := hZ9 (fun (s : PS) (W : World) (hR : Rd B g A c T E s W) => rmay_any hR ⟨#[42]⟩); rw [t42] at HM; have HDg : Hid (∀ s : PS, Fine T E s → (op s).1.deep = s.deep ∧ s.next ≤ (op s).1.next) := fun s hf => ⟨(Hgo.out s hf).deep, (Hgo.out s hf).le⟩
 obtain ⟨Z, HZ⟩ : ∃ Z, Hid (Z = prodL T E op T.length (op s)) := ⟨_, rfl⟩
 have HX : Hid (∀ A' n' c' d w', Rd B g A c T E Z.1 w' → Out [g] w w' → fits Z.2.op → toldOk Z.2.t → SliceFar (Enc.exp d) w' (List.range w.heap.size) A' n' c' Z.2.kids → ExpPost B g A c T E (productP T E op s) w (.returned (.agg (expC Z.2 A' n' c').toArray)) w') := fun A' n' c' d w' hr ho h1 h2 h3 => by
  have e1 : productP T E op s = Z := HZ.out.symm; rw [e1]; exact ⟨A', n', c', d, rfl, hr, ho, h1, h2, h3⟩
 generalize ExpPost B g A c T E (productP T E op s) w = P at *; have HF := hZ9 h.fine; clear h t42 HO' hgo hW Hgo; go_enter Tryz.func198, Tryz.ntmps198
 go_wp2_with fail
 refine (HO.out s _ HF0.out.rd hd).mono ?_; rintro e w1 ⟨A', n', c', d, rfl, hr1, ho1, hf1, ht1, hk1⟩; have hzz : (w.alloc (.cells zeC.toArray 78)).heap.size = w.heap.size + 1 := by simp
 have hF1 := HF0.out.go hr1 ho1; have hz1 : w.heap.size < w1.heap.size := (glt (hF1.row (p := (w.heap.size, Obj.cells zeC.toArray 78 (0, 0))) (by simp)))
 have HJ1 : Hid (ExJ B g A c T E w n w1.heap.size (op s).1 (op s).2 (w1.alloc (.cells (expC (op s).2 A' n' c').toArray 78))) := by
  refine ⟨⟨A', n', c', d, hF1.alloc _, ?_⟩, hf1, ht1, by have := (HDg.out s HF.out).1; omega⟩; rw [hzz] at hk1; refine SliceFar.out hk1 (Out.of_below (belowA (Below.refl _ _) _) []) (fun _ h _ => by cases h) (fun b hb hl => ?_); rcases List.mem_cons.1 hb with rfl | hb
  ·omega
  ·exact hb
 clear hr1 ho1 hf1 ht1 hk1 hF1 hzz HF0 HF hd; generalize hy0 : op s = y0 at *; obtain ⟨ys0, yo0, yt0, yk0⟩ := y0; dsimp only [GExp.op, GExp.t]; go_wp2_with fail
 go_loopg [] (T.length) (fun gk wr => ∃ ys ye, T.length ≤ ys.next + gk ∧ Hid (prodL T E op gk (ys, ye) = Z) ∧ Hid (ExJ B g A c T E w n w1.heap.size ys ye wr))
 case atStart => exact ⟨ys0, .mk yo0 yt0 yk0, Nat.le_add_left _ _, HZ.out.symm, HJ1.out⟩
 case round =>
  clear HJ1; obtain ⟨ys, ye, hnx, HL, HJ⟩ := hrel; go_wp2_with fail
  refine (HM.out ys _ HJ.out.rd).mono ?_; rintro e w2 ⟨rfl, hr2, ho2⟩; cases hc : isP T E ys [42] with
  | true =>
    have hlt := is_some hc; have hm : mayP T E ys [42] = ys.up := by unfold mayP; rw [if_pos hc]
    rw [hm] at hr2; have hJ2 := HJ.out.go hr2 ho2 rfl; obtain ⟨f, rfl⟩ : ∃ f, gk = f + 1 := ⟨gk - 1, by omega⟩
    have hL2 : prodL T E op f ((op ys.up).1, .mk 3 zT [ye, (op ys.up).2]) = Z := by have h := HL.out; rw [prodL, if_pos hc] at h; exact h
    have HL2 := hZ9 hL2; obtain ⟨⟨A1, n1, c1, d1, hF2, hK2⟩, hop, hto, hdp⟩ := hJ2; have hrowe := hF2.row (p := (w1.heap.size, Obj.cells (expC ye A1 n1 c1).toArray 78 (0, 0))) (by simp); have hez := (glt hrowe)
    have hd2 := HDg.out ys.up hF2.rd.fine; have HF2 := hZ9 hF2; have HK2 := hZ9 hK2; dsimp only at hrowe hez; clear hm hr2 ho2 hF2 hK2 hL2 HL HJ HM hc; go_wp2_with fail
    refine bin_region (f := 226) (k := 3) (tb := 3) (n := 14) rfl rfl (by kernel_rfl) (by kernel_rfl) (by kernel_rfl) (fun b => by kernel_rfl) g w1.heap.size ye (op ys.up).2 A1 n1 c1
     (fun A2 n2 c2 W' => ∃ d2, Rd B g A c T E (op ys.up).1 W' ∧ fits (op ys.up).2.op ∧ toldOk (op ys.up).2.t ∧ SliceFar (Enc.exp d2) W' (List.range w2.heap.size) A2 n2 c2 (op ys.up).2.kids)
     rfl rfl hrowe (by omega) _ Tryz.func226 (by kernel_rfl) (by kernel_rfl) (fun A2 n2 c2 W W' hr hb => ?_) (fun W hb hz => ?_) ?_
    ·obtain ⟨d2, h1, h2, h3, h4⟩ := hr; exact ⟨d2, h1.on hb, h2, h3, SliceFar.on h4 hb⟩
    ·refine (HO.out ys.up W (HF2.out.rd.on hb) (by exact hdp)).mono ?_; rintro r w' ⟨A2, n2, c2, d2, rfl, h1, h2, h3, h4, h5⟩; rw [hz] at h5; exact ⟨A2, n2, c2, rfl, ⟨d2, h1, h3, h4, h5⟩, h2⟩
    ·rintro u W A2 n2 c2 b ⟨d2, h1, h2, h3, h4⟩ hbr hb ho her; have HJ4 := hZ9 (ExJ.bin (k := 3) hB fits_3 hz1 hez HF2.out HK2.out hop hto h1 ⟨h2, h3, h4⟩ hbr hb ho her (by rw [hd2.1]; exact hdp)); clear hbr her h1 h2 h3 h4 ho; simp only [List.foldl_cons, List.foldl_nil, Act.put, List.setIfInBounds_toArray, List.set_cons_zero, List.set_cons_succ]; generalize W.setRow w1.heap.size _ = W3 at *; go_wp2_with fail
     go_roundg f
     case measure => omega
     case rel => exact ⟨(op ys.up).1, _, by have := hd2.2; show _ ≤ _ + _; have h9 : ys.up.next = ys.next + 1 := rfl; omega, HL2.out, HJ4.out⟩
  | false =>
    have hm : mayP T E ys [42] = ys := by unfold mayP; rw [if_neg (by rw [hc]; decide)]
    rw [hm] at hr2; have hJ2 := HJ.out.go hr2 ho2 rfl
    have hZ : (ys, ye) = Z := by
     have h := HL.out; cases gk with
     | zero => exact h
     | succ f => rw [prodL, if_neg (by rw [hc]; decide)] at h; exact h
    obtain ⟨⟨A1, n1, c1, d1, hF2, hK2⟩, hop, hto, hdp⟩ := hJ2
    have HX2 : Hid (∀ A' n' c' d w', Rd B g A c T E ys w' → Out [g] w w' → fits ye.op → toldOk ye.t → SliceFar (Enc.exp d) w' (List.range w.heap.size) A' n' c' ye.kids → P (.returned (.agg (expC ye A' n' c').toArray)) w') := by
     have h := HX.out; rw [← hZ] at h; exact h
    have HF2 := hZ9 hF2; have HK2 := hZ9 hK2; have hrow := hF2.row (p := (w.heap.size, Obj.cells zeC.toArray 78 (0, 0))) (by simp); have hrow2 := hF2.row (p := (w1.heap.size, Obj.cells (expC ye A1 n1 c1).toArray 78 (0, 0))) (by simp); obtain ⟨b0, b1, b2, b3, b4, b5⟩ := facts6 hrow; have r0 := froz4 hrow; obtain ⟨a0, a1, a2, a3, a4, a5⟩ := facts6 hrow2; have Hot := hZ9 (And.intro hop hto); clear hm hr2 ho2 hF2 hK2 HL HJ HM hc hZ HX hrow hrow2 hop hto hdp; obtain ⟨yo, yt, yk⟩ := ye; dsimp only [GExp.op, GExp.t] at a0 a1 a2 a3 a4 Hot HX2; go_wp2_with fail
    have ho7 := set6_out w2 w.heap.size (.int .i64 yo) (.string yt.x) (.int .i64 yt.v.k) (.int .i64 yt.v.n) (.string yt.v.s) (.slice A1 n1 c1); have hfin := HF2.out.fin (Nat.le_refl _) ho7 hB; have hk7 := SliceFar.out (U := List.range w.heap.size) HK2.out ho7 (fun b hb _ => by simp at hb; simp; omega) (fun b hb _ => by have := List.mem_range.1 hb; simp; omega); exact bodyPost_ret (v := .agg #[.int .i64 yo, .string yt.x, .int .i64 yt.v.k, .int .i64 yt.v.n, .string yt.v.s, .slice A1 n1 c1]) (by simp [results, Tryz.results198, go_sem, b0, b1, b2, b3, b4, b5]) rfl (HX2.out A1 n1 c1 d1 _ hfin.1 hfin.2 Hot.out.1 Hot.out.2 hk7)
def sumOf' (T : List GTok) (E : Nat) (op : PS → PS × GExp) (s : PS) : PS × GExp := sumL T E op T.length (op s)
theorem sum_of (n : Nat) (op : PS → PS × GExp) (hgo : Within T E → ∀ s, Goes T E s (op s).1) (HO' : ∀ (s : PS) (w : World), Rd B g A c T E s w → s.deep + n = 20 → Calls Tryz.prog 198 #[.pointer (some ⟨g, 0, none⟩)] w (ExpPost B g A c T E (op s) w))
 (s : PS) (w : World) (h : Rd B g A c T E s w) (hd : s.deep + n = 20) : Calls Tryz.prog 169 #[.pointer (some ⟨g, 0, none⟩)] w (ExpPost B g A c T E (sumOf' T E op s) w) := by
 have hB := h.size; have hgl := h.glt; have hW := h.within; have HF0 := hZ9 ((Fr.start h).alloc (.cells zeC.toArray 78)); have HO := hZ9 HO'; have Hgo := hZ9 (hgo hW); have t43 : (⟨#[43]⟩ : ByteArray).toList = [43] := toList_mk [43]; have t45 : (⟨#[45]⟩ : ByteArray).toList = [45] := toList_mk [45]; have HM := hZ9 (fun (s : PS) (W : World) (hR : Rd B g A c T E s W) => rmay_any hR ⟨#[43]⟩); rw [t43] at HM; have HM2 := hZ9 (fun (s : PS) (W : World) (hR : Rd B g A c T E s W) => rmay_any hR ⟨#[45]⟩); rw [t45] at HM2; have HDg : Hid (∀ s : PS, Fine T E s → (op s).1.deep = s.deep ∧ s.next ≤ (op s).1.next) := fun s hf => ⟨(Hgo.out s hf).deep, (Hgo.out s hf).le⟩
 obtain ⟨Z, HZ⟩ : ∃ Z, Hid (Z = sumL T E op T.length (op s)) := ⟨_, rfl⟩
 have HX : Hid (∀ A' n' c' d w', Rd B g A c T E Z.1 w' → Out [g] w w' → fits Z.2.op → toldOk Z.2.t → SliceFar (Enc.exp d) w' (List.range w.heap.size) A' n' c' Z.2.kids → ExpPost B g A c T E (sumOf' T E op s) w (.returned (.agg (expC Z.2 A' n' c').toArray)) w') := fun A' n' c' d w' hr ho h1 h2 h3 => by
  have e1 : sumOf' T E op s = Z := HZ.out.symm; rw [e1]; exact ⟨A', n', c', d, rfl, hr, ho, h1, h2, h3⟩
 generalize ExpPost B g A c T E (sumOf' T E op s) w = P at *; have HF := hZ9 h.fine; clear h t43 t45 HO' hgo hW Hgo; go_enter Tryz.func169, Tryz.ntmps169
 go_wp2_with fail
 refine (HO.out s _ HF0.out.rd hd).mono ?_; rintro e w1 ⟨A', n', c', d, rfl, hr1, ho1, hf1, ht1, hk1⟩; have hzz : (w.alloc (.cells zeC.toArray 78)).heap.size = w.heap.size + 1 := by simp
 have hF1 := HF0.out.go hr1 ho1; have hz1 : w.heap.size < w1.heap.size := (glt (hF1.row (p := (w.heap.size, Obj.cells zeC.toArray 78 (0, 0))) (by simp)))
 have HJ1 : Hid (ExJ B g A c T E w n w1.heap.size (op s).1 (op s).2 (w1.alloc (.cells (expC (op s).2 A' n' c').toArray 78))) := by
  refine ⟨⟨A', n', c', d, hF1.alloc _, ?_⟩, hf1, ht1, by have := (HDg.out s HF.out).1; omega⟩; rw [hzz] at hk1; refine SliceFar.out hk1 (Out.of_below (belowA (Below.refl _ _) _) []) (fun _ h _ => by cases h) (fun b hb hl => ?_); rcases List.mem_cons.1 hb with rfl | hb
  ·omega
  ·exact hb
 clear hr1 ho1 hf1 ht1 hk1 hF1 hzz HF0 HF hd; generalize hy0 : op s = y0 at *; obtain ⟨ys0, yo0, yt0, yk0⟩ := y0; dsimp only [GExp.op, GExp.t]; go_wp2_with fail
 go_loopg [] (T.length) (fun gk wr => ∃ ys ye, T.length ≤ ys.next + gk ∧ Hid (sumL T E op gk (ys, ye) = Z) ∧ Hid (ExJ B g A c T E w n w1.heap.size ys ye wr))
 case atStart => exact ⟨ys0, .mk yo0 yt0 yk0, Nat.le_add_left _ _, HZ.out.symm, HJ1.out⟩
 case round =>
  clear HJ1; obtain ⟨ys, ye, hnx, HL, HJ⟩ := hrel; go_wp2_with fail
  refine (HM.out ys _ HJ.out.rd).mono ?_; rintro e w2 ⟨rfl, hr2, ho2⟩; cases hc : isP T E ys [43] with
  | true =>
    have hlt := is_some hc; have hm : mayP T E ys [43] = ys.up := by unfold mayP; rw [if_pos hc]
    rw [hm] at hr2; have hJ2 := HJ.out.go hr2 ho2 rfl; obtain ⟨f, rfl⟩ : ∃ f, gk = f + 1 := ⟨gk - 1, by omega⟩
    have hL2 : sumL T E op f ((op ys.up).1, .mk 1 zT [ye, (op ys.up).2]) = Z := by have h := HL.out; rw [sumL, if_pos hc] at h; exact h
    have HL2 := hZ9 hL2; obtain ⟨⟨A1, n1, c1, d1, hF2, hK2⟩, hop, hto, hdp⟩ := hJ2; have hrowe := hF2.row (p := (w1.heap.size, Obj.cells (expC ye A1 n1 c1).toArray 78 (0, 0))) (by simp); have hez := (glt hrowe)
    have hd2 := HDg.out ys.up hF2.rd.fine; have HF2 := hZ9 hF2; have HK2 := hZ9 hK2; dsimp only at hrowe hez; clear hm hr2 ho2 hF2 hK2 hL2 HL HJ HM HM2 hc; go_wp2_with fail
    refine bin_region (f := 198) (k := 1) (tb := 3) (n := 23) rfl rfl (by kernel_rfl) (by kernel_rfl) (by kernel_rfl) (fun b => by kernel_rfl) g w1.heap.size ye (op ys.up).2 A1 n1 c1
     (fun A2 n2 c2 W' => ∃ d2, Rd B g A c T E (op ys.up).1 W' ∧ fits (op ys.up).2.op ∧ toldOk (op ys.up).2.t ∧ SliceFar (Enc.exp d2) W' (List.range w2.heap.size) A2 n2 c2 (op ys.up).2.kids)
     rfl rfl hrowe (by omega) _ Tryz.func198 (by kernel_rfl) (by kernel_rfl) (fun A2 n2 c2 W W' hr hb => ?_) (fun W hb hz => ?_) ?_
    ·obtain ⟨d2, h1, h2, h3, h4⟩ := hr; exact ⟨d2, h1.on hb, h2, h3, SliceFar.on h4 hb⟩
    ·refine (HO.out ys.up W (HF2.out.rd.on hb) (by exact hdp)).mono ?_; rintro r w' ⟨A2, n2, c2, d2, rfl, h1, h2, h3, h4, h5⟩; rw [hz] at h5; exact ⟨A2, n2, c2, rfl, ⟨d2, h1, h3, h4, h5⟩, h2⟩
    ·rintro u W A2 n2 c2 b ⟨d2, h1, h2, h3, h4⟩ hbr hb ho her; have HJ4 := hZ9 (ExJ.bin (k := 1) hB fits_1 hz1 hez HF2.out HK2.out hop hto h1 ⟨h2, h3, h4⟩ hbr hb ho her (by rw [hd2.1]; exact hdp)); clear hbr her h1 h2 h3 h4 ho; simp only [List.foldl_cons, List.foldl_nil, Act.put, List.setIfInBounds_toArray, List.set_cons_zero, List.set_cons_succ]; generalize W.setRow w1.heap.size _ = W3 at *; go_wp2_with fail
     go_roundg f
     case measure => omega
     case rel => exact ⟨(op ys.up).1, _, by have := hd2.2; show _ ≤ _ + _; have h9 : ys.up.next = ys.next + 1 := rfl; omega, HL2.out, HJ4.out⟩
  | false =>
    have hm0 : mayP T E ys [43] = ys := by unfold mayP; rw [if_neg (by rw [hc]; decide)]
    rw [hm0] at hr2; have HJ2 := hZ9 (HJ.out.go hr2 ho2 rfl); clear hr2 ho2 hm0; go_wp2_with fail
    refine (HM2.out ys _ HJ2.out.rd).mono ?_; rintro e w3 ⟨rfl, hr3, ho3⟩; cases hc2 : isP T E ys [45] with
    | true =>
      have hlt := is_some hc2; have hm : mayP T E ys [45] = ys.up := by unfold mayP; rw [if_pos hc2]
      rw [hm] at hr3; have hJ2 := HJ2.out.go hr3 ho3 rfl; obtain ⟨f, rfl⟩ : ∃ f, gk = f + 1 := ⟨gk - 1, by omega⟩
      have hL2 : sumL T E op f ((op ys.up).1, .mk 2 zT [ye, (op ys.up).2]) = Z := by have h := HL.out; rw [sumL, if_neg (by rw [hc]; decide), if_pos hc2] at h; exact h
      have HL2 := hZ9 hL2; obtain ⟨⟨A1, n1, c1, d1, hF2, hK2⟩, hop, hto, hdp⟩ := hJ2; have hrowe := hF2.row (p := (w1.heap.size, Obj.cells (expC ye A1 n1 c1).toArray 78 (0, 0))) (by simp); have hez := (glt hrowe)
      have hd2 := HDg.out ys.up hF2.rd.fine; have HF2 := hZ9 hF2; have HK2 := hZ9 hK2; dsimp only at hrowe hez; clear hm hr3 ho3 hF2 hK2 hL2 HL HJ HJ2 HM HM2 hc hc2; go_wp2_with fail
      refine bin_region (f := 198) (k := 2) (tb := 3) (n := 23) rfl rfl (by kernel_rfl) (by kernel_rfl) (by kernel_rfl) (fun b => by kernel_rfl) g w1.heap.size ye (op ys.up).2 A1 n1 c1
       (fun A2 n2 c2 W' => ∃ d2, Rd B g A c T E (op ys.up).1 W' ∧ fits (op ys.up).2.op ∧ toldOk (op ys.up).2.t ∧ SliceFar (Enc.exp d2) W' (List.range w3.heap.size) A2 n2 c2 (op ys.up).2.kids)
       rfl rfl hrowe (by omega) _ Tryz.func198 (by kernel_rfl) (by kernel_rfl) (fun A2 n2 c2 W W' hr hb => ?_) (fun W hb hz => ?_) ?_
      ·obtain ⟨d2, h1, h2, h3, h4⟩ := hr; exact ⟨d2, h1.on hb, h2, h3, SliceFar.on h4 hb⟩
      ·refine (HO.out ys.up W (HF2.out.rd.on hb) (by exact hdp)).mono ?_; rintro r w' ⟨A2, n2, c2, d2, rfl, h1, h2, h3, h4, h5⟩; rw [hz] at h5; exact ⟨A2, n2, c2, rfl, ⟨d2, h1, h3, h4, h5⟩, h2⟩
      ·rintro u W A2 n2 c2 b ⟨d2, h1, h2, h3, h4⟩ hbr hb ho her; have HJ4 := hZ9 (ExJ.bin (k := 2) hB fits_2 hz1 hez HF2.out HK2.out hop hto h1 ⟨h2, h3, h4⟩ hbr hb ho her (by rw [hd2.1]; exact hdp)); clear hbr her h1 h2 h3 h4 ho; simp only [List.foldl_cons, List.foldl_nil, Act.put, List.setIfInBounds_toArray, List.set_cons_zero, List.set_cons_succ]; generalize W.setRow w1.heap.size _ = W3 at *; go_wp2_with fail
       go_roundg f
       case measure => omega
       case rel => exact ⟨(op ys.up).1, _, by have := hd2.2; show _ ≤ _ + _; have h9 : ys.up.next = ys.next + 1 := rfl; omega, HL2.out, HJ4.out⟩
    | false =>
      have hm : mayP T E ys [45] = ys := by unfold mayP; rw [if_neg (by rw [hc2]; decide)]
      rw [hm] at hr3; have hJ2 := HJ2.out.go hr3 ho3 rfl
      have hZ : (ys, ye) = Z := by
       have h := HL.out; cases gk with
       | zero => exact h
       | succ f => rw [sumL, if_neg (by rw [hc]; decide), if_neg (by rw [hc2]; decide)] at h; exact h
      obtain ⟨⟨A1, n1, c1, d1, hF2, hK2⟩, hop, hto, hdp⟩ := hJ2
      have HX2 : Hid (∀ A' n' c' d w', Rd B g A c T E ys w' → Out [g] w w' → fits ye.op → toldOk ye.t → SliceFar (Enc.exp d) w' (List.range w.heap.size) A' n' c' ye.kids → P (.returned (.agg (expC ye A' n' c').toArray)) w') := by
       have h := HX.out; rw [← hZ] at h; exact h
      have HF2 := hZ9 hF2; have HK2 := hZ9 hK2; have hrow := hF2.row (p := (w.heap.size, Obj.cells zeC.toArray 78 (0, 0))) (by simp); have hrow2 := hF2.row (p := (w1.heap.size, Obj.cells (expC ye A1 n1 c1).toArray 78 (0, 0))) (by simp); obtain ⟨b0, b1, b2, b3, b4, b5⟩ := facts6 hrow; have r0 := froz4 hrow; obtain ⟨a0, a1, a2, a3, a4, a5⟩ := facts6 hrow2; have Hot := hZ9 (And.intro hop hto); clear hm hr3 ho3 hF2 hK2 HL HJ HJ2 HM HM2 hc hc2 hZ HX hrow hrow2 hop hto hdp; obtain ⟨yo, yt, yk⟩ := ye; dsimp only [GExp.op, GExp.t] at a0 a1 a2 a3 a4 Hot HX2; go_wp2_with fail
      have ho7 := set6_out w3 w.heap.size (.int .i64 yo) (.string yt.x) (.int .i64 yt.v.k) (.int .i64 yt.v.n) (.string yt.v.s) (.slice A1 n1 c1); have hfin := HF2.out.fin (Nat.le_refl _) ho7 hB; have hk7 := SliceFar.out (U := List.range w.heap.size) HK2.out ho7 (fun b hb _ => by simp at hb; simp; omega) (fun b hb _ => by have := List.mem_range.1 hb; simp; omega); exact bodyPost_ret (v := .agg #[.int .i64 yo, .string yt.x, .int .i64 yt.v.k, .int .i64 yt.v.n, .string yt.v.s, .slice A1 n1 c1]) (by simp [results, Tryz.results169, go_sem, b0, b1, b2, b3, b4, b5]) rfl (HX2.out A1 n1 c1 d1 _ hfin.1 hfin.2 Hot.out.1 Hot.out.2 hk7)
theorem rsum_any : ∀ (n : Nat) (s : PS) (w : World), Rd B g A c T E s w → s.deep + n = 20 → Calls Tryz.prog 169 #[.pointer (some ⟨g, 0, none⟩)] w (ExpPost B g A c T E (sumP T E n s) w) := by
 intro n; induction n with
 | zero =>
   intro s w h hd; have hW := h.within; have e1 : sumP T E 0 = sumOf' T E (productP T E (operandP T E (innerP T E 0))) := rfl; rw [e1]; exact sum_of 0 _ (fun hW => product_goes (operand_goes hW _ (fun f hf => by cases hf))) (fun s w h hd => product_of 0 _ (fun hW => operand_goes hW _ (fun f hf => by cases hf)) (fun s w h hd => operand_of 0 (fun m hm => by omega) s w h hd) s w h hd) s w h hd
 | succ m ih =>
   intro s w h hd; have e1 : sumP T E (m + 1) = sumOf' T E (productP T E (operandP T E (innerP T E (m + 1)))) := rfl; rw [e1]; have hgo : Within T E → ∀ s, Goes T E s (operandP T E (innerP T E (m + 1)) s).1 := fun hW => operand_goes hW _ (fun f hf => by injection hf with hf; subst hf; exact sum_goes hW m)
   exact sum_of (m + 1) _ (fun hW => product_goes (hgo hW)) (fun s w h hd => product_of (m + 1) _ hgo (fun s w h hd => operand_of (m + 1) (fun k hk s w h hd => by
    obtain rfl : m = k := by omega
    exact ih s w h hd) s w h hd) s w h hd) s w h hd
end
end Go.Proofs.YtaeedepojpablaaGreatDoor
