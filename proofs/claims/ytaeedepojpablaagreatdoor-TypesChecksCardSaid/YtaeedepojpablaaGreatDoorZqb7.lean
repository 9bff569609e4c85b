/- My own texts TyRk, as far as this claim needs them. -/
import Derived.Test.YtaeedepojpablaaGreatDoorZqb6
set_option linter.unusedVariables false
set_option linter.unusedSimpArgs false
set_option maxRecDepth 1000000
set_option maxHeartbeats 16000000
namespace Go.Proofs.YtaeedepojpablaaGreatDoor
open Go.RowKit
theorem lit_infoD : (Tryz.prog.info? 107).map (fun i => (i.zero, i.size)) = some (some (.agg zLit.toArray), zLit.toArray.size) := by kernel_rfl
theorem lit_sizeD (x : GLit) (a p q : Hd) : (Tryz.prog.info? 107).map (·.size) = some (litC x a p q).length := by
 show _ = some 17; kernel_rfl
structure LitBox (W : World) (lb : Nat) (z : GLit) (pA : Option Addr) (pn pc : Nat) (qA : Option Addr) (qn qc : Nat) : Prop where
 k : W.cell? ⟨lb, 0, none⟩ = some (.int .i64 z.k)
 op : W.cell? ⟨lb, 3, none⟩ = some (.int .i64 z.op)
 l : W.cell? ⟨lb, 4, none⟩ = some (.int .i64 z.l.op) ∧ W.cell? ⟨lb, 5, none⟩ = some (.string z.l.t.x) ∧ W.cell? ⟨lb, 6, none⟩ = some (.int .i64 z.l.t.v.k) ∧ W.cell? ⟨lb, 7, none⟩ = some (.int .i64 z.l.t.v.n) ∧ W.cell? ⟨lb, 8, none⟩ = some (.string z.l.t.v.s) ∧ W.cell? ⟨lb, 9, none⟩ = some (.slice pA pn pc)
 r : W.cell? ⟨lb, 10, none⟩ = some (.int .i64 z.r.op) ∧ W.cell? ⟨lb, 11, none⟩ = some (.string z.r.t.x) ∧ W.cell? ⟨lb, 12, none⟩ = some (.int .i64 z.r.t.v.k) ∧ W.cell? ⟨lb, 13, none⟩ = some (.int .i64 z.r.t.v.n) ∧ W.cell? ⟨lb, 14, none⟩ = some (.string z.r.t.v.s) ∧ W.cell? ⟨lb, 15, none⟩ = some (.slice qA qn qc)
theorem litBox {W : World} {lb : Nat} {T : TypeId} {z : GLit} {a : Hd} {pA : Option Addr} {pn pc : Nat} {qA : Option Addr} {qn qc : Nat} (h : W.heap[lb]? = some (.cells (litC z a ⟨pA, pn, pc⟩ ⟨qA, qn, qc⟩).toArray T (0, 0))) : LitBox W lb z pA pn pc qA qn qc := by
 obtain ⟨f0, -, -, f3, f4, f5, f6, f7, f8, f9, f10, f11, f12, f13, f14, f15, -⟩ := facts17 h; exact ⟨f0, f3, ⟨f4, f5, f6, f7, f8, f9⟩, f10, f11, f12, f13, f14, f15⟩
theorem numbersK_take {l : Kinds} {L : List GTold} {m : Nat} {t : GTold} (h : L[m]? = some t) : numbersK l (L.take (m + 1)) = kput (numbersK l (L.take m)) t.x 1 := by
 rw [List.take_add_one, h, Option.toList_some, numbersK_snoc]
theorem told_take {ds : List GDecl} {x : GRule} (j : Nat) : Told (varsR x) [] ((x.body.take j).foldl (fun l y => atomK ds l y.atom (-1)) (argsK (kindsD ds x.head.rel) (colK x) [] x.head.args 0)) :=
 Told.head.trans (Told.bodyS _ _ fun z hz => varsR_body z (List.mem_of_mem_take hz))
theorem told_rounds {vs : List ByteArray} {x : GRule} (hv : vs = varsR x) {l : Kinds} (h : Told vs [] l) (j : Nat) : Told vs [] (roundK leavesE (x.body.take j) l) := by
 subst hv; exact h.trans (Told.round _ _ fun z hz => varsR_body z (List.mem_of_mem_take hz))
theorem told_stK {vs : List ByteArray} {x : GRule} (hv : vs = varsR x) {l : Kinds} (h : Told vs [] l) {y : GLit} (hy : y ∈ x.body) (k : Nat) : Told vs [] (stK l y k) := by
 subst hv; have hV := varsR_body y hy; have hl : ∀ t ∈ leavesE y.l, t.x ∈ varsR x := fun t ht => hV _ (by unfold varsY; simp only [List.mem_append, List.mem_map]; exact .inr (.inl ⟨t, ht, rfl⟩))
 have hr : ∀ t ∈ leavesE y.r, t.x ∈ varsR x := fun t ht => hV _ (by unfold varsY; simp only [List.mem_append, List.mem_map]; exact .inr (.inr (.inl ⟨t, ht, rfl⟩)))
 have h1 : Told (varsR x) [] (st1 l y) := by
  unfold st1; split
  ·exact h.trans (Told.numbers _ _ hl)
  ·exact h
 match k with
 | 0 => exact h
 | 1 => exact h1
 | _ + 2 =>
   show Told _ _ (if _ then _ else _); split
   ·exact h1.trans (Told.numbers _ _ hr)
   ·exact h1
theorem leaves_sd {y : GLit} (h : rightLit y = true) (k : Nat) : (leavesE (sdK y k)).length ≤ 1048576 := by
 have := right_leaves h; unfold sdK; split
 ·exact this.1
 ·exact this.2
theorem told_num {vs : List ByteArray} {x : GRule} (hv : vs = varsR x) {l : Kinds} (h : Told vs [] l) {y : GLit} (hy : y ∈ x.body) (k m : Nat) : Told vs [] (numbersK l ((leavesE (sdK y k)).take m)) := by
 subst hv; have hV := varsR_body y hy; refine h.trans (Told.numbers _ _ fun t ht => hV _ ?_); have ht := List.mem_of_mem_take ht; unfold sdK at ht; unfold varsY; simp only [List.mem_append, List.mem_map]; split at ht
 ·exact .inr (.inl ⟨t, ht, rfl⟩)
 ·exact .inr (.inr (.inl ⟨t, ht, rfl⟩))
def RefKindsPost (l : Kinds) (w : World) (r : Ending) (w' : World) : Prop := ∃ A c, r = .returned (.slice A l.length c) ∧ KOwn w' w.heap.size A c l ∧ Below w.heap.size w w'
theorem refKinds_any (d : Nat) (aA : Option Addr) (an ac : Nat) (bv : Value) (ds : List GDecl) (y : GRule) (a b : Hd) (w : World) (hD : SliceIs Enc.decl w w.heap.size aA an ac ds) (hy : RuleAt d w w.heap.size y a b) (hrr : rightRule y = true) :
 Calls Tryz.prog 18 #[.agg #[.slice aA an ac, bv], .agg (ruleC y a b).toArray] w (RefKindsPost (kindsR ds y) w) := by
 have mixed : Tryz.prog.follows .mixedOrders = true := by kernel_rfl
 obtain ⟨hA, hn, hc⟩ := a; obtain ⟨mA, mn, mc⟩ := b; obtain ⟨base, Hbase⟩ : ∃ base, Hid (w.heap.size = base) := ⟨_, rfl⟩
 obtain ⟨V, hV⟩ : ∃ V, V = (w.alloc (.cells #[.slice aA an ac, bv] 34)).alloc (.cells (ruleC y ⟨hA, hn, hc⟩ ⟨mA, mn, mc⟩).toArray 65) := ⟨_, rfl⟩
 have HVe := hZ9 hV.symm; have hb : Below w.heap.size w V := by rw [hV]; exact belowA (belowA (Below.refl _ _) _) _
 have hr0 : V.heap[w.heap.size]? = some (.cells #[.slice aA an ac, bv] 34 (0, 0)) := by rw [hV]; exact heapOld (heapNew rfl)
 have hr1 : V.heap[w.heap.size + 1]? = some (.cells (ruleC y ⟨hA, hn, hc⟩ ⟨mA, mn, mc⟩).toArray 65 (0, 0)) := by rw [hV]; exact heapNew (by simp)
 have HCell : Hid (∀ W, KeepsT 121 V W → (W.cell? ⟨w.heap.size, 0, none⟩ = some (.slice aA an ac) ∧ W.cell? ⟨w.heap.size, 1, none⟩ = some bv) ∧ W.cell? ⟨w.heap.size + 1, 0, none⟩ = some (.string y.head.rel) ∧ W.cell? ⟨w.heap.size + 1, 1, none⟩ = some (.slice hA hn hc) ∧ W.cell? ⟨w.heap.size + 1, 2, none⟩ = some (.int .i64 y.agg) ∧ W.cell? ⟨w.heap.size + 1, 3, none⟩ = some (.int .i64 y.col) ∧ W.cell? ⟨w.heap.size + 1, 4, none⟩ = some (.slice mA mn mc) ∧ W.cell? ⟨w.heap.size + 1, 5, none⟩ = some (.int .i64 y.pos)) := fun W hW =>
  ⟨facts2 (hW _ _ _ _ hr0 (by decide)), facts6 (hW _ _ _ _ hr1 (by decide))⟩
 have hzV : V.heap.size = w.heap.size + 2 := by rw [hV]; simp
 have HzV := hZ9 hzV; have hbV : base ≤ V.heap.size := by rw [← Hbase.out]; exact hb.size
 have HB : Hid (Below base w V) := by show Below _ _ _; rw [← Hbase.out]; exact hb
 have hyV : RuleAt d V base y ⟨hA, hn, hc⟩ ⟨mA, mn, mc⟩ := by rw [← Hbase.out]; exact hy.mono' (Nat.le_refl _) (Kept.of hb.block)
 have HDV : Hid (SliceIs Enc.decl V base aA an ac ds) := by show SliceIs _ _ _ _ _ _ _; rw [← Hbase.out]; exact hD.mono' (Nat.le_refl _) (Kept.of hb.block)
 have HY := hZ9 hyV; have hmn := hy.body.bound; have Hml : Hid (y.body.length = mn) := hy.body.1; have Hhl : Hid (y.head.args.length = hn) := hy.args.1; have Hrr := hZ9 hrr; have HVs := hZ9 (right_varsR hrr); have HRB := hZ9 (right_body hrr).2
 have HAt : Hid (∀ (W : World) (Al : Option Addr) (cl : Nat) (l : Kinds) (x : GAtom) (A : Option Addr) (n c : Nat) (but : Int), KJ base V W Al cl l → SliceIs Enc.told V base A n c x.args → l.length ≤ 20000000 → x.args.length ≤ 20000000 →
  Calls Tryz.prog 40 #[.agg #[.slice aA an ac, bv], .slice Al l.length cl, .agg #[.string x.rel, .slice A n c], .int .i64 but] W (RefKPost base (argsK (kindsD ds x.rel) but l x.args 0) W)) := fun W Al cl l x A n c but hJ ha h1 h2 =>
  refAtomK_any base aA an ac bv ds Al cl l x.rel A n c x.args but W (Nat.le_trans hbV hJ.z) hJ.own (HDV.out.mono' (Nat.le_refl _) (Kept.of hJ.b.block)) (ha.mono' (Nat.le_refl _) (Kept.of hJ.b.block)) (by have := ha.1; omega)
 obtain ⟨P, HP⟩ : ∃ P : Ending → World → Prop, Hid (P = RefKindsPost (kindsR ds y) w) := ⟨_, rfl⟩
 rw [← HP.out]; obtain ⟨Z, HZ⟩ : ∃ Z, Hid (kindsR ds y = Z) := ⟨_, rfl⟩
 have HEnd : Hid (∀ W Ao co, KJ base V W Ao co Z → P (.returned (.slice Ao Z.length co)) W) := fun W Ao co hJ => by
  rw [HP.out, HZ.out]; refine ⟨Ao, co, rfl, ?_, ?_⟩
  ·rw [Hbase.out]; exact hJ.own
  ·rw [Hbase.out]; exact HB.out.trans hJ.b
 have HZ1 : Hid (kindsF leavesE y.body ((varsR y).length + 1) (startK ds y) = Z) := HZ.out; obtain ⟨but, Hbut⟩ : ∃ but, Hid (colK y = but) := ⟨_, rfl⟩
 have HCo := hZ9 (refColumn_any y ⟨hA, hn, hc⟩ ⟨mA, mn, mc⟩ V.drew); rw [Hbut.out] at HCo; have hbd : Below V.heap.size V V.drew := (Below.refl _ _).drew; have hJ1 : KJ base V (V.drew.alloc (.cells (ruleC y ⟨hA, hn, hc⟩ ⟨mA, mn, mc⟩).toArray 65)) none 0 [] := KJ.on (KJ.self (KOwn.nil _ _)) (belowA hbd _) hbV; have HJ1 := hZ9 hJ1
 have HA1 := hZ9 (HAt.out _ none 0 [] y.head hA hn hc but hJ1 hyV.args (by simp) (by
  have := HVs.out; unfold varsR at this; simp only [List.length_append, List.length_map] at this
  omega))
 have HS0 : Hid (argsK (kindsD ds y.head.rel) but [] y.head.args 0 = (y.body.take 0).foldl (fun l y => atomK ds l y.atom (-1)) (argsK (kindsD ds y.head.rel) (colK y) [] y.head.args 0)) := by show _ = _; rw [Hbut.out]; rfl
 rw [HS0.out] at HA1; obtain ⟨S, HS⟩ : ∃ S : Nat → Kinds, Hid (S = fun j => (y.body.take j).foldl (fun l y => atomK ds l y.atom (-1)) (argsK (kindsD ds y.head.rel) (colK y) [] y.head.args 0)) := ⟨_, rfl⟩
 have HSn : Hid (∀ (j : Nat) (z : GLit), y.body[j]? = some z → argsK (kindsD ds z.atom.rel) (-1) (S j) z.atom.args 0 = S (j + 1)) := fun j z hz => by rw [HS.out]; exact (bodyS_take hz).symm
 have HSt : Hid (∀ j, Told (varsR y) [] (S j)) := fun j => by rw [HS.out]; exact told_take j
 have HSm : Hid (∀ j, (S j).length ≤ 20000000) := fun j => Nat.le_trans (HSt.out j).most HVs.out
 have HSe : Hid (S mn = startK ds y) := by
  show _ = _; rw [HS.out]; show (y.body.take mn).foldl _ _ = _; rw [List.take_of_length_le (by have := Hml.out; omega)]; rfl
 have HSz : Hid ((y.body.take 0).foldl (fun l y => atomK ds l y.atom (-1)) (argsK (kindsD ds y.head.rel) (colK y) [] y.head.args 0) = S 0) := by show _ = _; rw [HS.out]
 rw [HSz.out] at HA1; rw [← HSe.out] at HZ1; obtain ⟨⟨p0, p1⟩, r0, r1, r2, r3, r4, r5⟩ := HCell.out V (KeepsT.refl _ _); clear hV hb hr0 hr1 hD hy hzV hyV hrr hJ1 hbd HS0 HSz HSe HS; go_enter Tryz.func18, Tryz.ntmps18
 go_wp2_with (rw [HVe.out])
 go_region_held3 (fun W => W.cell? ⟨w.heap.size, 0, none⟩ = some (.slice aA an ac) ∧ W.cell? ⟨w.heap.size, 1, none⟩ = some bv ∧ W.cell? ⟨w.heap.size + 1, 0, none⟩ = some (.string y.head.rel) ∧ W.cell? ⟨w.heap.size + 1, 1, none⟩ = some (.slice hA hn hc) ∧ W.cell? ⟨w.heap.size + 1, 2, none⟩ = some (.int .i64 y.agg) ∧ W.cell? ⟨w.heap.size + 1, 3, none⟩ = some (.int .i64 y.col) ∧ W.cell? ⟨w.heap.size + 1, 4, none⟩ = some (.slice mA mn mc) ∧ W.cell? ⟨w.heap.size + 1, 5, none⟩ = some (.int .i64 y.pos))
  (go_keep)
  ((first
    | (go_at_call 32
       refine HCo.out.mono ?_; rintro e w1 ⟨rfl, hw1⟩; have HW1 := hZ9 hw1; obtain ⟨⟨k0, k1⟩, k2, k3, k4, k5, k6, k7⟩ := HCell.out w1 (by rw [hw1]; exact HJ1.out.k); rw [← hw1] at HA1 HJ1
       clear hw1)
    | (go_at_call 40
       refine HA1.out.mono ?_; rintro e w2 ⟨A2, c2, rfl, ho2, hb2, hz2, hk2⟩; have HJ2 := hZ9 (HJ1.out.go ho2 hb2 hz2 hk2); obtain ⟨⟨k0, k1⟩, k2, k3, k4, k5, k6, k7⟩ := HCell.out w2 (HJ1.out.k.trans hk2)
       clear ho2 hb2 hz2 hk2)))
 all_goals
  clear p0 p1 r0 r1 r2 r3 r4 r5 HA1 HJ1 HCo; go_wp2_with fail
  clear k0 k1 k2 k3 k4 k5 k6 k7; go_loopw [5, 6] (fun t i wr => ∃ (k : Nat) (Ao : Option Addr) (co : Nat), k ≤ mn ∧ i = .int .i64 (k : Int) ∧ t = .slice Ao (S k).length co ∧ Hid (KJ base V wr Ao co (S k))) (fun _ i _ => mn - (intOf i).toNat)
  case atStart => exact ⟨0, A2, c2, by omega, rfl, rfl, HJ2⟩
  case round =>
   clear HJ2; obtain ⟨k, Ao, co, hk, rfl, rfl, HJ⟩ := hrel; have i0 : (0 : Int) ≤ (k : Int) := by omega
   obtain ⟨⟨k0, k1⟩, -, -, -, -, k6, -⟩ := HCell.out wr HJ.out.k; by_cases hlt : k < mn
   ·have i1 : (k : Int) < (mn : Int) := by omega
    obtain ⟨bb, o, z, a', p', q', rfl, hbb, hz, hlz, Hr⟩ := HY.out.body.lit_range hlt; obtain ⟨zA, zn, zc⟩ := a'; have HLc : Hid (∀ W, Below base V W → W.cell? ⟨bb, o + k * 17 + 1, none⟩ = some (.string z.atom.rel) ∧ W.cell? ⟨bb, o + k * 17 + 2, none⟩ = some (.slice zA zn zc)) := fun W hW => ⟨(hW.cell (p := ⟨bb, _, none⟩) hbb).trans (Hr.out 1 _ rfl), (hW.cell (p := ⟨bb, _, none⟩) hbb).trans (Hr.out 2 _ rfl)⟩
    obtain ⟨k8, k9⟩ := HLc.out wr HJ.out.b; have hbd : Below wr.heap.size wr wr.drew := (Below.refl _ _).drew; have HJd := hZ9 (HJ.out.on hbd hbV); have HA := hZ9 (HAt.out wr.drew Ao co (S k) z.atom zA zn zc (-1) HJd.out hlz.args (HSm.out k) (by have := right_args (HRB.out z (List.mem_of_getElem? hz.out)); omega)); rw [HSn.out k z hz.out] at HA; clear hbd hlz hz Hr HJ; go_wp2_with fail
    go_region_held3 (fun W => W.cell? ⟨w.heap.size, 0, none⟩ = some (.slice aA an ac) ∧ W.cell? ⟨w.heap.size, 1, none⟩ = some bv ∧ W.cell? ⟨w.heap.size + 1, 4, none⟩ = some (.slice (some ⟨bb, o, none⟩) mn mc) ∧ W.cell? ⟨bb, o + k * 17 + 1, none⟩ = some (.string z.atom.rel) ∧ W.cell? ⟨bb, o + k * 17 + 2, none⟩ = some (.slice zA zn zc))
     (go_keep)
     ((first
       | (go_at_call 40
          refine HA.out.mono ?_; rintro e w3 ⟨A3, c3, rfl, ho3, hb3, hz3, hk3⟩; have HJ3 := hZ9 (HJd.out.go ho3 hb3 hz3 hk3); obtain ⟨⟨q0, q1⟩, -, -, -, -, q6, -⟩ := HCell.out w3 HJ3.out.k; obtain ⟨q8, q9⟩ := HLc.out w3 HJ3.out.b
          clear ho3 hb3 hz3 hk3)))
    all_goals
     clear k0 k1 k6 k8 k9 q0 q1 q6 q8 q9 HA HJd HLc; go_wp2_with fail
     go_roundw
     case rel => exact ⟨k + 1, A3, c3, by omega, by go_num, rfl, HJ3⟩
     case measure => simp [intOf]; omega
   ·have i1 : ¬ (k : Int) < (mn : Int) := by omega
    obtain rfl : mn = k := by omega
    have HT0 := hZ9 (HSt.out mn); obtain ⟨sk, Hsk⟩ : ∃ sk, Hid (S mn = sk) := ⟨_, rfl⟩
    rw [Hsk.out] at HJ HZ1 HT0 ⊢; clear k0 k1 HAt HSn HSm HSt Hsk; go_wp2_with fail
    clear k6; go_loopg [5, 7, 8, 9, 11, 12, 13] ((varsR y).length + 1) (fun gk t _ _ _ _ _ _ wr => ∃ (lk : Kinds) (Ao : Option Addr) (co : Nat), t = .slice Ao lk.length co ∧ Hid (KJ base V wr Ao co lk) ∧ Hid (Told (varsR y) [] lk) ∧ Hid (kindsF leavesE y.body gk lk = Z ∧ (varsR y).length + 1 ≤ gk + lk.length))
    case atStart => exact ⟨sk, Ao, co, rfl, HJ, HT0, HZ1.out, by omega⟩
    case round =>
     clear HJ HT0 HZ1; obtain ⟨lk, Ao, co, rfl, HJ, HTk, HF⟩ := hrel; have hmost := HTk.out.most; have hgk := HF.out.2; obtain ⟨f, rfl⟩ : ∃ f, gk = f + 1 := ⟨gk - 1, by omega⟩
     have HGo := hZ9 (rounds_go HF.out.1 HF.out.2 HTk.out); obtain ⟨R, HR⟩ : ∃ R : Nat → Kinds, Hid (R = fun j => roundK leavesE (y.body.take j) lk) := ⟨_, rfl⟩
     have HRn : Hid (∀ (j : Nat) (z : GLit), y.body[j]? = some z → R (j + 1) = if z.k = 3 then cmpK leavesE (R j) z else R j) := fun j z hz => by rw [HR.out]; exact roundK_take hz
     have HRt : Hid (∀ j, Told (varsR y) [] (R j)) := fun j => by rw [HR.out]; exact told_rounds rfl HTk.out j
     have HRe : Hid (R mn = roundK leavesE y.body lk) := by
      show _ = _; rw [HR.out]; show roundK leavesE (y.body.take mn) lk = _; rw [List.take_of_length_le (by have := Hml.out; omega)]
     have HR0 : Hid (R 0 = lk) := by show _ = _; rw [HR.out]; rfl
     obtain ⟨lm, Hlm⟩ : ∃ lm, Hid (lk.length = lm) := ⟨_, rfl⟩
     rw [← HRe.out, Hlm.out] at HGo
     have HEq : Hid (¬ lm < (R mn).length → (R mn).length = lm) := fun h => by
      rw [HRe.out] at h ⊢; rcases round_grows leavesE y.body lk with h1 | h1
      ·rw [h1]; exact Hlm.out
      ·rw [← Hlm.out] at h; exact absurd h1 h
     have HJ0 : Hid (KJ base V wr Ao co (R 0)) := by show KJ _ _ _ _ _ _; rw [HR0.out]; exact HJ.out
     have hl0 : lk.length = (R 0).length := by rw [HR0.out]
     rw [hl0] at Hlm ⊢; have HF2 : Hid (f + 1 ≥ 1) := by show _ ≥ _; omega
     clear hmost hgk HF HTk HJ HR HRe HR0 hl0 HF2; go_wp2_with fail
     rw [Hlm.out]; go_loopw [5, 8, 9, 11, 12, 13] (fun t i _ _ _ _ wr => ∃ (j : Nat) (Ao : Option Addr) (co : Nat), j ≤ mn ∧ i = .int .i64 (j : Int) ∧ (∃ ln : Nat, t = .slice Ao ln co ∧ Hid ((R j).length = ln)) ∧ Hid (KJ base V wr Ao co (R j))) (fun _ i _ _ _ _ _ => mn - (intOf i).toNat)
     case atStart => exact ⟨0, Ao, co, by omega, rfl, ⟨lm, rfl, Hlm⟩, HJ0⟩
     case round =>
      clear HJ0; obtain ⟨j, Ao, co, hj, rfl, ⟨ln, rfl, hln⟩, HJ⟩ := hrel; obtain rfl : (R j).length = ln := hln.out; obtain ⟨-, -, -, -, -, k6, -⟩ := HCell.out wr HJ.out.k; have i0 : (0 : Int) ≤ (j : Int) := by omega
      by_cases hlt : j < mn
      ·have i1 : (j : Int) < (mn : Int) := by omega
       obtain ⟨bb, o, z, a', p', q', rfl, hbb, hz, hlz, Hr⟩ := HY.out.body.lit_range hlt; obtain ⟨pA, pn, pc⟩ := p'; obtain ⟨qA, qn, qc⟩ := q'; have Hrw : Hid (wr.rangeAt bb (o + j * 17) (litC z a' ⟨pA, pn, pc⟩ ⟨qA, qn, qc⟩)) := fun i v hv => (HJ.out.b.cell (p := ⟨bb, _, none⟩) hbb).trans (Hr.out i v hv)
       obtain ⟨lb, Hlb⟩ : ∃ lb, Hid (wr.heap.size = lb) := ⟨_, rfl⟩
       obtain ⟨Q, hQ⟩ : ∃ Q, Q = wr.alloc (.cells (litC z a' ⟨pA, pn, pc⟩ ⟨qA, qn, qc⟩).toArray 107) := ⟨_, rfl⟩
       have HQe := hZ9 hQ.symm; have hbQ : Below wr.heap.size wr Q := by rw [hQ]; exact belowA (Below.refl _ _) _
       have hrQ : Q.heap[lb]? = some (.cells (litC z a' ⟨pA, pn, pc⟩ ⟨qA, qn, qc⟩).toArray 107 (0, 0)) := by rw [hQ]; exact heapNew Hlb.out
       have HLb : Hid (∀ W, KeepsT 121 Q W → LitBox W lb z pA pn pc qA qn qc) := fun W hW => litBox (hW _ _ _ _ hrQ (by decide))
       have HJQ := hZ9 (HJ.out.on hbQ hbV); have hrz := HRB.out z (List.mem_of_getElem? hz.out); have HTz : Hid (∀ k, Told (varsR y) [] (stK (R j) z k)) := fun k => told_stK rfl (HRt.out j) (List.mem_of_getElem? hz.out) k
       have HTn : Hid (∀ k m, Told (varsR y) [] (numbersK (stK (R j) z k) ((leavesE (sdK z k)).take m))) := fun k m => told_num rfl (HTz.out k) (List.mem_of_getElem? hz.out) k m
       have HLv : Hid (∀ k, (leavesE (sdK z k)).length ≤ 1048576) := leaves_sd hrz; have HRj := hZ9 (HRn.out j z hz.out); have Hlz := hZ9 hlz; have hfk := (HLb.out Q (KeepsT.refl _ _)).k; have hbvQ : base ≤ Q.heap.size := Nat.le_trans hbV HJQ.out.z; clear hQ hbQ hrQ hlz hz Hr HJ hrz; by_cases hk3 : z.k = 3
       rotate_left
       ·have e3 : (z.k != 3) = true := by simpa using hk3
        have HRs : Hid (R (j + 1) = R j) := HRj.out.trans (if_neg hk3); clear hk3 HRj HTz HTn HLv HLb
        go_wp2_with (first
         | rw [HQe.out]
         | rw [Hlb.out]
         | refine wpList_load_mid rfl 107 (.tmp 48) rfl bb (o + j * 17) rfl (litC z a' ⟨pA, pn, pc⟩ ⟨qA, qn, qc⟩) _ Hrw.out Tryz.underlying107 rfl (lit_sizeD _ _ _ _) ?_
         | refine wpList_new rfl rfl 107 9 (.tmp 49) rfl rfl rfl rfl _ (litC z a' ⟨pA, pn, pc⟩ ⟨qA, qn, qc⟩).toArray lit_infoD rfl (lit_one _ _ _ _) rfl rfl ?_)
        go_roundw
        case rel => exact ⟨j + 1, Ao, co, by omega, by go_num, ⟨_, rfl, by show _ = _; rw [HRs.out]⟩, by show KJ _ _ _ _ _ _; rw [HRs.out]; exact HJQ.out⟩
        case measure => simp [intOf]; omega
       have e3 : (z.k != 3) = false := by simpa using hk3
       have HRs : Hid (R (j + 1) = cmpK leavesE (R j) z) := HRj.out.trans (if_pos hk3); obtain ⟨-, g3, ⟨g4, g5, g6, g7, g8, g9⟩, g10, g11, g12, g13, g14, g15⟩ := HLb.out Q (KeepsT.refl _ _); obtain ⟨Q2, hQ2⟩ : ∃ Q2, Q2 = Q.alloc (.cells #[.int .i64 z.l.op, .string z.l.t.x, .int .i64 z.l.t.v.k, .int .i64 z.l.t.v.n, .string z.l.t.v.s, .slice pA pn pc, .int .i64 z.r.op, .string z.r.t.x, .int .i64 z.r.t.v.k, .int .i64 z.r.t.v.n, .string z.r.t.v.s, .slice qA qn qc] 105) := ⟨_, rfl⟩
       have HQ2e := hZ9 hQ2.symm; obtain ⟨sb, Hsb⟩ : ∃ sb, Hid (Q.heap.size = sb) := ⟨_, rfl⟩
       have hbQ2 : Below Q.heap.size Q Q2 := by rw [hQ2]; exact belowA (Below.refl _ _) _
       have hrQ2 : Q2.heap[sb]? = some (.cells #[.int .i64 z.l.op, .string z.l.t.x, .int .i64 z.l.t.v.k, .int .i64 z.l.t.v.n, .string z.l.t.v.s, .slice pA pn pc, .int .i64 z.r.op, .string z.r.t.x, .int .i64 z.r.t.v.k, .int .i64 z.r.t.v.n, .string z.r.t.v.s, .slice qA qn qc] 105 (0, 0)) := by rw [hQ2]; exact heapNew Hsb.out
       have HSide : Hid (∀ k, k < 2 → ∃ (e : GExp) (eA : Option Addr) (en ec : Nat), sdK z k = e ∧ SliceIs (Enc.exp d) V base eA en ec e.kids ∧ ∀ W, KeepsT 121 Q2 W →
        W.cell? ⟨sb, k * 6, none⟩ = some (.int .i64 e.op) ∧ W.cell? ⟨sb, k * 6 + 1, none⟩ = some (.string e.t.x) ∧ W.cell? ⟨sb, k * 6 + 2, none⟩ = some (.int .i64 e.t.v.k) ∧ W.cell? ⟨sb, k * 6 + 3, none⟩ = some (.int .i64 e.t.v.n) ∧ W.cell? ⟨sb, k * 6 + 4, none⟩ = some (.string e.t.v.s) ∧ W.cell? ⟨sb, k * 6 + 5, none⟩ = some (.slice eA en ec)) := fun k hk2 => by
        rcases (show k = 0 ∨ k = 1 by omega) with rfl | rfl
        ·refine ⟨z.l, pA, pn, pc, rfl, Hlz.out.lk, fun W hW => ?_⟩; have hr := hW _ _ _ _ hrQ2 (by decide); exact ⟨(cell_of_row _ _ 0 _ _ _ hr).trans rfl, (cell_of_row _ _ 1 _ _ _ hr).trans rfl, (cell_of_row _ _ 2 _ _ _ hr).trans rfl, (cell_of_row _ _ 3 _ _ _ hr).trans rfl, (cell_of_row _ _ 4 _ _ _ hr).trans rfl, (cell_of_row _ _ 5 _ _ _ hr).trans rfl⟩
        ·refine ⟨z.r, qA, qn, qc, rfl, Hlz.out.rk, fun W hW => ?_⟩; have hr := hW _ _ _ _ hrQ2 (by decide); exact ⟨(cell_of_row _ _ 6 _ _ _ hr).trans rfl, (cell_of_row _ _ 7 _ _ _ hr).trans rfl, (cell_of_row _ _ 8 _ _ _ hr).trans rfl, (cell_of_row _ _ 9 _ _ _ hr).trans rfl, (cell_of_row _ _ 10 _ _ _ hr).trans rfl, (cell_of_row _ _ 11 _ _ _ hr).trans rfl⟩
       have HKQ2 : Hid (KeepsT 121 Q Q2) := KeepsT.of_below hbQ2; have HJS : Hid (KJ base Q2 Q2 Ao co (stK (R j) z 0)) := KJ.self (HJQ.out.own.below hbQ2); have HBQ2 : Hid (Below base V Q2) := HJQ.out.b.trans (hbQ2.mono hbvQ); have HVQ2 : Hid (KeepsT 121 V Q2) := HJQ.out.k.trans HKQ2.out; have hzQ2 : V.heap.size ≤ Q2.heap.size := Nat.le_trans HJQ.out.z hbQ2.size; have hl0 : (R j).length = (stK (R j) z 0).length := rfl; rw [hl0]; clear hk3 HRj hQ2 hbQ2 hrQ2 HJQ Hlz hl0
       go_wp2_with (first
        | rw [HQe.out]
        | rw [Hlb.out]
        | rw [HQ2e.out]
        | rw [Hsb.out]
        | refine wpList_load_mid rfl 107 (.tmp 48) rfl bb (o + j * 17) rfl (litC z a' ⟨pA, pn, pc⟩ ⟨qA, qn, qc⟩) _ Hrw.out Tryz.underlying107 rfl (lit_sizeD _ _ _ _) ?_
        | refine wpList_new rfl rfl 107 9 (.tmp 49) rfl rfl rfl rfl _ (litC z a' ⟨pA, pn, pc⟩ ⟨qA, qn, qc⟩).toArray lit_infoD rfl (lit_one _ _ _ _) rfl rfl ?_)
       clear g4 g5 g6 g7 g8 g9 g10 g11 g12 g13 g14 g15 g3 hfk k6 Hrw; go_loopw [5, 11, 12, 13, 59] (fun t _ _ _ i wr => ∃ (k : Nat) (Ao : Option Addr) (co : Nat), k ≤ 2 ∧ i = .int .i64 (k : Int) ∧ t = .slice Ao (stK (R j) z k).length co ∧ Hid (KJ base Q2 wr Ao co (stK (R j) z k))) (fun _ _ _ _ i _ => 2 - (intOf i).toNat)
       case atStart => exact ⟨0, Ao, co, by omega, rfl, rfl, HJS⟩
       case round =>
        clear HJS; obtain ⟨k, Ao, co, hk, rfl, rfl, HJ⟩ := hrel; have i0 : (0 : Int) ≤ (k : Int) := by omega
        have hQw : KeepsT 121 Q wr := HKQ2.out.trans HJ.out.k; have g3 := (HLb.out wr hQw).op; by_cases hk2 : k < 2
        ·have i1 : (k : Int) < 2 := by omega
         obtain ⟨e, eA, en, ec, hse, hkk, hcell⟩ := HSide.out k hk2; obtain ⟨x0, x1, x2, x3, x4, x5⟩ := hcell wr HJ.out.k; obtain ⟨Q3, hQ3⟩ : ∃ Q3, Q3 = wr.alloc (.cells (expC e eA en ec).toArray 105) := ⟨_, rfl⟩
         have HQ3e := hZ9 hQ3.symm; have hbQ3 : Below wr.heap.size wr Q3 := by rw [hQ3]; exact belowA (Below.refl _ _) _
         have hrQ3 : Q3.heap[wr.heap.size]? = some (.cells (expC e eA en ec).toArray 105 (0, 0)) := by rw [hQ3]; exact heapNew rfl
         obtain ⟨y0, y1, y2, y3, y4, y5⟩ := facts6 hrQ3; have hbq : base ≤ Q2.heap.size := Nat.le_trans hbV hzQ2; have HJ3 := hZ9 (HJ.out.on hbQ3 hbq); have u3 := (HLb.out Q3 (HKQ2.out.trans HJ3.out.k)).op; have HSn := hZ9 (stK_next (R j) z hk2); have HLe := HLv.out k; rw [hse] at HSn HLe; have HTm := hZ9 (refTerms_any Q3.heap.size d e eA en ec none 0 0 [] Q3 (hkk.mono' (Nat.le_trans hbV (Nat.le_trans hzQ2 HJ3.out.z)) (Kept.of (HBQ2.out.trans HJ3.out.b).block)) (Nat.le_refl _) rfl (World.ownsRow_nil _ _ _ _) (by omega)); rw [List.nil_append] at HTm; have HTn2 := hZ9 (fun m => HTn.out k m); rw [hse] at HTn2; obtain ⟨L, HL⟩ : ∃ L, Hid (leavesE e = L) := ⟨_, rfl⟩
         rw [HL.out] at HTm HSn HLe HTn2; clear hQ3 hbQ3 hrQ3 hcell hkk hse HJ hQw g3; by_cases hsk : e.op = 0 ∧ z.op < 3
         ·have e5 : (e.op == 0) = true := by simpa using hsk.1
          have e6 : z.op < 3 := hsk.2; have HS1 : Hid (stK (R j) z (k + 1) = stK (R j) z k) := HSn.out.trans (if_neg (by rintro (h | h); exact h hsk.1; omega)); have HJ4 : Hid (KJ base Q2 Q3 Ao co (stK (R j) z (k + 1))) := by show KJ _ _ _ _ _ _; rw [HS1.out]; exact HJ3.out
          rw [← HS1.out]; clear hsk HSn HTm HJ3 HS1; go_wp2_with (rw [HQ3e.out])
          go_roundw
          case rel => exact ⟨k + 1, Ao, co, by omega, by go_num, rfl, HJ4⟩
          case measure => simp [intOf]; omega
         ·have HS1 : Hid (stK (R j) z (k + 1) = numbersK (stK (R j) z k) L) := HSn.out.trans (if_pos (by
           by_cases h : e.op = 0
           ·exact .inr (by have : ¬ z.op < 3 := fun q => hsk ⟨h, q⟩; omega)
           ·exact .inl h))
          have hcase : (e.op = 0 ∧ ¬ z.op < 3) ∨ e.op ≠ 0 := by
           by_cases h : e.op = 0
           ·exact .inl ⟨h, fun q => hsk ⟨h, q⟩⟩
           ·exact .inr h
          clear hsk HSn; have HN0 : Hid ((stK (R j) z k).length = (numbersK (stK (R j) z k) (L.take 0)).length) := rfl; rw [HN0.out]; rcases hcase with ⟨ho, h3⟩ | ho
          all_goals
           first
            | (have e5 : (e.op == 0) = true := by simpa using (show e.op = 0 from ho))
            | (have e5 : (e.op == 0) = false := by simpa using (show e.op ≠ 0 from ho))
           clear ho; go_wp2_with (rw [HQ3e.out])
           refine HTm.out.mono ?_; rintro r w4 ⟨At, ct, rfl, ho4, hb4, hz4, hk4⟩; have HOT := hZ9 ho4; have HJ4a : Hid (KJ base Q2 w4 Ao co (stK (R j) z k)) := HJ3.out.on hb4 hbq; have HJ4 : Hid (KJ base w4 w4 Ao co (numbersK (stK (R j) z k) (L.take 0))) := KJ.self HJ4a.out.own; have hb4w : base ≤ w4.heap.size := Nat.le_trans hbq HJ4a.out.z; obtain ⟨Ln, HLn⟩ : ∃ Ln, Hid (L.length = Ln) := ⟨_, rfl⟩
           have hLn : Ln ≤ 1048576 := by rw [← HLn.out]; exact HLe
           rw [HLn.out]; clear ho4 hb4 hz4 hk4 HTm HJ3 y0 y1 y2 y3 y4 y5 u3 HN0; go_wp2_with fail
           go_loopw [5, 13] (fun t i wr => ∃ (m : Nat) (Ao : Option Addr) (co : Nat), m ≤ Ln ∧ i = .int .i64 (m : Int) ∧ t = .slice Ao (numbersK (stK (R j) z k) (L.take m)).length co ∧ Hid (KJ base w4 wr Ao co (numbersK (stK (R j) z k) (L.take m)))) (fun _ i _ => Ln - (intOf i).toNat)
           case atStart => exact ⟨0, Ao, co, by omega, rfl, rfl, HJ4⟩
           case round =>
            clear HJ4; obtain ⟨m, Ao, co, hm, rfl, rfl, HJ⟩ := hrel; have m0 : (0 : Int) ≤ (m : Int) := by omega
            by_cases hml : m < Ln
            ·have m1 : (m : Int) < (Ln : Int) := by omega
             have hsl := tv_own (own_keepY HOT.out HJ.out.k (by decide)) (by have := HLn.out; omega); rw [HLn.out] at hsl; obtain ⟨tb, to_, t, rfl, htb, htm, t0, -, -, -⟩ := hsl.tv_at hml; have HPt := hZ9 (refPutK_any base Ao co (numbersK (stK (R j) z k) (L.take m)) t.x 1 wr HJ.out.own (Nat.le_trans hb4w HJ.out.z) (by have := (HTn2.out m).most; have := HVs.out; omega)); rw [← numbersK_take htm.out] at HPt; clear hsl htm; go_wp2_with fail
             refine HPt.out.mono ?_; rintro r w5 ⟨A5, c5, rfl, ho5, hb5, hz5, hk5⟩; have HJ5 := hZ9 (HJ.out.go ho5 hb5 hz5 hk5); clear ho5 hb5 hz5 hk5 HPt HJ t0; go_wp2_with fail
             go_roundw
             case rel => exact ⟨m + 1, A5, c5, by omega, by go_num, rfl, HJ5⟩
             case measure => simp [intOf]; omega
            ·have m1 : ¬ (m : Int) < (Ln : Int) := by omega
             have HTk : Hid (numbersK (stK (R j) z k) (L.take m) = stK (R j) z (k + 1)) := by
              show _ = _; rw [HS1.out, List.take_of_length_le (by have := HLn.out; omega)]
             have HJ6 : Hid (KJ base Q2 wr Ao co (stK (R j) z (k + 1))) := by
              show KJ _ _ _ _ _ _; rw [← HTk.out]; exact HJ4a.out.up HJ.out
             rw [HTk.out]; clear HTk HJ HJ4a HOT; go_wp2_with fail
             go_roundw
             case rel => exact ⟨k + 1, Ao, co, by omega, by go_num, rfl, HJ6⟩
             case measure => simp [intOf]; omega
        ·have i1 : ¬ (k : Int) < 2 := by omega
         obtain rfl : k = 2 := by omega
         have HLb2 : Hid (∀ W, KeepsT 121 wr W → LitBox W lb z pA pn pc qA qn qc) := fun W hW => HLb.out W (hQw.trans hW)
         have hJV : KJ base V wr Ao co (stK (R j) z 2) := ⟨HJ.out.own, HBQ2.out.trans HJ.out.b, Nat.le_trans hzQ2 HJ.out.z, HVQ2.out.trans HJ.out.k⟩
         have HJV := hZ9 hJV; have hl2 := (HTz.out 2).most; have hl2' : (stK (R j) z 2).length ≤ 20000000 := Nat.le_trans hl2 HVs.out; have hbw : base ≤ wr.heap.size := Nat.le_trans hbV hJV.z; clear HJ hQw hJV hl2 HSide HTn HTz HLv HLb; by_cases h3 : z.op < 3
         ·have HCm : Hid (cmpK leavesE (R j) z = kput (kput (stK (R j) z 2) z.l.t.x (sideK (stK (R j) z 2) z.r)) z.r.t.x (sideK (kput (stK (R j) z 2) z.l.t.x (sideK (stK (R j) z 2) z.r)) z.l)) := by show _ = _; rw [stK_cmp, if_neg (by omega)]
          generalize stK (R j) z 2 = l2 at *; have hbd : Below wr.heap.size wr wr.drew := (Below.refl _ _).drew; have HJd := hZ9 (HJV.out.on hbd hbV); have HSd := hZ9 (refSide_any Ao l2.length co l2 z.r qA qn qc wr.drew (HJd.out.own.is (by omega))); obtain ⟨sd, Hsd⟩ : ∃ sd, Hid (sideK l2 z.r = sd) := ⟨_, rfl⟩
          have HPt := hZ9 (fun W (hW : Below wr.drew.heap.size wr.drew W) => refPutK_any base Ao co l2 z.l.t.x sd W (HJd.out.own.below hW) (Nat.le_trans (show base ≤ wr.drew.heap.size from hbw) hW.size) (by omega)); rw [Hsd.out] at HSd HCm; have hle := kput_le l2 z.l.t.x sd; obtain ⟨l3, Hl3⟩ : ∃ l3, Hid (kput l2 z.l.t.x sd = l3) := ⟨_, rfl⟩
          rw [Hl3.out] at HPt HCm hle; obtain ⟨-, -, ⟨n4, n5, n6, n7, n8, n9⟩, n10, n11, n12, n13, n14, n15⟩ := HLb2.out wr (KeepsT.refl _ _); clear hbd HJV Hsd Hl3 n4 n6 n7 n8 n9; go_wp2_with fail
          go_region_held3 (fun W => W.cell? ⟨lb, 5, none⟩ = some (.string z.l.t.x) ∧ W.cell? ⟨lb, 10, none⟩ = some (.int .i64 z.r.op) ∧ W.cell? ⟨lb, 11, none⟩ = some (.string z.r.t.x) ∧ W.cell? ⟨lb, 12, none⟩ = some (.int .i64 z.r.t.v.k) ∧ W.cell? ⟨lb, 13, none⟩ = some (.int .i64 z.r.t.v.n) ∧ W.cell? ⟨lb, 14, none⟩ = some (.string z.r.t.v.s) ∧ W.cell? ⟨lb, 15, none⟩ = some (.slice qA qn qc))
           (go_keep)
           ((first
             | (go_at_call 43
                refine HSd.out.mono ?_; rintro r w5 ⟨rfl, hb5⟩; have HB5 := hZ9 hb5; obtain ⟨-, -, ⟨-, o5, -⟩, o10, o11, o12, o13, o14, o15⟩ := HLb2.out w5 (KeepsT.of_below (((Below.refl wr.heap.size wr).drew).trans hb5))
                clear hb5)
             | (go_at_call 42
                refine (HPt.out w5 HB5.out).mono ?_; rintro r w6 ⟨A6, c6, rfl, ho6, hb6, hz6, hk6⟩; have HJ6 := hZ9 ((HJd.out.on HB5.out hbV).go ho6 hb6 hz6 hk6); have hkk6 : KeepsT 121 wr w6 := (KeepsT.of_below (((Below.refl wr.heap.size wr).drew).trans HB5.out)).trans hk6; have HK6 := hZ9 hkk6; obtain ⟨-, -, ⟨-, o5, -⟩, o10, o11, o12, o13, o14, o15⟩ := HLb2.out w6 hkk6
                clear ho6 hb6 hz6 hk6 hkk6)))
          all_goals
           clear n5 n10 n11 n12 n13 n14 n15 o5 o10 o11 o12 o13 o14 o15 HSd HPt HB5 HJd; have HLb3 : Hid (∀ W, KeepsT 121 w6 W → LitBox W lb z pA pn pc qA qn qc) := fun W hW => HLb2.out W (HK6.out.trans hW)
           have hbd : Below w6.heap.size w6 w6.drew := (Below.refl _ _).drew; have hb6w : base ≤ w6.heap.size := Nat.le_trans hbV HJ6.out.z; have HJd := hZ9 (HJ6.out.on hbd hbV); have HSd := hZ9 (refSide_any A6 l3.length c6 l3 z.l pA pn pc w6.drew (HJd.out.own.is (by omega))); obtain ⟨sd2, Hsd⟩ : ∃ sd2, Hid (sideK l3 z.l = sd2) := ⟨_, rfl⟩
           have HPt := hZ9 (fun W (hW : Below w6.drew.heap.size w6.drew W) => refPutK_any base A6 c6 l3 z.r.t.x sd2 W (HJd.out.own.below hW) (Nat.le_trans (show base ≤ w6.drew.heap.size from hb6w) hW.size) (by omega)); rw [Hsd.out] at HSd HCm; obtain ⟨l4, Hl4⟩ : ∃ l4, Hid (kput l3 z.r.t.x sd2 = l4) := ⟨_, rfl⟩
           rw [Hl4.out] at HPt HCm; have HR4 : Hid (R (j + 1) = l4) := HRs.out.trans HCm.out; obtain ⟨-, -, ⟨n4, n5, n6, n7, n8, n9⟩, n10, n11, n12, n13, n14, n15⟩ := HLb3.out w6 (KeepsT.refl _ _); clear hbd HJ6 Hsd Hl4 HCm HRs HK6 HLb2 n10 n12 n13 n14 n15; go_wp2_with fail
           go_region_held3 (fun W => W.cell? ⟨lb, 11, none⟩ = some (.string z.r.t.x) ∧ W.cell? ⟨lb, 4, none⟩ = some (.int .i64 z.l.op) ∧ W.cell? ⟨lb, 5, none⟩ = some (.string z.l.t.x) ∧ W.cell? ⟨lb, 6, none⟩ = some (.int .i64 z.l.t.v.k) ∧ W.cell? ⟨lb, 7, none⟩ = some (.int .i64 z.l.t.v.n) ∧ W.cell? ⟨lb, 8, none⟩ = some (.string z.l.t.v.s) ∧ W.cell? ⟨lb, 9, none⟩ = some (.slice pA pn pc))
            (go_keep)
            ((first
              | (go_at_call 43
                 refine HSd.out.mono ?_; rintro r w7 ⟨rfl, hb7⟩; have HB7 := hZ9 hb7; obtain ⟨-, -, ⟨o4, o5, o6, o7, o8, o9⟩, -, o11, -⟩ := HLb3.out w7 (KeepsT.of_below (((Below.refl w6.heap.size w6).drew).trans hb7))
                 clear hb7)
              | (go_at_call 42
                 refine (HPt.out w7 HB7.out).mono ?_; rintro r w8 ⟨A8, c8, rfl, ho8, hb8, hz8, hk8⟩; have HJ8 := hZ9 ((HJd.out.on HB7.out hbV).go ho8 hb8 hz8 hk8); obtain ⟨-, -, ⟨o4, o5, o6, o7, o8, o9⟩, -, o11, -⟩ := HLb3.out w8 ((KeepsT.of_below (((Below.refl w6.heap.size w6).drew).trans HB7.out)).trans hk8)
                 clear ho8 hb8 hz8 hk8)))
           all_goals
            clear n4 n5 n6 n7 n8 n9 n11 o4 o5 o6 o7 o8 o9 o11 HSd HPt HB7 HJd HLb3; go_wp2_with fail
            go_roundw
            case rel => exact ⟨j + 1, A8, c8, by omega, by go_num, ⟨_, rfl, by show _ = _; rw [HR4.out]⟩, by show KJ _ _ _ _ _ _; rw [HR4.out]; exact HJ8.out⟩
            case measure => simp [intOf]; omega
         ·have HR4 : Hid (R (j + 1) = stK (R j) z 2) := by show _ = _; rw [HRs.out, stK_cmp, if_pos (by omega)]
          clear HRs HLb2; go_wp2_with fail
          go_roundw
          case rel => exact ⟨j + 1, Ao, co, by omega, by go_num, ⟨_, rfl, by show _ = _; rw [HR4.out]⟩, by show KJ _ _ _ _ _ _; rw [HR4.out]; exact HJV.out⟩
          case measure => simp [intOf]; omega
      ·have i1 : ¬ (j : Int) < (mn : Int) := by omega
       obtain rfl : mn = j := by omega
       have HRt2 := hZ9 (HRt.out mn); clear HRn HRt; by_cases hgr : lm < (R mn).length
       ·have e5 : (((R mn).length : Int) == (lm : Int)) = false := by rw [beq_eq_false_iff_ne]; omega
        have hF := HGo.out.1 hgr; have HF : Hid (kindsF leavesE y.body f (R mn) = Z ∧ (varsR y).length + 1 ≤ f + (R mn).length) := hF.2; clear hF HGo; go_wp2_with fail
        go_roundg f
        case rel => exact ⟨R mn, Ao, co, rfl, HJ, HRt2, HF⟩
        case measure => omega
       ·have heq := HEq.out hgr; have e5 : (((R mn).length : Int) == (lm : Int)) = true := by rw [heq]; simp
        have hZ := HGo.out.2 hgr; have HE := hZ9 (HEnd.out wr Ao co (by rw [← hZ]; exact HJ.out)); rw [← hZ] at HE; clear HGo HJ HEnd hZ heq hgr HEq Hlm; go_wp2_with fail
        first | exact HE.out | (go_ret2; exact HE.out)
end Go.Proofs.YtaeedepojpablaaGreatDoor
