/- My own texts PaW, PFrame, Idx, TyLaw, TyPl, TyTl, as far as this claim needs them. -/
import Derived.Test.YtaeedepojpablaaGreatDoorZq23
set_option linter.unusedVariables false
set_option linter.unusedSimpArgs false
set_option maxRecDepth 1000000
set_option maxHeartbeats 16000000
namespace Go.Proofs.YtaeedepojpablaaGreatDoor
open Go.RowKit
theorem Rd.begin {W : World} {A : Option Addr} {c : Nat} {T : List GTok} {E : Nat} (hp : ParW W) (ht : SliceIs Enc.tok W W.heap.size A T.length c T) (hX : Toks T E) (hE : E ≤ 4000) (hT : T.length ≤ 4000) :
 Rd (W.heap.size + 1) W.heap.size A c T E ps0 (W.alloc (.cells #[.slice A T.length c, .int .i64 0, .int .i64 E, .int .i64 0, .int .i64 0, .int .i64 0] 142)) := by
 have hB := belowA (Below.refl W.heap.size W) (.cells #[.slice A T.length c, .int .i64 0, .int .i64 E, .int .i64 0, .int .i64 0, .int .i64 0] 142); refine ⟨heapNew rfl, ?_, hp.on hB, Nat.lt_succ_self _, by simp, fun b hb => ?_, fine0 T E, hX.within, hE, hT, by decide, hX.texts⟩
 ·refine ht.mono' (Nat.le_succ _) (fun b hb cs t fr hcs hc => ?_); rw [sans_out (by simp; omega), hB.block b hb, hcs]
 ·have := hp.lt b hb; omega
def parErr (e : Int) : Value := if e = 0 then .nilIface else .iface 89 (.int .i64 e)
def WholeRes (s : ByteArray) (w : World) (e : Ending) (w' : World) : Prop := Below w.heap.size w w' ∧
 ∃ (d : Nat) (a b : Hd), e = .returned (.tuple #[.agg #[a.v, b.v], .int .i64 (parseP s.toList).2.1, parErr (parseP s.toList).2.2]) ∧ SliceFar Enc.decl w' (List.range w.heap.size) a.A a.n a.c (parseP s.toList).1.decls ∧ SliceFar (Enc.rule d) w' (List.range w.heap.size) b.A b.n b.c (parseP s.toList).1.rules
structure WhJ (w : World) (g ob : Nat) (A : Option Addr) (c : Nat) (T : List GTok) (E : Nat) (A1 : Option Addr) (k1 c1 : Nat) (A2 : Option Addr) (k2 c2 : Nat) (y : GProg) (d : Nat) (s : PS) (V : World) : Prop where
 rd : Rd (g + 1) g A c T E s V
 nn : V.heap[w.heap.size + 1]? = some (.cells #[.slice none 0 0, .slice none 0 0] 26 (0, 0))
 rr : V.heap[w.heap.size]? = some (.cells #[.slice none 0 0, .slice none 0 0] 26 (0, 0))
 ob : V.heap[ob]? = some (.cells #[.slice A1 k1 c1, .slice A2 k2 c2] 26 (0, 0))
 below : Below w.heap.size w V
 da : SliceFar Enc.decl V (List.range (g + 1)) A1 k1 c1 y.decls
 db : SliceFar (Enc.rule d) V (List.range (g + 1)) A2 k2 c2 y.rules
theorem WhJ.go {w : World} {g ob : Nat} {A : Option Addr} {c : Nat} {T : List GTok} {E : Nat} {A1 : Option Addr} {k1 c1 : Nat} {A2 : Option Addr} {k2 c2 : Nat} {y : GProg} {d : Nat} {s s' : PS} {V V' : World} (hg : w.heap.size + 2 ≤ g) (hob : g < ob) (h : WhJ w g ob A c T E A1 k1 c1 A2 k2 c2 y d s V) (hr : Rd (g + 1) g A c T E s' V') (ho : Out [g] V V') : WhJ w g ob A c T E A1 k1 c1 A2 k2 c2 y d s' V' :=
 ⟨hr, (ho.block _ (glt h.nn) (by simp; omega)).trans h.nn, (ho.block _ (glt h.rr) (by simp; omega)).trans h.rr, (ho.block _ (glt h.ob) (by simp; omega)).trans h.ob,
  h.below.trans (ho.below (fun b hb => by simp at hb; omega) h.below.size), h.da.out ho (fun b hb _ => by simp at hb; simp; omega) (fun _ h _ => h), h.db.out ho (fun b hb _ => by simp at hb; simp; omega) (fun _ h _ => h)⟩
theorem WhJ.on {w : World} {g ob : Nat} {A : Option Addr} {c : Nat} {T : List GTok} {E : Nat} {A1 : Option Addr} {k1 c1 : Nat} {A2 : Option Addr} {k2 c2 : Nat} {y : GProg} {d : Nat} {s : PS} {V V' : World} (hg : w.heap.size + 2 ≤ g) (hob : g < ob) (h : WhJ w g ob A c T E A1 k1 c1 A2 k2 c2 y d s V) (hb : Below V.heap.size V V') : WhJ w g ob A c T E A1 k1 c1 A2 k2 c2 y d s V' :=
 h.go hg hob (h.rd.on hb) (Out.of_below hb _)
theorem WhJ.fin {w : World} {g ob : Nat} {A : Option Addr} {c : Nat} {T : List GTok} {E : Nat} {A1 : Option Addr} {k1 c1 : Nat} {A2 : Option Addr} {k2 c2 : Nat} {y : GProg} {d : Nat} {s : PS} {V V' : World} (hg : w.heap.size + 2 ≤ g) (h : WhJ w g ob A c T E A1 k1 c1 A2 k2 c2 y d s V) (ho : Out [w.heap.size] V V') : Below w.heap.size w V' ∧ SliceFar Enc.decl V' (List.range w.heap.size) A1 k1 c1 y.decls ∧ SliceFar (Enc.rule d) V' (List.range w.heap.size) A2 k2 c2 y.rules :=
 ⟨h.below.trans (ho.below (fun b hb => by simp at hb; omega) h.below.size), h.da.out ho (fun b hb _ => by simp at hb; simp; omega) (fun b hb _ => by simp at hb; simp; omega), h.db.out ho (fun b hb _ => by simp at hb; simp; omega) (fun b hb _ => by simp at hb; simp; omega)⟩
theorem whole_any (s : ByteArray) (hs : s.size ≤ 140737488351232) (w : World) (hW : ParW w) : Calls Tryz.prog 25 #[.string s, .func (.func 26) #[] #[]] w (WholeRes s w) := by
 have HW := hZ9 hW; obtain ⟨P, HP⟩ : ∃ P : Ending → World → Prop, Hid (P = WholeRes s w) := ⟨_, rfl⟩
 rw [← HP.out]; have HLs := hZ9 (fun (V : World) (hV : ParW V) => list_any s hs V hV.lex); have Hlen := hZ9 (ba_len s)
 have HE : Hid (∀ (V : World) (at_ : Nat) (er : Int), Below w.heap.size w V → parseP s.toList = (⟨[], []⟩, at_, er) → P (.returned (.tuple #[.agg #[.slice none 0 0, .slice none 0 0], .int .i64 at_, parErr er])) V) := fun V at_ er hb hp => by
  rw [HP.out]; refine ⟨hb, 0, ⟨none, 0, 0⟩, ⟨none, 0, 0⟩, by rw [hp], ?_, ?_⟩
  ·rw [hp]; exact SliceFar.nil
  ·rw [hp]; exact SliceFar.nil
 clear hW; go_enter Tryz.func25, Tryz.ntmps25
 go_wp2_with fail
 have hb0 : Below w.heap.size w ((w.alloc (.cells #[.slice none 0 0, .slice none 0 0] 26)).alloc (.cells #[.slice none 0 0, .slice none 0 0] 26)) := belowA (belowA (Below.refl _ _) _) _; have hr0 : ((w.alloc (.cells #[.slice none 0 0, .slice none 0 0] 26)).alloc (.cells #[.slice none 0 0, .slice none 0 0] 26)).heap[w.heap.size]? = some (.cells #[.slice none 0 0, .slice none 0 0] 26 (0, 0)) := ((belowA (Below.refl _ (w.alloc (.cells #[.slice none 0 0, .slice none 0 0] 26))) _).block _ (by rw [World.size_alloc]; omega)).trans (heapNew rfl); have hn0 : ((w.alloc (.cells #[.slice none 0 0, .slice none 0 0] 26)).alloc (.cells #[.slice none 0 0, .slice none 0 0] 26)).heap[w.heap.size + 1]? = some (.cells #[.slice none 0 0, .slice none 0 0] 26 (0, 0)) := heapNew (by rw [World.size_alloc]); refine (HLs.out _ (HW.out.on hb0)).mono ?_; rintro e w1 ⟨hb, hcase⟩; have hz0 : ((w.alloc (.cells #[.slice none 0 0, .slice none 0 0] 26)).alloc (.cells #[.slice none 0 0, .slice none 0 0] 26)).heap.size = w.heap.size + 2 := by simp
 have hz1 := hb.size; rw [hz0] at hz1; replace hr0 := (hb.block w.heap.size (by omega)).trans hr0; replace hn0 := (hb.block (w.heap.size + 1) (by omega)).trans hn0; have hb1 : Below w.heap.size w w1 := Below.trans hb0 (hb.mono (by omega)); clear hb hb0 hz0 HLs; obtain ⟨r0, r1⟩ := facts2 hr0; obtain ⟨n0, n1⟩ := facts2 hn0; have rf := froz4 hr0; have Hb1 := hZ9 hb1; have Hr0 := hZ9 hr0; have Hn0 := hZ9 hn0; clear hr0 hn0 hb1; rcases hcase with ⟨h4, rfl⟩ | ⟨h4, ⟨p, hp, rfl⟩ | ⟨hn, A, c, rfl, ht⟩⟩
 ·have hl : 4000 < s.toList.length := by rw [Hlen.out]; exact h4
  have HX : Hid (∀ V, Below w.heap.size w V → P (.returned (.tuple #[.agg #[.slice none 0 0, .slice none 0 0], .int .i64 4000, .iface 89 (.int .i64 3)])) V) := fun V hb => HE.out V 4000 3 hb (by unfold parseP wholeP; rw [if_pos hl])
  clear HE HP hl h4; go_wp2_with fail
  exact bodyPost_ret (v := .tuple #[.agg #[.slice none 0 0, .slice none 0 0], .int .i64 4000, .iface 89 (.int .i64 3)]) (by simp [results, Tryz.results25, go_sem, r0, r1]) rfl (HX.out _ (belowS (belowS Hb1.out _ _ (Nat.le_refl _) _) _ _ (Nat.le_refl _) _))
 ·have hl : ¬ 4000 < s.toList.length := by rw [Hlen.out]; omega
  have HX : Hid (∀ V, Below w.heap.size w V → P (.returned (.tuple #[.agg #[.slice none 0 0, .slice none 0 0], .int .i64 p, .iface 89 (.int .i64 2)])) V) := fun V hb => HE.out V p 2 hb (by unfold parseP wholeP; rw [if_neg hl, hp])
  clear HE HP hl h4 hp; go_wp2_with fail
  exact bodyPost_ret (v := .tuple #[.agg #[.slice none 0 0, .slice none 0 0], .int .i64 p, .iface 89 (.int .i64 2)]) (by simp [results, Tryz.results25, go_sem, r0, r1]) rfl (HX.out _ (belowS (belowS Hb1.out _ _ (Nat.le_refl _) _) _ _ (Nat.le_refl _) _))
 ·have hl : ¬ 4000 < s.toList.length := by rw [Hlen.out]; omega
  have hTl := (lex_len (wk := wordK) _ 0 s.toList (Nat.le_refl _)).2; replace hTl : (lexS s.toList).1.length ≤ s.size := by rw [← Hlen.out]; exact hTl
  have hTk := toks_of (l := s.toList) (by omega); rw [Hlen.out] at hTk; have HRd := hZ9 (Rd.begin (HW.out.on Hb1.out) ht hTk h4 (Nat.le_trans hTl h4))
  have HPs : Hid (parseP s.toList = if (lastP (lexS s.toList).1 s.size (programP (lexS s.toList).1 s.size ps0).1).err = 0 then ((programP (lexS s.toList).1 s.size ps0).2, 0, 0) else (⟨[], []⟩, (lastP (lexS s.toList).1 s.size (programP (lexS s.toList).1 s.size ps0).1).pl, (lastP (lexS s.toList).1 s.size (programP (lexS s.toList).1 s.size ps0).1).err)) := by
   show _ = _; unfold parseP wholeP; rw [if_neg hl, hn]; dsimp only; rw [Hlen.out]
  generalize (lexS s.toList).1 = T at *; have HPg := hZ9 (rprogram_any HRd.out rfl); generalize programP T s.size ps0 = y at *
  have HE2 : Hid (∀ (V : World) (d : Nat) (a b : Hd), (lastP T s.size y.1).err = 0 → Below w.heap.size w V → SliceFar Enc.decl V (List.range w.heap.size) a.A a.n a.c y.2.decls → SliceFar (Enc.rule d) V (List.range w.heap.size) b.A b.n b.c y.2.rules → P (.returned (.tuple #[.agg #[a.v, b.v], .int .i64 0, .nilIface])) V) := fun V d a b h0 hb h1 h2 => by
   rw [HP.out]; refine ⟨hb, d, a, b, ?_, ?_, ?_⟩
   ·rw [HPs.out, if_pos h0]; rfl
   ·rw [HPs.out, if_pos h0]; exact h1
   ·rw [HPs.out, if_pos h0]; exact h2
  have HE3 : Hid (∀ (V : World), (lastP T s.size y.1).err ≠ 0 → Below w.heap.size w V → P (.returned (.tuple #[.agg #[.slice none 0 0, .slice none 0 0], .int .i64 (lastP T s.size y.1).pl, .iface 89 (.int .i64 (lastP T s.size y.1).err)])) V) := fun V h0 hb => by
   have h := HE.out V (lastP T s.size y.1).pl (lastP T s.size y.1).err hb (by rw [HPs.out, if_neg h0]); unfold parErr at h; rw [if_neg h0] at h; exact h
  clear HE HP HPs hl hTl hTk ht hn HW; go_wp2_with fail
  refine HPg.out.mono ?_; rintro e w2 ⟨d, ⟨A1, k1, c1⟩, ⟨A2, k2, c2⟩, rfl, hr2, ho2, ha, hb⟩; dsimp only [Hd.v] at *; have hz2 := ho2.size; rw [World.size_alloc] at hz2; have HR2 := hZ9 hr2; have HO2 := hZ9 ho2; have Ha := hZ9 ha; have Hb := hZ9 hb; have HN2 := hZ9 ((ho2.block (w.heap.size + 1) (by rw [World.size_alloc]; omega) (by simp; omega)).trans (heapOld Hn0.out)); have HRR2 := hZ9 ((ho2.block w.heap.size (by rw [World.size_alloc]; omega) (by simp; omega)).trans (heapOld Hr0.out)); clear hr2 ho2 ha hb HPg HRd r0 r1 n0 n1 rf; go_wp2_with fail
  --TAIL
  have hg2 : w.heap.size + 2 ≤ w1.heap.size := hz1; have hob2 : w1.heap.size < w2.heap.size := by omega
  have ha2 := Ha.out; have hb2 := Hb.out; rw [World.size_alloc] at ha2 hb2
  have hJ : WhJ w w1.heap.size w2.heap.size A c T s.size A1 k1 c1 A2 k2 c2 y.2 d y.1 (w2.alloc (.cells #[.slice A1 k1 c1, .slice A2 k2 c2] 26)) :=
   ⟨HR2.out.on (belowA (Below.refl _ _) _), heapOld HN2.out, heapOld HRR2.out, heapNew rfl, ((Hb1.out.alloc Hb1.out.size _).trans (HO2.out.below (fun b hb => by simp at hb; have := Hb1.out.size; omega) (by rw [World.size_alloc]; have := Hb1.out.size; omega))).alloc (by have := Hb1.out.size; omega) _, ha2.on (belowA (Below.refl _ _) _), hb2.on (belowA (Below.refl _ _) _)⟩
  have HJ := hZ9 hJ; clear hJ ha2 hb2 HR2 HO2 Ha Hb HN2 HRR2 Hr0 Hn0 Hb1; generalize w2.alloc (.cells #[.slice A1 k1 c1, .slice A2 k2 c2] 26) = w3 at *; obtain ⟨c0, c1', c2', c3, c4, c5⟩ := HJ.out.rd.cells; obtain ⟨s2, Hs2⟩ : ∃ s2, Hid (s2 = lastP T s.size y.1) := ⟨_, rfl⟩
  rw [← Hs2.out] at HE2 HE3; by_cases hlt : y.1.next < T.length
  ·have i1 : (y.1.next : Int) < (T.length : Int) := by omega
   have HPl := hZ9 (fun (V : World) (hR : Rd (w1.heap.size + 1) w1.heap.size A c T s.size y.1 V) => rplace_any hR); have HFl := hZ9 (fun (V : World) (hR : Rd (w1.heap.size + 1) w1.heap.size A c T s.size y.1 V) => rfail_any hR (peekP T s.size y.1 0).a (peek_le hR.within _ _) 2 (by omega)); have hl2 : failP T y.1 (peekP T s.size y.1 0).a 2 = s2 := by rw [Hs2.out]; unfold lastP; rw [if_pos hlt]
   rw [hl2] at HFl; clear hl2 Hs2; go_quiet (fail)
   go_wp2_with fail
   refine (HPl.out _ (HJ.out.rd.on (below_drewN _ _ _))).mono ?_; rintro e w5 ⟨rfl, hb5⟩; have HJ5 := hZ9 ((HJ.out.on hg2 hob2 (below_drewN _ _ _)).on hg2 hob2 hb5); clear hb5 HPl HJ c0 c1' c2' c3 c4 c5; go_wp2_with fail
   refine (HFl.out _ HJ5.out.rd).mono ?_; rintro e w6 ⟨rfl, hr6, ho6⟩; have HJz := hZ9 (HJ5.out.go hg2 hob2 hr6 ho6); clear hr6 ho6 HFl HJ5 i1 hlt; obtain ⟨c0, -, -, -, c4, c5⟩ := HJz.out.rd.cells; obtain ⟨n0, n1⟩ := facts2 HJz.out.nn; obtain ⟨r0, r1⟩ := facts2 HJz.out.rr; obtain ⟨o0, o1⟩ := facts2 HJz.out.ob; have rf := froz4 HJz.out.rr; by_cases he : s2.err = 0
   ·have e0 : (s2.err == 0) = true := by simp [he]
    go_wp2_with fail
    obtain ⟨f1, f2, f3⟩ := WhJ.fin hg2 HJz.out (set2_out _ w.heap.size (.slice A1 k1 c1) (.slice A2 k2 c2)); exact bodyPost_ret (v := .tuple #[.agg #[.slice A1 k1 c1, .slice A2 k2 c2], .int .i64 0, .nilIface]) (by simp [results, Tryz.results25, go_sem, r0, r1]) rfl (HE2.out _ d ⟨A1, k1, c1⟩ ⟨A2, k2, c2⟩ he f1 f2 f3)
   ·have e0 : (s2.err == 0) = false := by simp [he]
    go_wp2_with fail
    go_region_with (fail)
    all_goals
     go_wp2_with fail
     refine bodyPost_ret (v := .tuple #[.agg #[.slice none 0 0, .slice none 0 0], .int .i64 s2.pl, .iface 89 (.int .i64 s2.err)]) (by simp [results, Tryz.results25, go_sem, Act.put, r0, r1]) rfl (HE3.out _ he (belowS (belowS HJz.out.below _ _ (Nat.le_refl _) _) _ _ (Nat.le_refl _) _).drew)
  ·have i1 : ¬ (y.1.next : Int) < (T.length : Int) := by omega
   have hl2 : s2 = y.1 := by rw [Hs2.out]; unfold lastP; rw [if_neg hlt]
   clear Hs2; go_quiet (fail)
   have HJz := hZ9 (HJ.out.on hg2 hob2 (below_drewN w3 nq _)); generalize w3.drewN nq = w4 at *; rw [← hl2] at HJz; clear HJ c0 c1' c2' c3 c4 c5 hl2; obtain ⟨c0, -, -, -, c4, c5⟩ := HJz.out.rd.cells; obtain ⟨n0, n1⟩ := facts2 HJz.out.nn; obtain ⟨r0, r1⟩ := facts2 HJz.out.rr; obtain ⟨o0, o1⟩ := facts2 HJz.out.ob; have rf := froz4 HJz.out.rr; by_cases he : s2.err = 0
   ·have e0 : (s2.err == 0) = true := by simp [he]
    go_wp2_with fail
    obtain ⟨f1, f2, f3⟩ := WhJ.fin hg2 HJz.out (set2_out _ w.heap.size (.slice A1 k1 c1) (.slice A2 k2 c2)); exact bodyPost_ret (v := .tuple #[.agg #[.slice A1 k1 c1, .slice A2 k2 c2], .int .i64 0, .nilIface]) (by simp [results, Tryz.results25, go_sem, r0, r1]) rfl (HE2.out _ d ⟨A1, k1, c1⟩ ⟨A2, k2, c2⟩ he f1 f2 f3)
   ·have e0 : (s2.err == 0) = false := by simp [he]
    go_wp2_with fail
    go_region_with (fail)
    all_goals
     go_wp2_with fail
     refine bodyPost_ret (v := .tuple #[.agg #[.slice none 0 0, .slice none 0 0], .int .i64 s2.pl, .iface 89 (.int .i64 s2.err)]) (by simp [results, Tryz.results25, go_sem, Act.put, r0, r1]) rfl (HE3.out _ he (belowS (belowS HJz.out.below _ _ (Nat.le_refl _) _) _ _ (Nat.le_refl _) _).drew)
theorem parse_any (s : ByteArray) (hs : s.size ≤ 140737488351232) (w : World) (hW : ParW w) : Calls Tryz.prog 8 #[.string s] w (WholeRes s w) := by
 obtain ⟨P, HP⟩ : ∃ P : Ending → World → Prop, Hid (P = WholeRes s w) := ⟨_, rfl⟩
 rw [← HP.out]; have HC := hZ9 (fun (V : World) (hV : ParW V) => whole_any s hs V hV); have HW := hZ9 hW; clear hW; go_enter Tryz.func8, Tryz.ntmps8
 go_wp2_with fail
 refine (HC.out _ (HW.out.on (belowA (Below.refl _ _) _))).mono ?_; rintro e w1 ⟨hb, d, ⟨A1, k1, c1⟩, ⟨A2, k2, c2⟩, rfl, ha, hb2⟩; dsimp only [Hd.v] at *; have hr := (hb.block w.heap.size (by rw [World.size_alloc]; omega)).trans (heapNew rfl); have hb1 : Below w.heap.size w w1 := (belowA (Below.refl _ _) _).trans (hb.mono (by rw [World.size_alloc]; omega)); obtain ⟨r0, r1⟩ := facts2 hr; have rf := froz4 hr
 have HE : Hid (P (.returned (.tuple #[.agg #[.slice A1 k1 c1, .slice A2 k2 c2], .int .i64 (parseP s.toList).2.1, parErr (parseP s.toList).2.2])) ((w1.setCell ⟨w.heap.size, 0, none⟩ (.slice A1 k1 c1)).setCell ⟨w.heap.size, 1, none⟩ (.slice A2 k2 c2))) := by
  show P _ _; rw [HP.out]; have ho := set2_out w1 w.heap.size (.slice A1 k1 c1) (.slice A2 k2 c2); rw [World.size_alloc] at ha hb2; exact ⟨belowS (belowS hb1 _ _ (Nat.le_refl _) _) _ _ (Nat.le_refl _) _, d, ⟨A1, k1, c1⟩, ⟨A2, k2, c2⟩, rfl, ha.out ho (fun b hb _ => by simp at hb; simp; omega) (fun b hb _ => by simp at hb; simp; omega), hb2.out ho (fun b hb _ => by simp at hb; simp; omega) (fun b hb _ => by simp at hb; simp; omega)⟩
 clear HP HC HW ha hb2 hb hb1 hr; generalize parErr (parseP s.toList).2.2 = ev at *; go_wp2_with fail
 exact bodyPost_ret (v := .tuple #[.agg #[.slice A1 k1 c1, .slice A2 k2 c2], .int .i64 (parseP s.toList).2.1, ev]) (by simp [results, Tryz.results8, go_sem, r0, r1]) rfl HE.out
end Go.Proofs.YtaeedepojpablaaGreatDoor

namespace Go.Proofs.YtaeedepojpablaaGreatDoor
open Go.ChangeShapes Go.WideShapes Go.ChangeAt Go.RowKit
set_option linter.unusedVariables false
def laidP {H : Type} : List (String × DataW H) := [("math/bits.deBruijn32tab", Rows.laid_math_bits_deBruijn32tab), ("math/bits.deBruijn64tab", Rows.laid_math_bits_deBruijn64tab), ("internal/strconv.uint64pow10", Rows.laid_internal_strconv_uint64pow10), ("strconv.ErrRange", Rows.laid_strconv_ErrRange), ("strconv.ErrSyntax", Rows.laid_strconv_ErrSyntax), ("corollary/lex.keys", Rows.laid_corollary_lex_keys), ("corollary/lex.signs", Rows.laid_corollary_lex_signs), ("corollary/parse.aggs", Rows.laid_corollary_parse_aggs), ("corollary/parse.signs", Rows.laid_corollary_parse_signs)]
theorem lexW_of_seven {W : World} {rest : List (String × DataW Unit)} (h : laidMet Tryz.prog (("math/bits.deBruijn32tab", Rows.laid_math_bits_deBruijn32tab) :: ("math/bits.deBruijn64tab", Rows.laid_math_bits_deBruijn64tab) :: ("internal/strconv.uint64pow10", Rows.laid_internal_strconv_uint64pow10) :: ("strconv.ErrRange", Rows.laid_strconv_ErrRange) :: ("strconv.ErrSyntax", Rows.laid_strconv_ErrSyntax) :: ("corollary/lex.keys", Rows.laid_corollary_lex_keys) :: ("corollary/lex.signs", Rows.laid_corollary_lex_signs) :: rest) W) : LexW W := by
 have h3 := laidMet.tail (laidMet.tail (laidMet.tail h)); have h5 := laidMet.tail (laidMet.tail h3); have h6 := laidMet.tail h5; refine ⟨TabW.of (Lib.tabIs_of_head gP gPT Tryz.underlying356 Tryz.underlying300 (by kernel_rfl) (by kernel_rfl) (rest := ("strconv.ErrRange", Rows.laid_strconv_ErrRange) :: ("strconv.ErrSyntax", Rows.laid_strconv_ErrSyntax) :: ("corollary/lex.keys", Rows.laid_corollary_lex_keys) :: ("corollary/lex.signs", Rows.laid_corollary_lex_signs) :: rest) (by rw [← pow_eq]; exact laidMet.tail (laidMet.tail h))), ?_, ?_, ?_⟩
 ·obtain ⟨a0, s0, hv0, -, -, -⟩ := laid_sentinel h3 gER gERT Tryz.underlying28 rowES Tryz.underlying348 Tryz.underlying350 rfl rfl Tryz.underlying9 cellsES cellsStr; obtain ⟨a1, s1, hv1, -, -, -⟩ := laid_sentinel (laidMet.tail h3) gES gEST Tryz.underlying28 rowES Tryz.underlying348 Tryz.underlying350 rfl rfl Tryz.underlying9 cellsES cellsStr; exact ⟨⟨_, _, by have h0 := World.var?_cell gES hv1 0; simpa using h0⟩, ⟨_, _, by have h0 := World.var?_cell gER hv0 0; simpa using h0⟩⟩
 ·rw [keys_eq] at h5; exact strs_of_head gK gKT Tryz.underlying279 Tryz.underlying9 (by kernel_rfl) (by kernel_rfl) h5
 ·rw [signs_eq] at h6; exact strs_of_head gS gST Tryz.underlying258 Tryz.underlying9 (by kernel_rfl) (by kernel_rfl) h6
theorem paggs_eq {H : Type} : (Rows.laid_corollary_parse_aggs : DataW H) = strsData paggsL := rfl
theorem psigns_eq {H : Type} : (Rows.laid_corollary_parse_signs : DataW H) = strsData psignsL := rfl
theorem gPA : Tryz.prog.globalNamed "corollary/parse.aggs" = some 0 := by kernel_rfl
theorem gPAT : (Tryz.prog.globals[0]?).map (·.type) = some 226 := by kernel_rfl
theorem gPS : Tryz.prog.globalNamed "corollary/parse.signs" = some 2 := by kernel_rfl
theorem gPST : (Tryz.prog.globals[2]?).map (·.type) = some 261 := by kernel_rfl
theorem lexW_of_laidP {W : World} (h : laidMet Tryz.prog laidP W) : LexW W := lexW_of_seven h
theorem parW_of_laidP {W : World} (h : laidMet Tryz.prog laidP W) : ParW W := by
 have hL := lexW_of_laidP h; have h7 := laidMet.tail (laidMet.tail (laidMet.tail (laidMet.tail (laidMet.tail (laidMet.tail (laidMet.tail h)))))); have h8 := laidMet.tail h7; rw [paggs_eq] at h7; rw [psigns_eq] at h8; exact ⟨hL, strs_of_head gPA gPAT Tryz.underlying226 Tryz.underlying9 (by kernel_rfl) (by kernel_rfl) h7, strs_of_head gPS gPST Tryz.underlying261 Tryz.underlying9 (by kernel_rfl) (by kernel_rfl) h8⟩
noncomputable def laidWorldP (os : Os) : World :=
 let w0 := World.holding Tryz.prog os ⟨#[.cells #[.string synS] 350, .cells #[.string rngS] 350], #[], []⟩
 let put (h : Array Obj) (g : Nat) (cs : Array Value) : Array Obj := h.modify g fun
  | .cells _ t frozen => .cells cs t frozen
  | o => o
 let tab (d : DataW Unit) : Array Value := match d with
  | .agg l => (l.map fun | .lit (.int k n) => Value.int k n | .lit (.string s) => Value.string ⟨s.toArray⟩ | _ => undef).toArray
  | _ => #[]
 let h1 := put w0.heap 8 (tab Rows.laid_math_bits_deBruijn32tab); let h2 := put h1 9 (tab Rows.laid_math_bits_deBruijn64tab); let h3 := put h2 7 (tab Rows.laid_internal_strconv_uint64pow10); let h4 := put h3 5 #[.iface 348 (.pointer (some ⟨low, 0, none⟩))]; let h5 := put h4 6 #[.iface 348 (.pointer (some ⟨low + 1, 0, none⟩))]; let h6 := put h5 3 (tab Rows.laid_corollary_lex_keys); let h7 := put h6 1 (tab Rows.laid_corollary_lex_signs); let h8 := put h7 0 (tab Rows.laid_corollary_parse_aggs); let h9 := put h8 2 (tab Rows.laid_corollary_parse_signs)
 { w0 with heap := h9 }
theorem laidWorldP_met (os : Os) (args : Array Value) : laidMet Tryz.prog laidP ((laidWorldP os).forCall (fun _ _ => 0) ⟨#[], args, []⟩).memory :=
 laidMet_of_run' 8 (by kernel_rfl) (by kernel_rfl)
end Go.Proofs.YtaeedepojpablaaGreatDoor

namespace Go.Proofs.YtaeedepojpablaaGreatDoor
def idxD (ds : List GDecl) (r : ByteArray) : Option Nat := ds.findIdx? (fun d => decide (d.rel = r))
def idxI : Option Nat → Int
 | some i => (i : Int)
 | none => -1
theorem idxD_hit {ds : List GDecl} {r : ByteArray} {k : Nat} {d : GDecl} (hk : ds[k]? = some d) (hd : d.rel = r) (hn : ∀ y ∈ ds.take k, y.rel ≠ r) : idxD ds r = some k := by
 obtain ⟨hlt, he⟩ := List.getElem?_eq_some_iff.1 hk; unfold idxD; rw [List.findIdx?_eq_some_iff_getElem]; refine ⟨hlt, by rw [he]; simp [hd], fun j hj => ?_⟩; have hm : ds[j]'(by omega) ∈ ds.take k := List.mem_take_iff_getElem.2 ⟨j, by omega, rfl⟩; simpa using hn _ hm
theorem idxD_miss {ds : List GDecl} {r : ByteArray} (hn : ∀ y ∈ ds, y.rel ≠ r) : idxD ds r = none := by
 unfold idxD; rw [List.findIdx?_eq_none_iff]; intro y hy; simpa using hn y hy
theorem idxD_lt {ds : List GDecl} {r : ByteArray} {k : Nat} (h : idxD ds r = some k) : k < ds.length := by
 unfold idxD at h; rw [List.findIdx?_eq_some_iff_getElem] at h; exact h.1
theorem formed_decl {p : GProg} (h : formedB p = true) : p.decls.length ≤ 32 ∧ ∀ x ∈ p.decls, declB x = true := by
 unfold formedB at h; simp only [Bool.and_eq_true, decide_eq_true_eq, List.all_eq_true] at h; exact ⟨h.1.1, h.2.1⟩
theorem formed_rules {p : GProg} (h : formedB p = true) : p.rules.length ≤ 64 ∧ ∀ x ∈ p.rules, rightRule x = true := by
 unfold formedB at h; simp only [Bool.and_eq_true, decide_eq_true_eq, List.all_eq_true] at h; exact ⟨h.1.2, h.2.2⟩
theorem right_body {x : GRule} (h : rightRule x = true) : x.body.length ≤ 8 ∧ ∀ y ∈ x.body, rightLit y = true := by
 unfold rightRule at h; simp only [Bool.and_eq_true, decide_eq_true_eq, List.all_eq_true] at h; exact h.2.2
end Go.Proofs.YtaeedepojpablaaGreatDoor

namespace Go.Proofs.YtaeedepojpablaaGreatDoor
open Go.RowKit
abbrev Kinds := List (ByteArray × Int)
def kget (l : Kinds) (v : ByteArray) : Int := (kvGet l v).getD 0
def kput (l : Kinds) (v : ByteArray) (k : Int) : Kinds := if v.size = 0 ∨ k = 0 ∨ kget l v ≠ 0 then l else l ++ [(v, k)]
structure KOk (l : Kinds) : Prop where
 nod : (l.map Prod.fst).Nodup
 pos : ∀ p ∈ l, p.2 ≠ 0
theorem KOk.nil : KOk [] := ⟨by simp, fun p h => by cases h⟩
theorem kget_none {l : Kinds} (h : KOk l) {v : ByteArray} : kget l v = 0 ↔ v ∉ l.map Prod.fst := by
 induction l with
 | nil => simp [kget, kvGet]
 | cons p l ih =>
   have h' : KOk l := ⟨(List.nodup_cons.1 h.nod).2, fun q hq => h.pos q (List.mem_cons_of_mem _ hq)⟩
   have ih := ih h'; unfold kget at ih ⊢; rw [kvGet_cons]; by_cases hp : p.1 = v
   ·rw [if_pos hp]; have := h.pos p (List.mem_cons_self ..); simp [hp, this]
   ·rw [if_neg hp, ih]; simp only [List.map_cons, List.mem_cons, not_or]; exact ⟨fun k => ⟨fun e => hp e.symm, k⟩, fun k => k.2⟩
theorem KOk.put {l : Kinds} (h : KOk l) (v : ByteArray) (k : Int) : KOk (kput l v k) := by
 unfold kput; split
 ·exact h
 ·rename_i hc
  simp only [not_or, Decidable.not_not] at hc; refine ⟨?_, fun p hp => ?_⟩
  ·rw [List.map_append, List.nodup_append]; refine ⟨h.nod, by simp, fun a ha b hb e => ?_⟩; simp at hb
   subst hb; subst e; exact (kget_none h).1 hc.2.2 ha
  ·rcases List.mem_append.1 hp with h1 | h1
   ·exact h.pos p h1
   ·rw [List.mem_singleton.1 h1]; exact hc.2.1
theorem kput_len (l : Kinds) (v : ByteArray) (k : Int) : kput l v k = l ∨ (kput l v k).length = l.length + 1 := by
 unfold kput; split
 ·exact .inl rfl
 ·exact .inr (by simp)
theorem kget_snoc (l : Kinds) (w v : ByteArray) (k : Int) : kget (l ++ [(w, k)]) v = if kvGet l v = none then (if w = v then k else 0) else kget l v := by
 unfold kget; induction l with
 | nil =>
   rw [if_pos (show kvGet ([] : Kinds) v = none from rfl)]; show (kvGet [(w, k)] v).getD 0 = _; rw [kvGet_cons]; by_cases h : w = v
   ·rw [if_pos h, if_pos h]; rfl
   ·rw [if_neg h, if_neg h]; rfl
 | cons p l ih =>
   show (kvGet (p :: (l ++ [(w, k)])) v).getD 0 = _; rw [kvGet_cons, kvGet_cons]; by_cases h : p.1 = v
   ·rw [if_pos h, if_pos h]; rfl
   ·rw [if_neg h, if_neg h]; exact ih
theorem kput_keep {l : Kinds} {v w : ByteArray} {k : Int} (h : kget l v ≠ 0) : kget (kput l w k) v = kget l v := by
 unfold kput; split
 ·rfl
 ·rw [kget_snoc, if_neg (fun e => h (by unfold kget; rw [e]; rfl))]
def argsK (ks : List Int) (but : Int) : Kinds → List GTold → Nat → Kinds
 | l, [], _ => l
 | l, t :: r, i => argsK ks but (if (i : Int) ≠ but ∧ i < ks.length then kput l t.x (ks.getD i 0) else l) r (i + 1)
def fitsK (l : Kinds) (t : GTold) (k : Int) : Bool := let own := if t.x.size ≠ 0 then kget l t.x else t.v.k; decide (own = 0) || decide (own = k)
def sideK (l : Kinds) (e : GExp) : Int := if e.op ≠ 0 then 1 else if e.t.x.size ≠ 0 then kget l e.t.x else e.t.v.k
def numbersK (l : Kinds) (ts : List GTold) : Kinds := ts.foldl (fun l t => kput l t.x 1) l
def cmpK (lv : GExp → List GTold) (l : Kinds) (x : GLit) : Kinds :=
 let l1 := if x.l.op ≠ 0 ∨ 3 ≤ x.op then numbersK l (lv x.l) else l
 let l2 := if x.r.op ≠ 0 ∨ 3 ≤ x.op then numbersK l1 (lv x.r) else l1
 if 3 ≤ x.op then l2 else
  let l3 := kput l2 x.l.t.x (sideK l2 x.r); kput l3 x.r.t.x (sideK l3 x.l)
def roundK (lv : GExp → List GTold) (body : List GLit) (l : Kinds) : Kinds := body.foldl (fun l x => if x.k = 3 then cmpK lv l x else l) l
def kindsF (lv : GExp → List GTold) (body : List GLit) : Nat → Kinds → Kinds
 | 0, l => l
 | f + 1, l => if (roundK lv body l).length = l.length then l else kindsF lv body f (roundK lv body l)
def Grows (l l' : Kinds) : Prop := l' = l ∨ l.length < l'.length
theorem Grows.refl (l : Kinds) : Grows l l := .inl rfl
theorem Grows.trans {a b c : Kinds} (h : Grows a b) (k : Grows b c) : Grows a c := by
 rcases h with rfl | h
 ·exact k
 ·rcases k with rfl | k
  ·exact .inr h
  ·exact .inr (by omega)
theorem Grows.put (l : Kinds) (v : ByteArray) (k : Int) : Grows l (kput l v k) := by
 rcases kput_len l v k with h | h
 ·exact .inl h
 ·exact .inr (by omega)
theorem numbers_grows : ∀ (ts : List GTold) (l : Kinds), Grows l (numbersK l ts)
 | [], l => .refl l
 | t :: ts, l => (Grows.put l t.x 1).trans (numbers_grows ts (kput l t.x 1))
theorem cmp_grows (lv : GExp → List GTold) (l : Kinds) (x : GLit) : Grows l (cmpK lv l x) := by
 unfold cmpK
 have h1 : Grows l (if x.l.op ≠ 0 ∨ 3 ≤ x.op then numbersK l (lv x.l) else l) := by
  split
  ·exact numbers_grows _ _
  ·exact .refl _
 generalize (if x.l.op ≠ 0 ∨ 3 ≤ x.op then numbersK l (lv x.l) else l) = l1 at h1
 have h2 : Grows l1 (if x.r.op ≠ 0 ∨ 3 ≤ x.op then numbersK l1 (lv x.r) else l1) := by
  split
  ·exact numbers_grows _ _
  ·exact .refl _
 dsimp only; generalize (if x.r.op ≠ 0 ∨ 3 ≤ x.op then numbersK l1 (lv x.r) else l1) = l2 at h2; split
 ·exact h1.trans h2
 ·exact (h1.trans h2).trans ((Grows.put _ _ _).trans (Grows.put _ _ _))
theorem round_grows (lv : GExp → List GTold) : ∀ (body : List GLit) (l : Kinds), Grows l (roundK lv body l)
 | [], l => .refl l
 | x :: body, l => by
   show Grows l (roundK lv body (if x.k = 3 then cmpK lv l x else l)); refine Grows.trans ?_ (round_grows lv body _); split
   ·exact cmp_grows lv l x
   ·exact .refl l
theorem nodup_sub : ∀ {l m : List ByteArray}, l.Nodup → (∀ x ∈ l, x ∈ m) → l.length ≤ m.length
 | [], _, _, _ => Nat.zero_le _
 | x :: l, m, hn, h => by
   obtain ⟨p, q, rfl⟩ := List.append_of_mem (h x (List.mem_cons_self ..)); rw [List.nodup_cons] at hn
   have := nodup_sub (l := l) (m := p ++ q) hn.2 (fun y hy => by
    have hm := h y (List.mem_cons_of_mem _ hy); rcases List.mem_append.1 hm with h1 | h1
    ·exact List.mem_append_left _ h1
    ·rcases List.mem_cons.1 h1 with rfl | h1
     ·exact absurd hy hn.1
     ·exact List.mem_append_right _ h1)
   simp at this ⊢
   omega
theorem kinds_most {l : Kinds} (h : KOk l) {vars : List ByteArray} (hv : ∀ p ∈ l, p.1 ∈ vars) : l.length ≤ vars.length := by
 have := nodup_sub h.nod (m := vars) (fun x hx => by
  obtain ⟨p, hp, rfl⟩ := List.mem_map.1 hx
  exact hv p hp)
 simpa using this
end Go.Proofs.YtaeedepojpablaaGreatDoor

namespace Go.Proofs.YtaeedepojpablaaGreatDoor
def kindsD (ds : List GDecl) (r : ByteArray) : List Int := match idxD ds r with | some i => ((ds[i]?).map GDecl.kinds).getD [] | none => []
def colK (x : GRule) : Int := if 0 < x.agg then x.col else -1
def atomK (ds : List GDecl) (l : Kinds) (a : GAtom) (but : Int) : Kinds := argsK (kindsD ds a.rel) but l a.args 0
def startK (ds : List GDecl) (x : GRule) : Kinds := x.body.foldl (fun l y => atomK ds l y.atom (-1)) (atomK ds [] x.head (colK x))
def varsY (y : GLit) : List ByteArray := y.atom.args.map GTold.x ++ ((leavesE y.l).map GTold.x ++ ((leavesE y.r).map GTold.x ++ [y.l.t.x, y.r.t.x]))
def varsR (x : GRule) : List ByteArray := x.head.args.map GTold.x ++ x.body.flatMap varsY
def kindsR (ds : List GDecl) (x : GRule) : Kinds := kindsF leavesE x.body ((varsR x).length + 1) (startK ds x)
def okArg (l : Kinds) (agg col : Int) (i : Nat) (t : GTold) (k : Int) : Bool :=
 if (i : Int) = col ∧ agg = 1 then decide (k = 1) else if (i : Int) = col ∧ agg = 2 then decide (k = 1) && fitsK l t 1 else fitsK l t k
def okArgs (l : Kinds) (agg col : Int) (ks : List Int) : List GTold → Nat → Bool
 | [], _ => true
 | t :: r, i => okArg l agg col i t (ks.getD i 0) && okArgs l agg col ks r (i + 1)
def atomErr (ds : List GDecl) (l : Kinds) (a : GAtom) (agg col : Int) : Int :=
 if idxD ds a.rel = none then 5 else if (kindsD ds a.rel).length ≠ a.args.length then 6 else if okArgs l agg col (kindsD ds a.rel) a.args 0 = true then 0 else 7
def cmpErr (l : Kinds) (x : GLit) : Int :=
 if (x.l.op ≠ 0 ∨ 3 ≤ x.op) ∧ (leavesE x.l).any (fun t => !fitsK l t 1) = true then 7
 else if (x.r.op ≠ 0 ∨ 3 ≤ x.op) ∧ (leavesE x.r).any (fun t => !fitsK l t 1) = true then 7
 else if sideK l x.l ≠ sideK l x.r ∧ sideK l x.l ≠ 0 ∧ sideK l x.r ≠ 0 then 7 else 0
def litErr (ds : List GDecl) (l : Kinds) (y : GLit) : Int := if y.k = 3 then cmpErr l y else atomErr ds l y.atom 0 (-1)
def bodyErr (ds : List GDecl) (l : Kinds) : List GLit → Int × Int
 | [] => (0, 0)
 | y :: r => if litErr ds l y ≠ 0 then (y.pos, litErr ds l y) else bodyErr ds l r
def ruleErr (ds : List GDecl) (x : GRule) : Int × Int :=
 let l := kindsR ds x; if atomErr ds l x.head x.agg (colK x) ≠ 0 then (x.pos, atomErr ds l x.head x.agg (colK x)) else bodyErr ds l x.body
def rulesErr (ds : List GDecl) : List GRule → Int × Int
 | [] => (0, 0)
 | x :: r => if (ruleErr ds x).2 ≠ 0 then ruleErr ds x else rulesErr ds r
def dupErr (ds : List GDecl) : List GDecl → Nat → Option Int
 | [], _ => none
 | d :: r, i => if idxD ds d.rel ≠ some i then some d.pos else dupErr ds r (i + 1)
def tyErr (p : GProg) : Int × Int :=
 if formedB p = false then (0, 2) else match dupErr p.decls p.decls 0 with
 | some at_ => (at_, 14)
 | none => rulesErr p.decls p.rules
theorem kindsD_some {ds : List GDecl} {r : ByteArray} {i : Nat} {d : GDecl} (h : idxD ds r = some i) (hd : ds[i]? = some d) : kindsD ds r = d.kinds := by
 unfold kindsD; rw [h]; simp [hd]
theorem kindsD_none {ds : List GDecl} {r : ByteArray} (h : idxD ds r = none) : kindsD ds r = [] := by
 unfold kindsD; rw [h]
theorem kindsF_stop {lv : GExp → List GTold} {body : List GLit} {l : Kinds} {f : Nat} (h : (roundK lv body l).length = l.length) : kindsF lv body (f + 1) l = l := if_pos h
theorem kindsF_go {lv : GExp → List GTold} {body : List GLit} {l : Kinds} {f : Nat} (h : (roundK lv body l).length ≠ l.length) : kindsF lv body (f + 1) l = kindsF lv body f (roundK lv body l) := if_neg h
theorem kput_in {l : Kinds} {v : ByteArray} {k : Int} {p : ByteArray × Int} (h : p ∈ kput l v k) : p ∈ l ∨ p.1 = v := by
 unfold kput at h; split at h
 ·exact .inl h
 ·rcases List.mem_append.1 h with h | h
  ·exact .inl h
  ·rw [List.mem_singleton.1 h]; exact .inr rfl
end Go.Proofs.YtaeedepojpablaaGreatDoor

namespace Go.Proofs.YtaeedepojpablaaGreatDoor
open Go.RowKit
def ScopeAt (W : World) (g km : Nat) (cs : List Value) (mo : Bool) : Prop := cs.length = 8 ∧ W.heap[g]? = some (.cells (cs ++ ([.map (some km), .bool mo] : List Value)).toArray 124 (0, 0))
theorem ScopeAt.map {W : World} {g km : Nat} {cs : List Value} {mo : Bool} (h : ScopeAt W g km cs mo) : W.cell? ⟨g, 8, none⟩ = some (.map (some km)) := by
 rw [cell_of_row _ _ _ _ _ _ h.2]; simp [h.1]
theorem ScopeAt.more {W : World} {g km : Nat} {cs : List Value} {mo : Bool} (h : ScopeAt W g km cs mo) : W.cell? ⟨g, 9, none⟩ = some (.bool mo) := by
 rw [cell_of_row _ _ _ _ _ _ h.2]; simp [h.1]
theorem zero_kind (W : World) : (zeroValue 47).run Tryz.prog W = .ok (.int .i64 0) W := by kernel_rfl
def tellK (kvs : List (ByteArray × Value)) (x : ByteArray) (k : Int) : Bool := (!x.toList.isEmpty) && (kvGet kvs x).isNone && (k != 0)
theorem tellNo_any (g km : Nat) (cs : List Value) (mo : Bool) (kvs : List (ByteArray × Value)) (x : ByteArray) (k : Int) (w : World) (h : ScopeAt w g km cs mo) (hm : MapIs w km kvs) (hn : tellK kvs x k = false) :
 Calls Tryz.prog 99 #[.pointer (some ⟨g, 0, none⟩), .string x, .int .i64 k] w (fun e w' => e = .returned (.tuple #[]) ∧ w' = w) := by
 have hyu : undef = Value.tuple #[] := rfl; have c8 := h.map; have hlk := hm.lookup_ok (P := Tryz.prog) Tryz.underlying67 Tryz.underlying9 (z := .int .i64 0) (zero_kind w) x; unfold tellK at hn; cases h1 : x.toList.isEmpty with
 | true =>
   clear h hm hn; go_enter Tryz.func99, Tryz.ntmps99
   go_wp2_with fail
   refine bodyPost_end (results_none rfl _ _ _) rfl ?_; exact ⟨rfl, rfl⟩
 | false =>
 cases h2 : (kvGet kvs x) with
 | some v =>
   rw [h2] at hlk; clear h hm hn h2; go_enter Tryz.func99, Tryz.ntmps99
   go_wp2_with fail
   refine bodyPost_end (results_none rfl _ _ _) rfl ?_; exact ⟨rfl, rfl⟩
 | none =>
   have h3 : (k != 0) = false := by rw [h1, h2] at hn; simpa using hn
   rw [h2] at hlk; clear h hm hn h2; go_enter Tryz.func99, Tryz.ntmps99
   go_wp2_with fail
   refine bodyPost_end (results_none rfl _ _ _) rfl ?_; exact ⟨rfl, rfl⟩
theorem tellYes_any (g km : Nat) (cs : List Value) (mo : Bool) (kvs : List (ByteArray × Value)) (x : ByteArray) (k : Int) (w : World) (h : ScopeAt w g km cs mo) (hm : MapIs w km kvs) (hn : tellK kvs x k = true) :
 Calls Tryz.prog 99 #[.pointer (some ⟨g, 0, none⟩), .string x, .int .i64 k] w (fun e w' => e = .returned (.tuple #[]) ∧ ScopeAt w' g km cs true ∧ MapIs w' km (kvSet kvs x (.int .i64 k)) ∧ Out [g, km] w w') := by
 have hyu : undef = Value.tuple #[] := rfl; have c8 := h.map; have hlk := hm.lookup_ok (P := Tryz.prog) Tryz.underlying67 Tryz.underlying9 (z := .int .i64 0) (zero_kind w) x; unfold tellK at hn; simp only [Bool.and_eq_true] at hn; obtain ⟨⟨h1, h2⟩, h3⟩ := hn; have h1' : x.toList.isEmpty = false := by simpa using h1
 have h2' : kvGet kvs x = none := by simpa using h2
 rw [h2'] at hlk
 have hgk : g ≠ km := by
  rintro rfl; obtain ⟨es, cl, hb, -⟩ := hm.ex; rw [h.2] at hb; cases hb
 obtain ⟨w2, hup, hm2, hg2, hz2⟩ := hm.update (P := Tryz.prog) Tryz.underlying67 Tryz.underlying9 x (.int .i64 k); have hr2 : w2.heap[g]? = _ := (hg2.block g (glt h.2) (by simpa using hgk)).trans h.2; have hs2 : ScopeAt w2 g km cs mo := ⟨h.1, hr2⟩
 have c9 := hs2.more; have z9 : w2.frozen? ⟨g, 9, none⟩ = false := frozen_of_row _ _ _ _ _ hr2
 have HE : Hid (ScopeAt (w2.setCell ⟨g, 9, none⟩ (.bool true)) g km cs true ∧ MapIs (w2.setCell ⟨g, 9, none⟩ (.bool true)) km (kvSet kvs x (.int .i64 k)) ∧ Out [g, km] w (w2.setCell ⟨g, 9, none⟩ (.bool true))) := by
  refine ⟨⟨h.1, ?_⟩, hm2.same (World.heap_setCells_other' (by simpa using Ne.symm hgk)), ?_⟩
  ·have h8 := h.1; match cs, h8 with
   | [a0, a1, a2, a3, a4, a5, a6, a7], _ => simp [World.setCell, Array.getElem?_modify, hr2]
  ·exact ((grown_out hg2).mono (fun b hb _ => by simp at hb; simp [hb])).trans (set_out w2 g 9 _) (fun b hb _ => by simp at hb; simp [hb])
 clear h hm h1 h2 h2' hgk hm2 hg2 hz2 hr2 hs2; go_enter Tryz.func99, Tryz.ntmps99
 go_wp2_with fail
 refine bodyPost_end (results_none rfl _ _ _) rfl ?_; exact ⟨rfl, HE.out⟩
end Go.Proofs.YtaeedepojpablaaGreatDoor
