/- My own texts PaW, PFrame, as far as this claim needs them. -/
import Derived.Test.YtgphngjniplonaaGreatDoorZp23
set_option linter.unusedVariables false
set_option linter.unusedSimpArgs false
set_option maxRecDepth 1000000
set_option maxHeartbeats 16000000
namespace Go.Proofs.YtgphngjniplonaaGreatDoor
open Go.RowKit
theorem Rd.begin {W : World} {A : Option Addr} {c : Nat} {T : List GTok} {E : Nat} (hp : ParW W) (ht : SliceIs Enc.tok W W.heap.size A T.length c T) (hX : Toks T E) (hE : E ≤ 4000) (hT : T.length ≤ 4000) :
    Rd (W.heap.size + 1) W.heap.size A c T E ps0 (W.alloc (.cells #[.slice A T.length c, .int .i64 0, .int .i64 E, .int .i64 0, .int .i64 0, .int .i64 0] 161)) := by
  have hB := belowA (Below.refl W.heap.size W) (.cells #[.slice A T.length c, .int .i64 0, .int .i64 E, .int .i64 0, .int .i64 0, .int .i64 0] 161)
  refine ⟨heapNew rfl, ?_, hp.on hB, Nat.lt_succ_self _, by simp, fun b hb => ?_, fine0 T E, hX.within, hE, hT, by decide, hX.texts⟩
  · refine ht.mono' (Nat.le_succ _) (fun b hb cs t fr hcs hc => ?_)
    rw [sans_out (by simp; omega), hB.block b hb, hcs]
  · have := hp.lt b hb
    omega
def parErr (e : Int) : Value := if e = 0 then .nilIface else .iface 57 (.int .i64 e)
def WholeRes (s : ByteArray) (w : World) (e : Ending) (w' : World) : Prop := Below w.heap.size w w' ∧
  ∃ (d : Nat) (a b : Hd), e = .returned (.tuple #[.agg #[a.v, b.v], .int .i64 (parseP s.toList).2.1, parErr (parseP s.toList).2.2]) ∧ SliceFar Enc.decl w' (List.range w.heap.size) a.A a.n a.c (parseP s.toList).1.decls ∧ SliceFar (Enc.rule d) w' (List.range w.heap.size) b.A b.n b.c (parseP s.toList).1.rules
structure WhJ (w : World) (g ob : Nat) (A : Option Addr) (c : Nat) (T : List GTok) (E : Nat) (A1 : Option Addr) (k1 c1 : Nat) (A2 : Option Addr) (k2 c2 : Nat) (y : GProg) (d : Nat) (s : PS) (V : World) : Prop where
  rd : Rd (g + 1) g A c T E s V
  nn : V.heap[w.heap.size + 1]? = some (.cells #[.slice none 0 0, .slice none 0 0] 25 (0, 0))
  rr : V.heap[w.heap.size]? = some (.cells #[.slice none 0 0, .slice none 0 0] 25 (0, 0))
  ob : V.heap[ob]? = some (.cells #[.slice A1 k1 c1, .slice A2 k2 c2] 25 (0, 0))
  below : Below w.heap.size w V
  da : SliceFar Enc.decl V (List.range (g + 1)) A1 k1 c1 y.decls
  db : SliceFar (Enc.rule d) V (List.range (g + 1)) A2 k2 c2 y.rules
theorem WhJ.go {w : World} {g ob : Nat} {A : Option Addr} {c : Nat} {T : List GTok} {E : Nat} {A1 : Option Addr} {k1 c1 : Nat} {A2 : Option Addr} {k2 c2 : Nat} {y : GProg} {d : Nat} {s s' : PS} {V V' : World} (hg : w.heap.size + 2 ≤ g) (hob : g < ob) (h : WhJ w g ob A c T E A1 k1 c1 A2 k2 c2 y d s V) (hr : Rd (g + 1) g A c T E s' V') (ho : Out [g] V V') : WhJ w g ob A c T E A1 k1 c1 A2 k2 c2 y d s' V' :=
  ⟨hr, (ho.block _ (Array.getElem?_eq_some_iff.1 h.nn).1 (by simp; omega)).trans h.nn, (ho.block _ (Array.getElem?_eq_some_iff.1 h.rr).1 (by simp; omega)).trans h.rr, (ho.block _ (Array.getElem?_eq_some_iff.1 h.ob).1 (by simp; omega)).trans h.ob,
    h.below.trans (ho.below (fun b hb => by simp at hb; omega) h.below.size), h.da.out ho (fun b hb _ => by simp at hb; simp; omega) (fun _ h _ => h), h.db.out ho (fun b hb _ => by simp at hb; simp; omega) (fun _ h _ => h)⟩
theorem WhJ.on {w : World} {g ob : Nat} {A : Option Addr} {c : Nat} {T : List GTok} {E : Nat} {A1 : Option Addr} {k1 c1 : Nat} {A2 : Option Addr} {k2 c2 : Nat} {y : GProg} {d : Nat} {s : PS} {V V' : World} (hg : w.heap.size + 2 ≤ g) (hob : g < ob) (h : WhJ w g ob A c T E A1 k1 c1 A2 k2 c2 y d s V) (hb : Below V.heap.size V V') : WhJ w g ob A c T E A1 k1 c1 A2 k2 c2 y d s V' :=
  h.go hg hob (h.rd.on hb) (Out.of_below hb _)
theorem WhJ.fin {w : World} {g ob : Nat} {A : Option Addr} {c : Nat} {T : List GTok} {E : Nat} {A1 : Option Addr} {k1 c1 : Nat} {A2 : Option Addr} {k2 c2 : Nat} {y : GProg} {d : Nat} {s : PS} {V V' : World} (hg : w.heap.size + 2 ≤ g) (h : WhJ w g ob A c T E A1 k1 c1 A2 k2 c2 y d s V) (ho : Out [w.heap.size] V V') : Below w.heap.size w V' ∧ SliceFar Enc.decl V' (List.range w.heap.size) A1 k1 c1 y.decls ∧ SliceFar (Enc.rule d) V' (List.range w.heap.size) A2 k2 c2 y.rules :=
  ⟨h.below.trans (ho.below (fun b hb => by simp at hb; omega) h.below.size), h.da.out ho (fun b hb _ => by simp at hb; simp; omega) (fun b hb _ => by simp at hb; simp; omega), h.db.out ho (fun b hb _ => by simp at hb; simp; omega) (fun b hb _ => by simp at hb; simp; omega)⟩
theorem whole_any (s : ByteArray) (hs : s.size ≤ 140737488351232) (w : World) (hW : ParW w) : Calls Tryz.prog 51 #[.string s, .func (.func 52) #[] #[]] w (WholeRes s w) := by
  have HW := Lib.hid hW
  obtain ⟨P, HP⟩ : ∃ P : Ending → World → Prop, Hid (P = WholeRes s w) := ⟨_, rfl⟩
  rw [← HP.out]
  have HLs := Lib.hid (fun (V : World) (hV : ParW V) => list_any s hs V hV.lex)
  have Hlen := Lib.hid (ba_len s)
  have HE : Hid (∀ (V : World) (at_ : Nat) (er : Int), Below w.heap.size w V → parseP s.toList = (⟨[], []⟩, at_, er) → P (.returned (.tuple #[.agg #[.slice none 0 0, .slice none 0 0], .int .i64 at_, parErr er])) V) := fun V at_ er hb hp => by
    rw [HP.out]
    refine ⟨hb, 0, ⟨none, 0, 0⟩, ⟨none, 0, 0⟩, by rw [hp], ?_, ?_⟩
    · rw [hp]; exact SliceFar.nil
    · rw [hp]; exact SliceFar.nil
  clear hW
  go_enter Tryz.func51, Tryz.ntmps51
  go_wp2_with fail
  have hb0 : Below w.heap.size w ((w.alloc (.cells #[.slice none 0 0, .slice none 0 0] 25)).alloc (.cells #[.slice none 0 0, .slice none 0 0] 25)) := belowA (belowA (Below.refl _ _) _) _
  have hr0 : ((w.alloc (.cells #[.slice none 0 0, .slice none 0 0] 25)).alloc (.cells #[.slice none 0 0, .slice none 0 0] 25)).heap[w.heap.size]? = some (.cells #[.slice none 0 0, .slice none 0 0] 25 (0, 0)) := ((belowA (Below.refl _ (w.alloc (.cells #[.slice none 0 0, .slice none 0 0] 25))) _).block _ (by rw [World.size_alloc]; omega)).trans (heapNew rfl)
  have hn0 : ((w.alloc (.cells #[.slice none 0 0, .slice none 0 0] 25)).alloc (.cells #[.slice none 0 0, .slice none 0 0] 25)).heap[w.heap.size + 1]? = some (.cells #[.slice none 0 0, .slice none 0 0] 25 (0, 0)) := heapNew (by rw [World.size_alloc])
  refine (HLs.out _ (HW.out.on hb0)).mono ?_
  rintro e w1 ⟨hb, hcase⟩
  have hz0 : ((w.alloc (.cells #[.slice none 0 0, .slice none 0 0] 25)).alloc (.cells #[.slice none 0 0, .slice none 0 0] 25)).heap.size = w.heap.size + 2 := by simp
  have hz1 := hb.size
  rw [hz0] at hz1
  replace hr0 := (hb.block w.heap.size (by omega)).trans hr0
  replace hn0 := (hb.block (w.heap.size + 1) (by omega)).trans hn0
  have hb1 : Below w.heap.size w w1 := Below.trans hb0 (hb.mono (by omega))
  clear hb hb0 hz0 HLs
  obtain ⟨r0, r1⟩ := facts2 hr0
  obtain ⟨n0, n1⟩ := facts2 hn0
  have rf := froz4 hr0
  have Hb1 := Lib.hid hb1
  have Hr0 := Lib.hid hr0
  have Hn0 := Lib.hid hn0
  clear hr0 hn0 hb1
  rcases hcase with ⟨h4, rfl⟩ | ⟨h4, ⟨p, hp, rfl⟩ | ⟨hn, A, c, rfl, ht⟩⟩
  · have hl : 4000 < s.toList.length := by rw [Hlen.out]; exact h4
    have HX : Hid (∀ V, Below w.heap.size w V → P (.returned (.tuple #[.agg #[.slice none 0 0, .slice none 0 0], .int .i64 4000, .iface 57 (.int .i64 3)])) V) := fun V hb => HE.out V 4000 3 hb (by unfold parseP wholeP; rw [if_pos hl])
    clear HE HP hl h4
    go_wp2_with fail
    exact bodyPost_ret (v := .tuple #[.agg #[.slice none 0 0, .slice none 0 0], .int .i64 4000, .iface 57 (.int .i64 3)]) (by simp [results, Tryz.results51, go_sem, r0, r1]) rfl (HX.out _ (belowS (belowS Hb1.out _ _ (Nat.le_refl _) _) _ _ (Nat.le_refl _) _))
  · have hl : ¬ 4000 < s.toList.length := by rw [Hlen.out]; omega
    have HX : Hid (∀ V, Below w.heap.size w V → P (.returned (.tuple #[.agg #[.slice none 0 0, .slice none 0 0], .int .i64 p, .iface 57 (.int .i64 2)])) V) := fun V hb => HE.out V p 2 hb (by unfold parseP wholeP; rw [if_neg hl, hp])
    clear HE HP hl h4 hp
    go_wp2_with fail
    exact bodyPost_ret (v := .tuple #[.agg #[.slice none 0 0, .slice none 0 0], .int .i64 p, .iface 57 (.int .i64 2)]) (by simp [results, Tryz.results51, go_sem, r0, r1]) rfl (HX.out _ (belowS (belowS Hb1.out _ _ (Nat.le_refl _) _) _ _ (Nat.le_refl _) _))
  · have hl : ¬ 4000 < s.toList.length := by rw [Hlen.out]; omega
    have hTl := (lex_len (wk := wordK) _ 0 s.toList (Nat.le_refl _)).2
    replace hTl : (lexS s.toList).1.length ≤ s.size := by rw [← Hlen.out]; exact hTl
    have hTk := toks_of (l := s.toList) (by omega)
    rw [Hlen.out] at hTk
    have HRd := Lib.hid (Rd.begin (HW.out.on Hb1.out) ht hTk h4 (Nat.le_trans hTl h4))
    have HPs : Hid (parseP s.toList = if (lastP (lexS s.toList).1 s.size (programP (lexS s.toList).1 s.size ps0).1).err = 0 then ((programP (lexS s.toList).1 s.size ps0).2, 0, 0) else (⟨[], []⟩, (lastP (lexS s.toList).1 s.size (programP (lexS s.toList).1 s.size ps0).1).pl, (lastP (lexS s.toList).1 s.size (programP (lexS s.toList).1 s.size ps0).1).err)) := by
      show _ = _
      unfold parseP wholeP
      rw [if_neg hl, hn]
      dsimp only
      rw [Hlen.out]
    generalize (lexS s.toList).1 = T at *
    have HPg := Lib.hid (rprogram_any HRd.out rfl)
    generalize programP T s.size ps0 = y at *
    have HE2 : Hid (∀ (V : World) (d : Nat) (a b : Hd), (lastP T s.size y.1).err = 0 → Below w.heap.size w V → SliceFar Enc.decl V (List.range w.heap.size) a.A a.n a.c y.2.decls → SliceFar (Enc.rule d) V (List.range w.heap.size) b.A b.n b.c y.2.rules → P (.returned (.tuple #[.agg #[a.v, b.v], .int .i64 0, .nilIface])) V) := fun V d a b h0 hb h1 h2 => by
      rw [HP.out]
      refine ⟨hb, d, a, b, ?_, ?_, ?_⟩
      · rw [HPs.out, if_pos h0]; rfl
      · rw [HPs.out, if_pos h0]; exact h1
      · rw [HPs.out, if_pos h0]; exact h2
    have HE3 : Hid (∀ (V : World), (lastP T s.size y.1).err ≠ 0 → Below w.heap.size w V → P (.returned (.tuple #[.agg #[.slice none 0 0, .slice none 0 0], .int .i64 (lastP T s.size y.1).pl, .iface 57 (.int .i64 (lastP T s.size y.1).err)])) V) := fun V h0 hb => by
      have h := HE.out V (lastP T s.size y.1).pl (lastP T s.size y.1).err hb (by rw [HPs.out, if_neg h0])
      unfold parErr at h
      rw [if_neg h0] at h
      exact h
    clear HE HP HPs hl hTl hTk ht hn HW
    go_wp2_with fail
    refine HPg.out.mono ?_
    rintro e w2 ⟨d, ⟨A1, k1, c1⟩, ⟨A2, k2, c2⟩, rfl, hr2, ho2, ha, hb⟩
    dsimp only [Hd.v] at *
    have hz2 := ho2.size
    rw [World.size_alloc] at hz2
    have HR2 := Lib.hid hr2
    have HO2 := Lib.hid ho2
    have Ha := Lib.hid ha
    have Hb := Lib.hid hb
    have HN2 := Lib.hid ((ho2.block (w.heap.size + 1) (by rw [World.size_alloc]; omega) (by simp; omega)).trans (heapOld Hn0.out))
    have HRR2 := Lib.hid ((ho2.block w.heap.size (by rw [World.size_alloc]; omega) (by simp; omega)).trans (heapOld Hr0.out))
    clear hr2 ho2 ha hb HPg HRd r0 r1 n0 n1 rf
    go_wp2_with fail
    --TAIL
    have hg2 : w.heap.size + 2 ≤ w1.heap.size := hz1
    have hob2 : w1.heap.size < w2.heap.size := by omega
    have ha2 := Ha.out
    have hb2 := Hb.out
    rw [World.size_alloc] at ha2 hb2
    have hJ : WhJ w w1.heap.size w2.heap.size A c T s.size A1 k1 c1 A2 k2 c2 y.2 d y.1 (w2.alloc (.cells #[.slice A1 k1 c1, .slice A2 k2 c2] 25)) :=
      ⟨HR2.out.on (belowA (Below.refl _ _) _), heapOld HN2.out, heapOld HRR2.out, heapNew rfl, ((Hb1.out.alloc Hb1.out.size _).trans (HO2.out.below (fun b hb => by simp at hb; have := Hb1.out.size; omega) (by rw [World.size_alloc]; have := Hb1.out.size; omega))).alloc (by have := Hb1.out.size; omega) _, ha2.on (belowA (Below.refl _ _) _), hb2.on (belowA (Below.refl _ _) _)⟩
    have HJ := Lib.hid hJ
    clear hJ ha2 hb2 HR2 HO2 Ha Hb HN2 HRR2 Hr0 Hn0 Hb1
    generalize w2.alloc (.cells #[.slice A1 k1 c1, .slice A2 k2 c2] 25) = w3 at *
    obtain ⟨c0, c1', c2', c3, c4, c5⟩ := HJ.out.rd.cells
    obtain ⟨s2, Hs2⟩ : ∃ s2, Hid (s2 = lastP T s.size y.1) := ⟨_, rfl⟩
    rw [← Hs2.out] at HE2 HE3
    by_cases hlt : y.1.next < T.length
    · have i1 : (y.1.next : Int) < (T.length : Int) := by omega
      have HPl := Lib.hid (fun (V : World) (hR : Rd (w1.heap.size + 1) w1.heap.size A c T s.size y.1 V) => rplace_any hR)
      have HFl := Lib.hid (fun (V : World) (hR : Rd (w1.heap.size + 1) w1.heap.size A c T s.size y.1 V) => rfail_any hR (peekP T s.size y.1 0).a (peek_le hR.within _ _) 2 (by omega))
      have hl2 : failP T y.1 (peekP T s.size y.1 0).a 2 = s2 := by rw [Hs2.out]; unfold lastP; rw [if_pos hlt]
      rw [hl2] at HFl
      clear hl2 Hs2
      go_quiet (fail)
      go_wp2_with fail
      refine (HPl.out _ (HJ.out.rd.on (below_drewN _ _ _))).mono ?_
      rintro e w5 ⟨rfl, hb5⟩
      have HJ5 := Lib.hid ((HJ.out.on hg2 hob2 (below_drewN _ _ _)).on hg2 hob2 hb5)
      clear hb5 HPl HJ c0 c1' c2' c3 c4 c5
      go_wp2_with fail
      refine (HFl.out _ HJ5.out.rd).mono ?_
      rintro e w6 ⟨rfl, hr6, ho6⟩
      have HJz := Lib.hid (HJ5.out.go hg2 hob2 hr6 ho6)
      clear hr6 ho6 HFl HJ5 i1 hlt
      obtain ⟨c0, -, -, -, c4, c5⟩ := HJz.out.rd.cells
      obtain ⟨n0, n1⟩ := facts2 HJz.out.nn
      obtain ⟨r0, r1⟩ := facts2 HJz.out.rr
      obtain ⟨o0, o1⟩ := facts2 HJz.out.ob
      have rf := froz4 HJz.out.rr
      by_cases he : s2.err = 0
      · have e0 : (s2.err == 0) = true := by simp [he]
        go_wp2_with fail
        obtain ⟨f1, f2, f3⟩ := WhJ.fin hg2 HJz.out (set2_out _ w.heap.size (.slice A1 k1 c1) (.slice A2 k2 c2))
        exact bodyPost_ret (v := .tuple #[.agg #[.slice A1 k1 c1, .slice A2 k2 c2], .int .i64 0, .nilIface]) (by simp [results, Tryz.results51, go_sem, r0, r1]) rfl (HE2.out _ d ⟨A1, k1, c1⟩ ⟨A2, k2, c2⟩ he f1 f2 f3)
      · have e0 : (s2.err == 0) = false := by simp [he]
        go_wp2_with fail
        go_region_with (fail)
        all_goals
          go_wp2_with fail
          refine bodyPost_ret (v := .tuple #[.agg #[.slice none 0 0, .slice none 0 0], .int .i64 s2.pl, .iface 57 (.int .i64 s2.err)]) (by simp [results, Tryz.results51, go_sem, Act.put, r0, r1]) rfl (HE3.out _ he (belowS (belowS HJz.out.below _ _ (Nat.le_refl _) _) _ _ (Nat.le_refl _) _).drew)
    · have i1 : ¬ (y.1.next : Int) < (T.length : Int) := by omega
      have hl2 : s2 = y.1 := by rw [Hs2.out]; unfold lastP; rw [if_neg hlt]
      clear Hs2
      go_quiet (fail)
      have HJz := Lib.hid (HJ.out.on hg2 hob2 (below_drewN w3 nq _))
      generalize w3.drewN nq = w4 at *
      rw [← hl2] at HJz
      clear HJ c0 c1' c2' c3 c4 c5 hl2
      obtain ⟨c0, -, -, -, c4, c5⟩ := HJz.out.rd.cells
      obtain ⟨n0, n1⟩ := facts2 HJz.out.nn
      obtain ⟨r0, r1⟩ := facts2 HJz.out.rr
      obtain ⟨o0, o1⟩ := facts2 HJz.out.ob
      have rf := froz4 HJz.out.rr
      by_cases he : s2.err = 0
      · have e0 : (s2.err == 0) = true := by simp [he]
        go_wp2_with fail
        obtain ⟨f1, f2, f3⟩ := WhJ.fin hg2 HJz.out (set2_out _ w.heap.size (.slice A1 k1 c1) (.slice A2 k2 c2))
        exact bodyPost_ret (v := .tuple #[.agg #[.slice A1 k1 c1, .slice A2 k2 c2], .int .i64 0, .nilIface]) (by simp [results, Tryz.results51, go_sem, r0, r1]) rfl (HE2.out _ d ⟨A1, k1, c1⟩ ⟨A2, k2, c2⟩ he f1 f2 f3)
      · have e0 : (s2.err == 0) = false := by simp [he]
        go_wp2_with fail
        go_region_with (fail)
        all_goals
          go_wp2_with fail
          refine bodyPost_ret (v := .tuple #[.agg #[.slice none 0 0, .slice none 0 0], .int .i64 s2.pl, .iface 57 (.int .i64 s2.err)]) (by simp [results, Tryz.results51, go_sem, Act.put, r0, r1]) rfl (HE3.out _ he (belowS (belowS HJz.out.below _ _ (Nat.le_refl _) _) _ _ (Nat.le_refl _) _).drew)
theorem parse_any (s : ByteArray) (hs : s.size ≤ 140737488351232) (w : World) (hW : ParW w) : Calls Tryz.prog 30 #[.string s] w (WholeRes s w) := by
  obtain ⟨P, HP⟩ : ∃ P : Ending → World → Prop, Hid (P = WholeRes s w) := ⟨_, rfl⟩
  rw [← HP.out]
  have HC := Lib.hid (fun (V : World) (hV : ParW V) => whole_any s hs V hV)
  have HW := Lib.hid hW
  clear hW
  go_enter Tryz.func30, Tryz.ntmps30
  go_wp2_with fail
  refine (HC.out _ (HW.out.on (belowA (Below.refl _ _) _))).mono ?_
  rintro e w1 ⟨hb, d, ⟨A1, k1, c1⟩, ⟨A2, k2, c2⟩, rfl, ha, hb2⟩
  dsimp only [Hd.v] at *
  have hr := (hb.block w.heap.size (by rw [World.size_alloc]; omega)).trans (heapNew rfl)
  have hb1 : Below w.heap.size w w1 := (belowA (Below.refl _ _) _).trans (hb.mono (by rw [World.size_alloc]; omega))
  obtain ⟨r0, r1⟩ := facts2 hr
  have rf := froz4 hr
  have HE : Hid (P (.returned (.tuple #[.agg #[.slice A1 k1 c1, .slice A2 k2 c2], .int .i64 (parseP s.toList).2.1, parErr (parseP s.toList).2.2])) ((w1.setCell ⟨w.heap.size, 0, none⟩ (.slice A1 k1 c1)).setCell ⟨w.heap.size, 1, none⟩ (.slice A2 k2 c2))) := by
    show P _ _
    rw [HP.out]
    have ho := set2_out w1 w.heap.size (.slice A1 k1 c1) (.slice A2 k2 c2)
    rw [World.size_alloc] at ha hb2
    exact ⟨belowS (belowS hb1 _ _ (Nat.le_refl _) _) _ _ (Nat.le_refl _) _, d, ⟨A1, k1, c1⟩, ⟨A2, k2, c2⟩, rfl, ha.out ho (fun b hb _ => by simp at hb; simp; omega) (fun b hb _ => by simp at hb; simp; omega), hb2.out ho (fun b hb _ => by simp at hb; simp; omega) (fun b hb _ => by simp at hb; simp; omega)⟩
  clear HP HC HW ha hb2 hb hb1 hr
  generalize parErr (parseP s.toList).2.2 = ev at *
  go_wp2_with fail
  exact bodyPost_ret (v := .tuple #[.agg #[.slice A1 k1 c1, .slice A2 k2 c2], .int .i64 (parseP s.toList).2.1, ev]) (by simp [results, Tryz.results30, go_sem, r0, r1]) rfl HE.out
end Go.Proofs.YtgphngjniplonaaGreatDoor

namespace Go.Proofs.YtgphngjniplonaaGreatDoor
open Go.ChangeShapes Go.WideShapes Go.ChangeAt Go.RowKit
set_option linter.unusedVariables false
def laidP {H : Type} : List (String × DataW H) := [("math/bits.deBruijn32tab", Rows.laid_math_bits_deBruijn32tab), ("math/bits.deBruijn64tab", Rows.laid_math_bits_deBruijn64tab), ("internal/strconv.uint64pow10", Rows.laid_internal_strconv_uint64pow10), ("strconv.ErrRange", Rows.laid_strconv_ErrRange), ("strconv.ErrSyntax", Rows.laid_strconv_ErrSyntax), ("corollary/lex.keys", Rows.laid_corollary_lex_keys), ("corollary/lex.signs", Rows.laid_corollary_lex_signs), ("corollary/parse.aggs", Rows.laid_corollary_parse_aggs), ("corollary/parse.signs", Rows.laid_corollary_parse_signs)]
theorem lexW_of_seven {W : World} {rest : List (String × DataW Unit)} (h : laidMet Tryz.prog (("math/bits.deBruijn32tab", Rows.laid_math_bits_deBruijn32tab) :: ("math/bits.deBruijn64tab", Rows.laid_math_bits_deBruijn64tab) :: ("internal/strconv.uint64pow10", Rows.laid_internal_strconv_uint64pow10) :: ("strconv.ErrRange", Rows.laid_strconv_ErrRange) :: ("strconv.ErrSyntax", Rows.laid_strconv_ErrSyntax) :: ("corollary/lex.keys", Rows.laid_corollary_lex_keys) :: ("corollary/lex.signs", Rows.laid_corollary_lex_signs) :: rest) W) : LexW W := by
  have h3 := laidMet.tail (laidMet.tail (laidMet.tail h))
  have h5 := laidMet.tail (laidMet.tail h3)
  have h6 := laidMet.tail h5
  refine ⟨TabW.of (Lib.tabIs_of_head gP gPT Tryz.underlying296 Tryz.underlying187 (by kernel_rfl) (by kernel_rfl) (rest := ("strconv.ErrRange", Rows.laid_strconv_ErrRange) :: ("strconv.ErrSyntax", Rows.laid_strconv_ErrSyntax) :: ("corollary/lex.keys", Rows.laid_corollary_lex_keys) :: ("corollary/lex.signs", Rows.laid_corollary_lex_signs) :: rest) (by rw [← pow_eq]; exact laidMet.tail (laidMet.tail h))), ?_, ?_, ?_⟩
  · obtain ⟨a0, s0, hv0, -, -, -⟩ := laid_sentinel h3 gER gERT Tryz.underlying45 rowES Tryz.underlying293 Tryz.underlying295 rfl rfl Tryz.underlying9 cellsES cellsStr
    obtain ⟨a1, s1, hv1, -, -, -⟩ := laid_sentinel (laidMet.tail h3) gES gEST Tryz.underlying45 rowES Tryz.underlying293 Tryz.underlying295 rfl rfl Tryz.underlying9 cellsES cellsStr
    exact ⟨⟨_, _, by have h0 := World.var?_cell gES hv1 0; simpa using h0⟩, ⟨_, _, by have h0 := World.var?_cell gER hv0 0; simpa using h0⟩⟩
  · rw [keys_eq] at h5
    exact strs_of_head gK gKT Tryz.underlying260 Tryz.underlying9 (by kernel_rfl) (by kernel_rfl) h5
  · rw [signs_eq] at h6
    exact strs_of_head gS gST Tryz.underlying250 Tryz.underlying9 (by kernel_rfl) (by kernel_rfl) h6
theorem paggs_eq {H : Type} : (Rows.laid_corollary_parse_aggs : DataW H) = strsData paggsL := rfl
theorem psigns_eq {H : Type} : (Rows.laid_corollary_parse_signs : DataW H) = strsData psignsL := rfl
theorem gPA : Tryz.prog.globalNamed "corollary/parse.aggs" = some 0 := by kernel_rfl
theorem gPAT : (Tryz.prog.globals[0]?).map (·.type) = some 229 := by kernel_rfl
theorem gPS : Tryz.prog.globalNamed "corollary/parse.signs" = some 2 := by kernel_rfl
theorem gPST : (Tryz.prog.globals[2]?).map (·.type) = some 255 := by kernel_rfl
theorem lexW_of_laidP {W : World} (h : laidMet Tryz.prog laidP W) : LexW W := lexW_of_seven h
theorem parW_of_laidP {W : World} (h : laidMet Tryz.prog laidP W) : ParW W := by
  have hL := lexW_of_laidP h
  have h7 := laidMet.tail (laidMet.tail (laidMet.tail (laidMet.tail (laidMet.tail (laidMet.tail (laidMet.tail h))))))
  have h8 := laidMet.tail h7
  rw [paggs_eq] at h7
  rw [psigns_eq] at h8
  exact ⟨hL, strs_of_head gPA gPAT Tryz.underlying229 Tryz.underlying9 (by kernel_rfl) (by kernel_rfl) h7, strs_of_head gPS gPST Tryz.underlying255 Tryz.underlying9 (by kernel_rfl) (by kernel_rfl) h8⟩
noncomputable def laidWorldP (os : Os) : World :=
  let w0 := World.holding Tryz.prog os ⟨#[.cells #[.string synS] 295, .cells #[.string rngS] 295], #[], []⟩
  let put (h : Array Obj) (g : Nat) (cs : Array Value) : Array Obj := h.modify g fun
    | .cells _ t frozen => .cells cs t frozen
    | o => o
  let tab (d : DataW Unit) : Array Value := match d with
    | .agg l => (l.map fun | .lit (.int k n) => Value.int k n | .lit (.string s) => Value.string ⟨s.toArray⟩ | _ => undef).toArray
    | _ => #[]
  let h1 := put w0.heap 8 (tab Rows.laid_math_bits_deBruijn32tab)
  let h2 := put h1 9 (tab Rows.laid_math_bits_deBruijn64tab)
  let h3 := put h2 7 (tab Rows.laid_internal_strconv_uint64pow10)
  let h4 := put h3 5 #[.iface 293 (.pointer (some ⟨low, 0, none⟩))]
  let h5 := put h4 6 #[.iface 293 (.pointer (some ⟨low + 1, 0, none⟩))]
  let h6 := put h5 3 (tab Rows.laid_corollary_lex_keys)
  let h7 := put h6 1 (tab Rows.laid_corollary_lex_signs)
  let h8 := put h7 0 (tab Rows.laid_corollary_parse_aggs)
  let h9 := put h8 2 (tab Rows.laid_corollary_parse_signs)
  { w0 with heap := h9 }
theorem laidWorldP_met (os : Os) (args : Array Value) : laidMet Tryz.prog laidP ((laidWorldP os).forCall (fun _ _ => 0) ⟨#[], args, []⟩).memory :=
  laidMet_of_run' 8 (by kernel_rfl) (by kernel_rfl)
end Go.Proofs.YtgphngjniplonaaGreatDoor
