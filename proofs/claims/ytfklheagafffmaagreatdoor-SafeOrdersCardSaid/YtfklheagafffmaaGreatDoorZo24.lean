/- My own texts PaWr, PFrame, RefTerms, as far as this claim needs them. -/
import Derived.Test.YtfklheagafffmaaGreatDoorZo5
import Derived.Test.YtfklheagafffmaaGreatDoorZo11
import Derived.Test.YtfklheagafffmaaGreatDoorZo23
set_option linter.unusedVariables false
set_option linter.unusedSimpArgs false
namespace Go.Proofs.YtfklheagafffmaaGreatDoor
open Go.RowKit
/-- a whole rule read: what it is, or where it fails -/
def zeroRule : GRule := ⟨⟨⟨#[]⟩, []⟩, 0, 0, [], 0⟩
def readP (l : List UInt8) : GRule × Nat × Int := wholeP zeroRule (fun T E s => ruleP T E s) l
def WholeRuleRes (s : ByteArray) (w : World) (e : Ending) (w' : World) : Prop := Below w.heap.size w w' ∧
  ∃ (d : Nat) (a b : Hd), e = .returned (.tuple #[.agg (ruleC (readP s.toList).1 a b).toArray, .int .i64 (readP s.toList).2.1, parErr (readP s.toList).2.2]) ∧ RuleAt d (sans w' (List.range w.heap.size)) w'.heap.size (readP s.toList).1 a b
theorem RuleAt.outs {d : Nat} {S T U : List Nat} {w w' : World} {x : GRule} {a b : Hd} (h : RuleAt d (sans w T) w.heap.size x a b) (ho : Out S w w') (hT : ∀ b ∈ S, b < w.heap.size → b ∈ T) (hU : ∀ b ∈ U, b < w.heap.size → b ∈ T) : RuleAt d (sans w' U) w'.heap.size x a b := h.mono' ho.size (ho.kept hT hU)
theorem RuleAt.ons {d : Nat} {T : List Nat} {w w' : World} {x : GRule} {a b : Hd} (h : RuleAt d (sans w T) w.heap.size x a b) (hb : Below w.heap.size w w') : RuleAt d (sans w' T) w'.heap.size x a b := h.outs (Out.of_below hb T) (fun _ hb _ => hb) (fun _ hb _ => hb)
theorem RuleAt.zero (w : World) (B : Nat) : RuleAt 0 w B zeroRule ⟨none, 0, 0⟩ ⟨none, 0, 0⟩ := ⟨by decide, SliceIs.nil, f_lit0, f_lit0, SliceIs.nil, f_lit0⟩
structure WhR (w : World) (g ob : Nat) (A : Option Addr) (c : Nat) (T : List GTok) (E : Nat) (A1 : Option Addr) (k1 c1 : Nat) (A2 : Option Addr) (k2 c2 : Nat) (y : GRule) (d : Nat) (s : PS) (V : World) : Prop where
  rd : Rd (g + 1) g A c T E s V
  nn : V.heap[w.heap.size + 1]? = some (.cells #[.string ⟨#[]⟩, .slice none 0 0, .int .i64 0, .int .i64 0, .slice none 0 0, .int .i64 0] 27 (0, 0))
  rr : V.heap[w.heap.size]? = some (.cells #[.string ⟨#[]⟩, .slice none 0 0, .int .i64 0, .int .i64 0, .slice none 0 0, .int .i64 0] 27 (0, 0))
  ob : V.heap[ob]? = some (.cells #[.string y.head.rel, .slice A1 k1 c1, .int .i64 y.agg, .int .i64 y.col, .slice A2 k2 c2, .int .i64 y.pos] 27 (0, 0))
  below : Below w.heap.size w V
  da : RuleAt d (sans V (List.range (g + 1))) V.heap.size y ⟨A1, k1, c1⟩ ⟨A2, k2, c2⟩
theorem WhR.go {w : World} {g ob : Nat} {A : Option Addr} {c : Nat} {T : List GTok} {E : Nat} {A1 : Option Addr} {k1 c1 : Nat} {A2 : Option Addr} {k2 c2 : Nat} {y : GRule} {d : Nat} {s s' : PS} {V V' : World} (hg : w.heap.size + 2 ≤ g) (hob : g < ob) (h : WhR w g ob A c T E A1 k1 c1 A2 k2 c2 y d s V) (hr : Rd (g + 1) g A c T E s' V') (ho : Out [g] V V') : WhR w g ob A c T E A1 k1 c1 A2 k2 c2 y d s' V' :=
  ⟨hr, (ho.block _ (Array.getElem?_eq_some_iff.1 h.nn).1 (by simp; omega)).trans h.nn, (ho.block _ (Array.getElem?_eq_some_iff.1 h.rr).1 (by simp; omega)).trans h.rr, (ho.block _ (Array.getElem?_eq_some_iff.1 h.ob).1 (by simp; omega)).trans h.ob,
    h.below.trans (ho.below (fun b hb => by simp at hb; omega) h.below.size), h.da.outs ho (fun b hb _ => by simp at hb; simp; omega) (fun _ h _ => h)⟩
theorem WhR.on {w : World} {g ob : Nat} {A : Option Addr} {c : Nat} {T : List GTok} {E : Nat} {A1 : Option Addr} {k1 c1 : Nat} {A2 : Option Addr} {k2 c2 : Nat} {y : GRule} {d : Nat} {s : PS} {V V' : World} (hg : w.heap.size + 2 ≤ g) (hob : g < ob) (h : WhR w g ob A c T E A1 k1 c1 A2 k2 c2 y d s V) (hb : Below V.heap.size V V') : WhR w g ob A c T E A1 k1 c1 A2 k2 c2 y d s V' :=
  h.go hg hob (h.rd.on hb) (Out.of_below hb _)
theorem WhR.fin {w : World} {g ob : Nat} {A : Option Addr} {c : Nat} {T : List GTok} {E : Nat} {A1 : Option Addr} {k1 c1 : Nat} {A2 : Option Addr} {k2 c2 : Nat} {y : GRule} {d : Nat} {s : PS} {V V' : World} (hg : w.heap.size + 2 ≤ g) (h : WhR w g ob A c T E A1 k1 c1 A2 k2 c2 y d s V) (ho : Out [w.heap.size] V V') : Below w.heap.size w V' ∧ RuleAt d (sans V' (List.range w.heap.size)) V'.heap.size y ⟨A1, k1, c1⟩ ⟨A2, k2, c2⟩ :=
  ⟨h.below.trans (ho.below (fun b hb => by simp at hb; omega) h.below.size), h.da.outs ho (fun b hb _ => by simp at hb; simp; omega) (fun b hb _ => by simp at hb; simp; omega)⟩
set_option maxRecDepth 100000 in
set_option maxHeartbeats 8000000 in
theorem wholeRule_any (s : ByteArray) (hs : s.size ≤ 140737488351232) (w : World) (hW : ParW w) : Calls Tryz.prog 53 #[.string s, .func (.func 54) #[] #[]] w (WholeRuleRes s w) := by
  have HW := Lib.hid hW
  obtain ⟨P, HP⟩ : ∃ P : Ending → World → Prop, Hid (P = WholeRuleRes s w) := ⟨_, rfl⟩
  rw [← HP.out]
  have HLs := Lib.hid (fun (V : World) (hV : ParW V) => list_any s hs V hV.lex)
  have Hlen := Lib.hid (ba_len s)
  have HE : Hid (∀ (V : World) (at_ : Nat) (er : Int), Below w.heap.size w V → readP s.toList = (zeroRule, at_, er) → P (.returned (.tuple #[.agg #[.string ⟨#[]⟩, .slice none 0 0, .int .i64 0, .int .i64 0, .slice none 0 0, .int .i64 0], .int .i64 at_, parErr er])) V) := fun V at_ er hb hp => by
    rw [HP.out]
    refine ⟨hb, 0, ⟨none, 0, 0⟩, ⟨none, 0, 0⟩, by rw [hp]; rfl, ?_⟩
    rw [hp]; exact RuleAt.zero _ _
  clear hW
  go_enter Tryz.func53, Tryz.ntmps53
  go_wp2_with fail
  have hb0 : Below w.heap.size w ((w.alloc (.cells #[.string ⟨#[]⟩, .slice none 0 0, .int .i64 0, .int .i64 0, .slice none 0 0, .int .i64 0] 27)).alloc (.cells #[.string ⟨#[]⟩, .slice none 0 0, .int .i64 0, .int .i64 0, .slice none 0 0, .int .i64 0] 27)) := belowA (belowA (Below.refl _ _) _) _
  have hr0 : ((w.alloc (.cells #[.string ⟨#[]⟩, .slice none 0 0, .int .i64 0, .int .i64 0, .slice none 0 0, .int .i64 0] 27)).alloc (.cells #[.string ⟨#[]⟩, .slice none 0 0, .int .i64 0, .int .i64 0, .slice none 0 0, .int .i64 0] 27)).heap[w.heap.size]? = some (.cells #[.string ⟨#[]⟩, .slice none 0 0, .int .i64 0, .int .i64 0, .slice none 0 0, .int .i64 0] 27 (0, 0)) := ((belowA (Below.refl _ (w.alloc (.cells #[.string ⟨#[]⟩, .slice none 0 0, .int .i64 0, .int .i64 0, .slice none 0 0, .int .i64 0] 27))) _).block _ (by rw [World.size_alloc]; omega)).trans (heapNew rfl)
  have hn0 : ((w.alloc (.cells #[.string ⟨#[]⟩, .slice none 0 0, .int .i64 0, .int .i64 0, .slice none 0 0, .int .i64 0] 27)).alloc (.cells #[.string ⟨#[]⟩, .slice none 0 0, .int .i64 0, .int .i64 0, .slice none 0 0, .int .i64 0] 27)).heap[w.heap.size + 1]? = some (.cells #[.string ⟨#[]⟩, .slice none 0 0, .int .i64 0, .int .i64 0, .slice none 0 0, .int .i64 0] 27 (0, 0)) := heapNew (by rw [World.size_alloc])
  refine (HLs.out _ (HW.out.on hb0)).mono ?_
  rintro e w1 ⟨hb, hcase⟩
  have hz0 : ((w.alloc (.cells #[.string ⟨#[]⟩, .slice none 0 0, .int .i64 0, .int .i64 0, .slice none 0 0, .int .i64 0] 27)).alloc (.cells #[.string ⟨#[]⟩, .slice none 0 0, .int .i64 0, .int .i64 0, .slice none 0 0, .int .i64 0] 27)).heap.size = w.heap.size + 2 := by simp
  have hz1 := hb.size
  rw [hz0] at hz1
  replace hr0 := (hb.block w.heap.size (by omega)).trans hr0
  replace hn0 := (hb.block (w.heap.size + 1) (by omega)).trans hn0
  have hb1 : Below w.heap.size w w1 := Below.trans hb0 (hb.mono (by omega))
  clear hb hb0 hz0 HLs
  obtain ⟨r0, r1, r2, r3, r4, r5⟩ := facts6 hr0
  obtain ⟨n0, n1, n2, n3, n4, n5⟩ := facts6 hn0
  have rf := froz4 hr0
  have Hb1 := Lib.hid hb1
  have Hr0 := Lib.hid hr0
  have Hn0 := Lib.hid hn0
  clear hr0 hn0 hb1
  rcases hcase with ⟨h4, rfl⟩ | ⟨h4, ⟨p, hp, rfl⟩ | ⟨hn, A, c, rfl, ht⟩⟩
  · have hl : 4000 < s.toList.length := by rw [Hlen.out]; exact h4
    have HX : Hid (∀ V, Below w.heap.size w V → P (.returned (.tuple #[.agg #[.string ⟨#[]⟩, .slice none 0 0, .int .i64 0, .int .i64 0, .slice none 0 0, .int .i64 0], .int .i64 4000, .iface 115 (.int .i64 3)])) V) := fun V hb => HE.out V 4000 3 hb (by unfold readP wholeP; rw [if_pos hl])
    clear HE HP hl h4
    go_wp2_with fail
    exact bodyPost_ret (v := .tuple #[.agg #[.string ⟨#[]⟩, .slice none 0 0, .int .i64 0, .int .i64 0, .slice none 0 0, .int .i64 0], .int .i64 4000, .iface 115 (.int .i64 3)]) (by simp [results, Tryz.results53, go_sem, r0, r1, r2, r3, r4, r5]) rfl (HX.out _ (belowS (belowS (belowS (belowS (belowS (belowS Hb1.out _ _ (Nat.le_refl _) _) _ _ (Nat.le_refl _) _) _ _ (Nat.le_refl _) _) _ _ (Nat.le_refl _) _) _ _ (Nat.le_refl _) _) _ _ (Nat.le_refl _) _))
  · have hl : ¬ 4000 < s.toList.length := by rw [Hlen.out]; omega
    have HX : Hid (∀ V, Below w.heap.size w V → P (.returned (.tuple #[.agg #[.string ⟨#[]⟩, .slice none 0 0, .int .i64 0, .int .i64 0, .slice none 0 0, .int .i64 0], .int .i64 p, .iface 115 (.int .i64 2)])) V) := fun V hb => HE.out V p 2 hb (by unfold readP wholeP; rw [if_neg hl, hp])
    clear HE HP hl h4 hp
    go_wp2_with fail
    exact bodyPost_ret (v := .tuple #[.agg #[.string ⟨#[]⟩, .slice none 0 0, .int .i64 0, .int .i64 0, .slice none 0 0, .int .i64 0], .int .i64 p, .iface 115 (.int .i64 2)]) (by simp [results, Tryz.results53, go_sem, r0, r1, r2, r3, r4, r5]) rfl (HX.out _ (belowS (belowS (belowS (belowS (belowS (belowS Hb1.out _ _ (Nat.le_refl _) _) _ _ (Nat.le_refl _) _) _ _ (Nat.le_refl _) _) _ _ (Nat.le_refl _) _) _ _ (Nat.le_refl _) _) _ _ (Nat.le_refl _) _))
  · have hl : ¬ 4000 < s.toList.length := by rw [Hlen.out]; omega
    have hTl := (lex_len (wk := wordK) _ 0 s.toList (Nat.le_refl _)).2
    replace hTl : (lexS s.toList).1.length ≤ s.size := by rw [← Hlen.out]; exact hTl
    have hTk := toks_of (l := s.toList) (by omega)
    rw [Hlen.out] at hTk
    have HRd := Lib.hid (Rd.begin (HW.out.on Hb1.out) ht hTk h4 (Nat.le_trans hTl h4))
    have HPs : Hid (readP s.toList = if (lastP (lexS s.toList).1 s.size (ruleP (lexS s.toList).1 s.size ps0).1).err = 0 then ((ruleP (lexS s.toList).1 s.size ps0).2, 0, 0) else (zeroRule, (lastP (lexS s.toList).1 s.size (ruleP (lexS s.toList).1 s.size ps0).1).pl, (lastP (lexS s.toList).1 s.size (ruleP (lexS s.toList).1 s.size ps0).1).err)) := by
      show _ = _
      unfold readP wholeP
      rw [if_neg hl, hn]
      dsimp only
      rw [Hlen.out]
    generalize (lexS s.toList).1 = T at *
    have HPg := Lib.hid (rrule_any HRd.out rfl)
    generalize ruleP T s.size ps0 = y at *
    have HE2 : Hid (∀ (V : World) (d : Nat) (a b : Hd), (lastP T s.size y.1).err = 0 → Below w.heap.size w V → RuleAt d (sans V (List.range w.heap.size)) V.heap.size y.2 a b → P (.returned (.tuple #[.agg (ruleC y.2 a b).toArray, .int .i64 0, .nilIface])) V) := fun V d a b h0 hb h1 => by
      rw [HP.out]
      refine ⟨hb, d, a, b, ?_, ?_⟩
      · rw [HPs.out, if_pos h0]; rfl
      · rw [HPs.out, if_pos h0]; exact h1
    have HE3 : Hid (∀ (V : World), (lastP T s.size y.1).err ≠ 0 → Below w.heap.size w V → P (.returned (.tuple #[.agg #[.string ⟨#[]⟩, .slice none 0 0, .int .i64 0, .int .i64 0, .slice none 0 0, .int .i64 0], .int .i64 (lastP T s.size y.1).pl, .iface 115 (.int .i64 (lastP T s.size y.1).err)])) V) := fun V h0 hb => by
      have h := HE.out V (lastP T s.size y.1).pl (lastP T s.size y.1).err hb (by rw [HPs.out, if_neg h0])
      unfold parErr at h
      rw [if_neg h0] at h
      exact h
    clear HE HP HPs hl hTl hTk ht hn HW
    go_wp2_with fail
    refine HPg.out.mono ?_
    rintro e w2 ⟨d, ⟨A1, k1, c1⟩, ⟨A2, k2, c2⟩, rfl, hr2, ho2, ha⟩
    dsimp only [Hd.v] at *
    have hz2 := ho2.size
    rw [World.size_alloc] at hz2
    have HR2 := Lib.hid hr2
    have HO2 := Lib.hid ho2
    have Ha := Lib.hid ha
    have HN2 := Lib.hid ((ho2.block (w.heap.size + 1) (by rw [World.size_alloc]; omega) (by simp; omega)).trans (heapOld Hn0.out))
    have HRR2 := Lib.hid ((ho2.block w.heap.size (by rw [World.size_alloc]; omega) (by simp; omega)).trans (heapOld Hr0.out))
    clear hr2 ho2 ha HPg HRd r0 r1 r2 r3 r4 r5 n0 n1 n2 n3 n4 n5 rf
    go_wp2_with fail
    --TAIL
    have hg2 : w.heap.size + 2 ≤ w1.heap.size := hz1
    have hob2 : w1.heap.size < w2.heap.size := by omega
    have ha2 := Ha.out
    rw [World.size_alloc] at ha2
    have hJ : WhR w w1.heap.size w2.heap.size A c T s.size A1 k1 c1 A2 k2 c2 y.2 d y.1 (w2.alloc (.cells #[.string y.2.head.rel, .slice A1 k1 c1, .int .i64 y.2.agg, .int .i64 y.2.col, .slice A2 k2 c2, .int .i64 y.2.pos] 27)) :=
      ⟨HR2.out.on (belowA (Below.refl _ _) _), heapOld HN2.out, heapOld HRR2.out, heapNew rfl, ((Hb1.out.alloc Hb1.out.size _).trans (HO2.out.below (fun b hb => by simp at hb; have := Hb1.out.size; omega) (by rw [World.size_alloc]; have := Hb1.out.size; omega))).alloc (by have := Hb1.out.size; omega) _, ha2.ons (belowA (Below.refl _ _) _)⟩
    have HJ := Lib.hid hJ
    clear hJ ha2 HR2 HO2 Ha HN2 HRR2 Hr0 Hn0 Hb1
    generalize w2.alloc (.cells #[.string y.2.head.rel, .slice A1 k1 c1, .int .i64 y.2.agg, .int .i64 y.2.col, .slice A2 k2 c2, .int .i64 y.2.pos] 27) = w3 at *
    obtain ⟨c0, c1', c2', c3, c4, c5⟩ := HJ.out.rd.cells
    obtain ⟨s2, Hs2⟩ : ∃ s2, Hid (s2 = lastP T s.size y.1) := ⟨_, rfl⟩
    rw [← Hs2.out] at HE2 HE3
    by_cases hlt : y.1.next < T.length
    · have i1 : (y.1.next : Int) < (T.length : Int) := by omega
      have HPl := Lib.hid (fun (V : World) (hR : Rd (w1.heap.size + 1) w1.heap.size A c T s.size y.1 V) => rplace_any hR)
      have HFl := Lib.hid (fun (V : World) (hR : Rd (w1.heap.size + 1) w1.heap.size A c T s.size y.1 V) => rfail_any hR (peekP T s.size y.1 0).a (peek_le hR.within _ _) 2 (by omega))
      have hl2 : failP T y.1 (peekP T s.size y.1 0).a 2 = s2 := by rw [Hs2.out]; unfold lastP; rw [if_pos hlt]
      rw [hl2] at HFl
      clear hl2 Hs2
      go_quiet (fail)
      go_wp2_with fail
      refine (HPl.out _ (HJ.out.rd.on (below_drewN _ _ _))).mono ?_
      rintro e w5 ⟨rfl, hb5⟩
      have HJ5 := Lib.hid ((HJ.out.on hg2 hob2 (below_drewN _ _ _)).on hg2 hob2 hb5)
      clear hb5 HPl HJ c0 c1' c2' c3 c4 c5
      go_wp2_with fail
      refine (HFl.out _ HJ5.out.rd).mono ?_
      rintro e w6 ⟨rfl, hr6, ho6⟩
      have HJz := Lib.hid (HJ5.out.go hg2 hob2 hr6 ho6)
      clear hr6 ho6 HFl HJ5 i1 hlt
      obtain ⟨c0, -, -, -, c4, c5⟩ := HJz.out.rd.cells
      obtain ⟨n0, n1, n2, n3, n4, n5⟩ := facts6 HJz.out.nn
      obtain ⟨r0, r1, r2, r3, r4, r5⟩ := facts6 HJz.out.rr
      obtain ⟨o0, o1, o2, o3, o4, o5⟩ := facts6 HJz.out.ob
      have rf := froz4 HJz.out.rr
      by_cases he : s2.err = 0
      · have e0 : (s2.err == 0) = true := by simp [he]
        go_wp2_with fail
        obtain ⟨f1, f2⟩ := WhR.fin hg2 HJz.out (set6_out _ w.heap.size (.string y.2.head.rel) (.slice A1 k1 c1) (.int .i64 y.2.agg) (.int .i64 y.2.col) (.slice A2 k2 c2) (.int .i64 y.2.pos))
        exact bodyPost_ret (v := .tuple #[.agg #[.string y.2.head.rel, .slice A1 k1 c1, .int .i64 y.2.agg, .int .i64 y.2.col, .slice A2 k2 c2, .int .i64 y.2.pos], .int .i64 0, .nilIface]) (by simp [results, Tryz.results53, go_sem, r0, r1, r2, r3, r4, r5]) rfl (HE2.out _ d ⟨A1, k1, c1⟩ ⟨A2, k2, c2⟩ he f1 f2)
      · have e0 : (s2.err == 0) = false := by simp [he]
        go_wp2_with fail
        go_region_with (fail)
        all_goals
          go_wp2_with fail
          refine bodyPost_ret (v := .tuple #[.agg #[.string ⟨#[]⟩, .slice none 0 0, .int .i64 0, .int .i64 0, .slice none 0 0, .int .i64 0], .int .i64 s2.pl, .iface 115 (.int .i64 s2.err)]) (by simp [results, Tryz.results53, go_sem, Act.put, r0, r1, r2, r3, r4, r5]) rfl (HE3.out _ he (belowS (belowS (belowS (belowS (belowS (belowS HJz.out.below _ _ (Nat.le_refl _) _) _ _ (Nat.le_refl _) _) _ _ (Nat.le_refl _) _) _ _ (Nat.le_refl _) _) _ _ (Nat.le_refl _) _) _ _ (Nat.le_refl _) _).drew)
    · have i1 : ¬ (y.1.next : Int) < (T.length : Int) := by omega
      have hl2 : s2 = y.1 := by rw [Hs2.out]; unfold lastP; rw [if_neg hlt]
      clear Hs2
      go_quiet (fail)
      have HJz := Lib.hid (HJ.out.on hg2 hob2 (below_drewN w3 nq _))
      generalize w3.drewN nq = w4 at *
      rw [← hl2] at HJz
      clear HJ c0 c1' c2' c3 c4 c5 hl2
      obtain ⟨c0, -, -, -, c4, c5⟩ := HJz.out.rd.cells
      obtain ⟨n0, n1, n2, n3, n4, n5⟩ := facts6 HJz.out.nn
      obtain ⟨r0, r1, r2, r3, r4, r5⟩ := facts6 HJz.out.rr
      obtain ⟨o0, o1, o2, o3, o4, o5⟩ := facts6 HJz.out.ob
      have rf := froz4 HJz.out.rr
      by_cases he : s2.err = 0
      · have e0 : (s2.err == 0) = true := by simp [he]
        go_wp2_with fail
        obtain ⟨f1, f2⟩ := WhR.fin hg2 HJz.out (set6_out _ w.heap.size (.string y.2.head.rel) (.slice A1 k1 c1) (.int .i64 y.2.agg) (.int .i64 y.2.col) (.slice A2 k2 c2) (.int .i64 y.2.pos))
        exact bodyPost_ret (v := .tuple #[.agg #[.string y.2.head.rel, .slice A1 k1 c1, .int .i64 y.2.agg, .int .i64 y.2.col, .slice A2 k2 c2, .int .i64 y.2.pos], .int .i64 0, .nilIface]) (by simp [results, Tryz.results53, go_sem, r0, r1, r2, r3, r4, r5]) rfl (HE2.out _ d ⟨A1, k1, c1⟩ ⟨A2, k2, c2⟩ he f1 f2)
      · have e0 : (s2.err == 0) = false := by simp [he]
        go_wp2_with fail
        go_region_with (fail)
        all_goals
          go_wp2_with fail
          refine bodyPost_ret (v := .tuple #[.agg #[.string ⟨#[]⟩, .slice none 0 0, .int .i64 0, .int .i64 0, .slice none 0 0, .int .i64 0], .int .i64 s2.pl, .iface 115 (.int .i64 s2.err)]) (by simp [results, Tryz.results53, go_sem, Act.put, r0, r1, r2, r3, r4, r5]) rfl (HE3.out _ he (belowS (belowS (belowS (belowS (belowS (belowS HJz.out.below _ _ (Nat.le_refl _) _) _ _ (Nat.le_refl _) _) _ _ (Nat.le_refl _) _) _ _ (Nat.le_refl _) _) _ _ (Nat.le_refl _) _) _ _ (Nat.le_refl _) _).drew)
set_option maxRecDepth 100000 in
set_option maxHeartbeats 4000000 in
theorem readRule_any (s : ByteArray) (hs : s.size ≤ 140737488351232) (w : World) (hW : ParW w) : Calls Tryz.prog 25 #[.string s] w (WholeRuleRes s w) := by
  obtain ⟨P, HP⟩ : ∃ P : Ending → World → Prop, Hid (P = WholeRuleRes s w) := ⟨_, rfl⟩
  rw [← HP.out]
  have HC := Lib.hid (fun (V : World) (hV : ParW V) => wholeRule_any s hs V hV)
  have HW := Lib.hid hW
  clear hW
  go_enter Tryz.func25, Tryz.ntmps25
  go_wp2_with fail
  refine (HC.out _ (HW.out.on (belowA (Below.refl _ _) _))).mono ?_
  obtain ⟨y, Hy⟩ : ∃ y, Hid (y = (readP s.toList).1) := ⟨_, rfl⟩
  rintro e w1 ⟨hb, d, ⟨A1, k1, c1⟩, ⟨A2, k2, c2⟩, rfl, ha⟩
  rw [← Hy.out] at ha ⊢
  dsimp only [Hd.v] at *
  have hr := (hb.block w.heap.size (by rw [World.size_alloc]; omega)).trans (heapNew rfl)
  have hb1 : Below w.heap.size w w1 := (belowA (Below.refl _ _) _).trans (hb.mono (by rw [World.size_alloc]; omega))
  obtain ⟨r0, r1, r2, r3, r4, r5⟩ := facts6 hr
  have rf := froz4 hr
  have HE : Hid (P (.returned (.tuple #[.agg #[.string y.head.rel, .slice A1 k1 c1, .int .i64 y.agg, .int .i64 y.col, .slice A2 k2 c2, .int .i64 y.pos], .int .i64 (readP s.toList).2.1, parErr (readP s.toList).2.2])) ((((((w1.setCell ⟨w.heap.size, 0, none⟩ (.string y.head.rel)).setCell ⟨w.heap.size, 1, none⟩ (.slice A1 k1 c1)).setCell ⟨w.heap.size, 2, none⟩ (.int .i64 y.agg)).setCell ⟨w.heap.size, 3, none⟩ (.int .i64 y.col)).setCell ⟨w.heap.size, 4, none⟩ (.slice A2 k2 c2)).setCell ⟨w.heap.size, 5, none⟩ (.int .i64 y.pos))) := by
    show P _ _
    rw [HP.out, Hy.out]
    rw [Hy.out] at ha
    have ho := set6_out w1 w.heap.size (.string (readP s.toList).1.head.rel) (.slice A1 k1 c1) (.int .i64 (readP s.toList).1.agg) (.int .i64 (readP s.toList).1.col) (.slice A2 k2 c2) (.int .i64 (readP s.toList).1.pos)
    rw [World.size_alloc] at ha
    exact ⟨belowS (belowS (belowS (belowS (belowS (belowS hb1 _ _ (Nat.le_refl _) _) _ _ (Nat.le_refl _) _) _ _ (Nat.le_refl _) _) _ _ (Nat.le_refl _) _) _ _ (Nat.le_refl _) _) _ _ (Nat.le_refl _) _, d, ⟨A1, k1, c1⟩, ⟨A2, k2, c2⟩, rfl, ha.outs ho (fun b hb _ => by simp at hb; simp; omega) (fun b hb _ => by simp at hb; simp; omega)⟩
  clear HP HC HW ha hb hb1 hr
  generalize parErr (readP s.toList).2.2 = ev at *
  go_wp2_with fail
  exact bodyPost_ret (v := .tuple #[.agg #[.string y.head.rel, .slice A1 k1 c1, .int .i64 y.agg, .int .i64 y.col, .slice A2 k2 c2, .int .i64 y.pos], .int .i64 (readP s.toList).2.1, ev]) (by simp [results, Tryz.results25, go_sem, r0, r1, r2, r3, r4, r5]) rfl HE.out
end Go.Proofs.YtfklheagafffmaaGreatDoor

namespace Go.Proofs.YtfklheagafffmaaGreatDoor
open Go.ChangeShapes Go.WideShapes Go.ChangeAt Go.RowKit
set_option linter.unusedVariables false
def laidP {H : Type} : List (String × DataW H) := [("math/bits.deBruijn32tab", Rows.laid_math_bits_deBruijn32tab), ("math/bits.deBruijn64tab", Rows.laid_math_bits_deBruijn64tab), ("internal/strconv.uint64pow10", Rows.laid_internal_strconv_uint64pow10), ("strconv.ErrRange", Rows.laid_strconv_ErrRange), ("strconv.ErrSyntax", Rows.laid_strconv_ErrSyntax), ("corollary/lex.keys", Rows.laid_corollary_lex_keys), ("corollary/lex.signs", Rows.laid_corollary_lex_signs), ("corollary/parse.aggs", Rows.laid_corollary_parse_aggs), ("corollary/parse.signs", Rows.laid_corollary_parse_signs)]
/-- the first seven of a laid list -/
theorem lexW_of_seven {W : World} {rest : List (String × DataW Unit)} (h : laidMet Tryz.prog (("math/bits.deBruijn32tab", Rows.laid_math_bits_deBruijn32tab) :: ("math/bits.deBruijn64tab", Rows.laid_math_bits_deBruijn64tab) :: ("internal/strconv.uint64pow10", Rows.laid_internal_strconv_uint64pow10) :: ("strconv.ErrRange", Rows.laid_strconv_ErrRange) :: ("strconv.ErrSyntax", Rows.laid_strconv_ErrSyntax) :: ("corollary/lex.keys", Rows.laid_corollary_lex_keys) :: ("corollary/lex.signs", Rows.laid_corollary_lex_signs) :: rest) W) : LexW W := by
  have h3 := laidMet.tail (laidMet.tail (laidMet.tail h))
  have h5 := laidMet.tail (laidMet.tail h3)
  have h6 := laidMet.tail h5
  refine ⟨TabW.of (Lib.tabIs_of_head gP gPT Tryz.underlying255 Tryz.underlying232 (by kernel_rfl) (by kernel_rfl) (rest := ("strconv.ErrRange", Rows.laid_strconv_ErrRange) :: ("strconv.ErrSyntax", Rows.laid_strconv_ErrSyntax) :: ("corollary/lex.keys", Rows.laid_corollary_lex_keys) :: ("corollary/lex.signs", Rows.laid_corollary_lex_signs) :: rest) (by rw [← pow_eq]; exact laidMet.tail (laidMet.tail h))), ?_, ?_, ?_⟩
  · obtain ⟨a0, s0, hv0, -, -, -⟩ := laid_sentinel h3 gER gERT Tryz.underlying77 rowES Tryz.underlying243 Tryz.underlying245 rfl rfl Tryz.underlying9 cellsES cellsStr
    obtain ⟨a1, s1, hv1, -, -, -⟩ := laid_sentinel (laidMet.tail h3) gES gEST Tryz.underlying77 rowES Tryz.underlying243 Tryz.underlying245 rfl rfl Tryz.underlying9 cellsES cellsStr
    exact ⟨⟨_, _, by have h0 := World.var?_cell gES hv1 0; simpa using h0⟩, ⟨_, _, by have h0 := World.var?_cell gER hv0 0; simpa using h0⟩⟩
  · rw [keys_eq] at h5
    exact strs_of_head gK gKT Tryz.underlying219 Tryz.underlying9 (by kernel_rfl) (by kernel_rfl) h5
  · rw [signs_eq] at h6
    exact strs_of_head gS gST Tryz.underlying215 Tryz.underlying9 (by kernel_rfl) (by kernel_rfl) h6
theorem paggs_eq {H : Type} : (Rows.laid_corollary_parse_aggs : DataW H) = strsData paggsL := rfl
theorem psigns_eq {H : Type} : (Rows.laid_corollary_parse_signs : DataW H) = strsData psignsL := rfl
theorem gPA : Tryz.prog.globalNamed "corollary/parse.aggs" = some 0 := by kernel_rfl
theorem gPAT : (Tryz.prog.globals[0]?).map (·.type) = some 181 := by kernel_rfl
theorem gPS : Tryz.prog.globalNamed "corollary/parse.signs" = some 1 := by kernel_rfl
theorem gPST : (Tryz.prog.globals[1]?).map (·.type) = some 202 := by kernel_rfl
theorem lexW_of_laidP {W : World} (h : laidMet Tryz.prog laidP W) : LexW W := lexW_of_seven h
theorem parW_of_laidP {W : World} (h : laidMet Tryz.prog laidP W) : ParW W := by
  have hL := lexW_of_laidP h
  have h7 := laidMet.tail (laidMet.tail (laidMet.tail (laidMet.tail (laidMet.tail (laidMet.tail (laidMet.tail h))))))
  have h8 := laidMet.tail h7
  rw [paggs_eq] at h7
  rw [psigns_eq] at h8
  exact ⟨hL, strs_of_head gPA gPAT Tryz.underlying181 Tryz.underlying9 (by kernel_rfl) (by kernel_rfl) h7, strs_of_head gPS gPST Tryz.underlying202 Tryz.underlying9 (by kernel_rfl) (by kernel_rfl) h8⟩
noncomputable def laidWorldP (os : Os) : World :=
  let w0 := World.holding Tryz.prog os ⟨#[.cells #[.string synS] 245, .cells #[.string rngS] 245], #[], []⟩
  let put (h : Array Obj) (g : Nat) (cs : Array Value) : Array Obj := h.modify g fun
    | .cells _ t frozen => .cells cs t frozen
    | o => o
  let tab (d : DataW Unit) : Array Value := match d with
    | .agg l => (l.map fun | .lit (.int k n) => Value.int k n | .lit (.string s) => Value.string ⟨s.toArray⟩ | _ => undef).toArray
    | _ => #[]
  let h1 := put w0.heap 8 (tab Rows.laid_math_bits_deBruijn32tab)
  let h2 := put h1 9 (tab Rows.laid_math_bits_deBruijn64tab)
  let h3 := put h2 7 (tab Rows.laid_internal_strconv_uint64pow10)
  let h4 := put h3 4 #[.iface 243 (.pointer (some ⟨low, 0, none⟩))]
  let h5 := put h4 5 #[.iface 243 (.pointer (some ⟨low + 1, 0, none⟩))]
  let h6 := put h5 3 (tab Rows.laid_corollary_lex_keys)
  let h7 := put h6 2 (tab Rows.laid_corollary_lex_signs)
  let h8 := put h7 0 (tab Rows.laid_corollary_parse_aggs)
  let h9 := put h8 1 (tab Rows.laid_corollary_parse_signs)
  { w0 with heap := h9 }
set_option maxRecDepth 100000 in
theorem laidWorldP_met (os : Os) (args : Array Value) : laidMet Tryz.prog laidP ((laidWorldP os).forCall (fun _ _ => 0) ⟨#[], args, []⟩).memory :=
  laidMet_of_run' 8 (by kernel_rfl) (by kernel_rfl)
end Go.Proofs.YtfklheagafffmaaGreatDoor

namespace Go.Proofs.YtfklheagafffmaaGreatDoor
open Go.RowKit
def RefTermsPost (L : List GTold) (base : Nat) (w : World) (r : Ending) (w' : World) : Prop :=
  ∃ A c, r = .returned (.slice A L.length c) ∧ w'.ownsRow base 49 4 (.slice A L.length c) L.length (L.flatMap GTold.cells) ∧ Below base w w' ∧ w.heap.size ≤ w'.heap.size ∧ KeepsT 49 w w'
set_option maxRecDepth 100000 in
set_option maxHeartbeats 4000000 in
theorem refTerms_any (base : Nat) : ∀ (d : Nat) (e : GExp) (A : Option Addr) (n c : Nat) (Al : Option Addr) (m cl : Nat) (L0 : List GTold) (w : World), SliceIs (Enc.exp d) w base A n c e.kids → base ≤ w.heap.size → L0.length = m → w.ownsRow base 49 4 (.slice Al m cl) m (L0.flatMap GTold.cells) →
    m + (leavesE e).length ≤ 100000 → Calls Tryz.prog 64 #[expV e A n c, .slice Al m cl] w (RefTermsPost (L0 ++ leavesE e) base w) := by
  intro d
  induction d using Nat.strongRecOn with
  | ind d ih =>
    intro e A n c Al m cl L0 w hk hbase hm hown hsz
    have IH := Lib.hid ih
    have hn := hk.bound
    have HK := Lib.hid hk
    have Hlen := Lib.hid hk.1
    have Hown := Lib.hid hown
    have Hm := Lib.hid hm
    obtain ⟨P, HP⟩ : ∃ P : Ending → World → Prop, Hid (P = RefTermsPost (L0 ++ leavesE e) base w) := ⟨_, rfl⟩
    rw [← HP.out]
    have hrb : (w.alloc (.cells #[.int .i64 e.op, .string e.t.x, .int .i64 e.t.v.k, .int .i64 e.t.v.n, .string e.t.v.s, .slice A n c] 52)).heap[w.heap.size]? = some (.cells #[.int .i64 e.op, .string e.t.x, .int .i64 e.t.v.k, .int .i64 e.t.v.n, .string e.t.v.s, .slice A n c] 52 (0, 0)) := heapNew rfl
    obtain ⟨b0, b1, b2, b3, b4, b5⟩ := facts6 hrb
    have hba : Below w.heap.size w (w.alloc (.cells #[.int .i64 e.op, .string e.t.x, .int .i64 e.t.v.k, .int .i64 e.t.v.n, .string e.t.v.s, .slice A n c] 52)) := belowA (Below.refl _ _) _
    have hza : (w.alloc (.cells #[.int .i64 e.op, .string e.t.x, .int .i64 e.t.v.k, .int .i64 e.t.v.n, .string e.t.v.s, .slice A n c] 52)).heap.size = w.heap.size + 1 := by simp
    have HownA := Lib.hid (own_below hown hba)
    have HbA : Hid (Below base w (w.alloc (.cells #[.int .i64 e.op, .string e.t.x, .int .i64 e.t.v.k, .int .i64 e.t.v.n, .string e.t.v.s, .slice A n c] 52))) := hba.mono hbase
    have HzA := Lib.hid hza
    have HkA : Hid (KeepsT 49 w (w.alloc (.cells #[.int .i64 e.op, .string e.t.x, .int .i64 e.t.v.k, .int .i64 e.t.v.n, .string e.t.v.s, .slice A n c] 52))) := KeepsT.of_below hba
    by_cases h0 : n = 0
    · subst h0
      have hL0 : leavesE e = [e.t] := leavesE_nil (List.eq_nil_of_length_eq_zero (by rw [Hlen.out]))
      rw [hL0] at hsz
      simp only [List.length_cons, List.length_nil] at hsz
      obtain ⟨A2, c2, w3, hrun, hown2, hb3, hk3⟩ := term5_push HownA.out e.t (by omega) (by omega)
      simp only [World.size_alloc] at hrun
      have HRun := Lib.hid hrun
      have hpost : P (.returned (.slice A2 (m + 1) c2)) w3 := by
        rw [HP.out, hL0]
        have hll : (L0 ++ [e.t]).length = m + 1 := by simp [hm]
        have h1 := hb3.size
        exact ⟨A2, c2, by rw [hll], by rw [hll]; exact hown2, HbA.out.trans hb3, by omega, (KeepsT.of_below hba).trans hk3⟩
      have HPo := Lib.hid hpost
      clear hrun hown2 hb3 hk3 hpost hk hown HownA ih hba hza hL0 HP hm
      go_enter Tryz.func64, Tryz.ntmps64
      go_wp2_with (at_builtin; refine wpList_append_run rfl _ _ _ rfl _ _ rfl rfl (HRun.out _) ?_)
      exact HPo.out
    · have hL1 : leavesE e = leavesL e.kids := leavesE_kids (by intro h; have := Hlen.out; rw [h] at this; simp at this; omega)
      have hq0 : ((n : Int) == 0) = false := by rw [beq_eq_false_iff_ne]; omega
      have HP2 : Hid (P = RefTermsPost (L0 ++ leavesL e.kids) base w) := by show _ = _; rw [HP.out, hL1]
      rw [hL1] at hsz
      have Hsz := Lib.hid hsz
      clear hk hown ih hba hza hL1 HP hm hsz hrb
      go_enter Tryz.func64, Tryz.ntmps64
      go_wp2_with fail
      have hgb : (w.alloc (.cells #[.int .i64 e.op, .string e.t.x, .int .i64 e.t.v.k, .int .i64 e.t.v.n, .string e.t.v.s, .slice A n c] 52)).heap[w.heap.size]? = some (.cells #[.int .i64 e.op, .string e.t.x, .int .i64 e.t.v.k, .int .i64 e.t.v.n, .string e.t.v.s, .slice A n c] 52 (0, 0)) := heapNew rfl
      go_loopw [1, 5] (fun v i wr => ∃ (k m' c' : Nat) (A' : Option Addr) (L : List GTold), k ≤ n ∧ i = .int .i64 k ∧ v = .slice A' m' c' ∧ Hid (L0 ++ leavesL (e.kids.take k) = L) ∧ Hid (L.length = m') ∧ Hid (wr.ownsRow base 49 4 (.slice A' m' c') m' (L.flatMap GTold.cells)) ∧ Hid (Below base w wr) ∧ w.heap.size + 1 ≤ wr.heap.size ∧
        Hid (KeepsT 49 w wr) ∧ Hid (wr.heap[w.heap.size]? = some (.cells (expC e A n c).toArray 52 (0, 0)))) (fun _ i _ => n - (intOf i).toNat)
      case atStart => exact ⟨0, m, cl, Al, L0, by omega, rfl, rfl, by show _ = _; simp [leavesL], Hm.out, HownA, HbA, by rw [HzA.out]; exact Nat.le_refl _, HkA, hgb⟩
      case round =>
        obtain ⟨k, m', c', A', L, hk, rfl, rfl, hL, HLm, HO, HB, hzr, HK2, Hbox⟩ := hrel
        have i0 : (0 : Int) ≤ (k : Int) := by omega
        have y5 : wr.cell? ⟨w.heap.size, 5, none⟩ = some (.slice A n c) := (cell_of_row _ _ 5 _ _ _ Hbox.out).trans rfl
        by_cases hlt : k < n
        · have i1 : (k : Int) < (n : Int) := by omega
          obtain ⟨b, o, q, A2, n2, c2, d', rfl, hb, hk', hd, x0, x1, x2, x3, x4, x5, -, f1, f2, hkk⟩ := (HK.out.mono' (w' := wr) (Nat.le_refl _) (Kept.of HB.out.block)).exp_at hlt
          have HT := Lib.hid (leavesL_take hk'.out)
          have hlen : m' + (leavesE q).length ≤ 100000 := by
            have h1 := Hsz.out
            have h2 := HLm.out
            have h3 := Hm.out
            rw [← hL.out, List.length_append] at h2
            have h4 := congrArg List.length (leavesL_full e.kids (k + 1))
            rw [HT.out] at h4
            simp only [List.length_append] at h4
            omega
          have HC := Lib.hid (IH.out d' (by omega) q A2 n2 c2 A' m' c' L wr hkk (by omega) HLm.out HO.out hlen)
          clear hk' hd hkk hlen
          go_wp2_with fail
          refine HC.out.mono ?_
          rintro r w2 ⟨A3, c3, rfl, ho3, hb3, hz3, hk3⟩
          have HL2 : Hid (L0 ++ leavesL (e.kids.take (k + 1)) = L ++ leavesE q) := by show _ = _; rw [HT.out, ← List.append_assoc, hL.out]
          have HB2 : Hid (Below base w w2) := HB.out.trans hb3
          obtain ⟨m3, Hm3⟩ : ∃ m3, Hid ((L ++ leavesE q).length = m3) := ⟨_, rfl⟩
          rw [Hm3.out] at ho3
          rw [Hm3.out]
          have HO3 := Lib.hid ho3
          have Hbox2 : Hid (w2.heap[w.heap.size]? = some (.cells (expC e (some ⟨b, o, none⟩) n c).toArray 52 (0, 0))) := hk3 _ _ _ _ Hbox.out (by decide)
          have HK3 : Hid (KeepsT 49 w w2) := HK2.out.trans hk3
          clear ho3 hb3 hk3 HC HT
          go_wp2_with fail
          go_roundw
          case rel => exact ⟨k + 1, m3, c3, A3, _, by omega, by go_num, rfl, HL2, Hm3, HO3, HB2, by omega, HK3, Hbox2⟩
          case measure => simp [intOf]; omega
        · have i1 : ¬ (k : Int) < (n : Int) := by omega
          have hPP : Hid (P (.returned (.slice A' m' c')) wr) := by
            show P _ _
            have e1 : L0 ++ leavesL e.kids = L := by rw [← hL.out, List.take_of_length_le (by have := Hlen.out; omega)]
            rw [HP2.out, e1]
            exact ⟨A', c', by rw [HLm.out], by rw [HLm.out]; exact HO.out, HB.out, by omega, HK2.out⟩
          clear HP2
          go_wp2_with fail
          exact hPP.out
end Go.Proofs.YtfklheagafffmaaGreatDoor
