/- lex.All: the iterator. -/
import Derived.Test.YtplekbpmfaghbaaGreatDoorLexN
import Derived.Test.YtplekbpmfaghbaaGreatDoorRange2
import Derived.OwnWalkIn
import Derived.TacticsInMore
import Derived.RegionIn
import Derived.LoopNIn
import Derived.LoopIn
import Derived.Shelf.Abstract
namespace Go.Proofs.YtplekbpmfaghbaaGreatDoor
open Go.RowKit Go.Shelf
attribute [local go_sem] Oper.semAt_some

/-- what the iterator hands on: a token, or (bad) the place without one -/
structure LX where
  q : GTok
  bad : Bool
def tokC (q : GTok) : Value := .agg #[.int .i64 q.k, .string (bytes q.t), .int .i64 q.a]
def encL (x : LX) : Array Value := #[tokC x.q, if x.bad then .iface 90 (.int .i64 2) else .nilIface]
def seqOf (r : List GTok × Option Nat) : List LX := r.1.map (fun q => ⟨q, false⟩) ++ (match r.2 with | some p => [⟨⟨0, [], p⟩, true⟩] | none => [])
def lexS (l : List UInt8) : List GTok × Option Nat := lexA wordK 0 l
def RL (L : List LX) (pre : List LX) (x : LX) (_base : Nat) (_W : World) : Prop := (pre ++ [x]) <+: L

theorem tok_range (l : List UInt8) : 0 ≤ (tokL wordK l).1 ∧ (tokL wordK l).1 ≤ 5 := by
  have hw : ∀ t, 0 ≤ wordK t ∧ wordK t ≤ 5 := by
    intro t; unfold wordK
    split
    · omega
    · split
      · omega
      · split
        · omega
        · split <;> omega
  unfold tokL
  split
  · exact hw _
  · split <;> simp
theorem tokL_le (l : List UInt8) : (tokL wordK l).2 ≤ l.length := by
  by_cases h : (tokL wordK l).1 = 0
  · revert h
    unfold tokL
    split
    · intro _; exact runL_le l
    · split
      · intro h; simp at h
      · intro _; exact Nat.zero_le _
  · exact (tokL_len l h).2

/-- the blocks of the tables -/
def lexG : List Nat := [8, 9, 10, 7, 5]
theorem gPow : Tryz.prog.globalNamed "internal/strconv.uint64pow10" = some 8 := by kernel_rfl
theorem tab_lt {W : World} (h : TabW W) : 8 < W.heap.size := by
  have h0 := h W (Below.refl _ _)
  have h1 := World.var?_cell gPow h0 0
  exact World.block_lt_of_cell? W ⟨8, 0, none⟩ (h1.trans rfl)
theorem LexW.lt {W : World} (h : LexW W) : ∀ b ∈ lexG, b < W.heap.size := by
  obtain ⟨⟨t1, p1, h1⟩, ⟨t2, p2, h2⟩⟩ := h.err
  obtain ⟨t3, fr3, h3⟩ := h.keys
  obtain ⟨t4, fr4, h4⟩ := h.signs
  intro b hb
  simp only [lexG, List.mem_cons, List.not_mem_nil, or_false] at hb
  rcases hb with rfl | rfl | rfl | rfl | rfl
  · exact tab_lt h.tab
  · exact World.block_lt_of_cell? W ⟨9, 0, none⟩ h1
  · exact World.block_lt_of_cell? W ⟨10, 0, none⟩ h2
  · exact (Array.getElem?_eq_some_iff.1 h3).1
  · exact (Array.getElem?_eq_some_iff.1 h4).1
theorem LexW.keep {W W' : World} (h : LexW W) (hk : ∀ b ∈ lexG, W'.heap[b]? = W.heap[b]?) : LexW W' := by
  obtain ⟨⟨t1, p1, h1⟩, ⟨t2, p2, h2⟩⟩ := h.err
  obtain ⟨t3, fr3, h3⟩ := h.keys
  obtain ⟨t4, fr4, h4⟩ := h.signs
  refine ⟨TabW.of ?_, ⟨⟨t1, p1, ?_⟩, ⟨t2, p2, ?_⟩⟩, ⟨t3, fr3, (hk _ (by simp [lexG])).trans h3⟩, ⟨t4, fr4, (hk _ (by simp [lexG])).trans h4⟩⟩
  · have h0 := h.tab W (Below.refl _ _)
    unfold Lib.TabIs World.var? at h0 ⊢
    rw [gPow] at h0 ⊢
    simp only [Option.bind_some] at h0 ⊢
    rw [hk _ (by simp [lexG])]; exact h0
  · unfold World.cell? at h1 ⊢; rw [hk _ (by simp [lexG])]; exact h1
  · unfold World.cell? at h2 ⊢; rw [hk _ (by simp [lexG])]; exact h2
theorem set_third {W : World} {g e : Nat} {a b c z : Value} (h : W.heap[g]? = some (.cells #[a, b, c] e (0, 0))) : (W.setCell ⟨g, 2, none⟩ z).heap[g]? = some (.cells #[a, b, z] e (0, 0)) := by
  simp [World.setCell, Array.getElem?_modify, h]
theorem encL_bad (a : Nat) : encL ⟨⟨0, [], a⟩, true⟩ = #[.agg #[.int .i64 0, .string ⟨#[]⟩, .int .i64 a], .iface 90 (.int .i64 2)] := rfl
theorem encL_tok (q : GTok) : encL ⟨q, false⟩ = #[.agg #[.int .i64 q.k, .string (bytes q.t), .int .i64 q.a], .nilIface] := rfl
theorem seqOf_bad {a : Nat} {l : List UInt8} (hl : l ≠ []) (hs : skipG false l = 0) (h0 : (tokL wordK l).1 = 0) : seqOf (lexA wordK a l) = [⟨⟨0, [], a⟩, true⟩] := by
  rw [lexA_at hl hs, if_pos h0]; rfl
theorem seqOf_tok {a : Nat} {l : List UInt8} (hl : l ≠ []) (hs : skipG false l = 0) (h0 : (tokL wordK l).1 ≠ 0) : seqOf (lexA wordK a l) = ⟨⟨(tokL wordK l).1, l.take (tokL wordK l).2, a⟩, false⟩ :: seqOf (lexA wordK (a + (tokL wordK l).2) (l.drop (tokL wordK l).2)) := by
  rw [lexA_at hl hs, if_neg h0]; rfl

set_option maxRecDepth 100000 in
set_option maxHeartbeats 4000000 in
theorem lexAll_seq {w : World} (hW : LexW w) (s : ByteArray) (hs : s.size ≤ 140737488351232) {g : Nat} (hg : w.cell? ⟨g, 0, none⟩ = some (.string s)) (S : List Nat) (hgS : g ∉ S) (hGS : ∀ b ∈ lexG, b ∉ S) :
    SeqR2 Tryz.prog 185 #[.pointer (some ⟨g, 0, none⟩)] encL (RL (seqOf (lexS s.toList))) S (fun xs => Hid (xs = seqOf (lexS s.toList))) (fun pre => Hid (pre <+: seqOf (lexS s.toList))) w := by
  intro l J Jx W hbW hl hlW hJ h0 hY
  have hbW0 := hbW
  have Hlen := Lib.hid (ba_len s)
  have HW := Lib.hid (hW.on hbW)
  have HG := Lib.hid hW.lt
  have cg := below_cell hbW hg
  have gl : g < w.heap.size := World.block_lt_of_cell? w _ hg
  have HJ := Lib.hid hJ
  have H0 := Lib.hid h0
  have HY := Lib.hid hY
  have hsW := hbW.size
  have hglW : g < W.heap.size := by omega
  have hneq : g ≠ l := by omega
  have HSk := Lib.hid (fun (a : Nat) (ha : a ≤ s.size) (W : World) => skip_any s hs a ha W)
  have hSk0 := Lib.hid (HSk.out 0 (by omega) W)
  obtain ⟨L, HL⟩ : ∃ L, Hid (L = seqOf (lexS s.toList)) := ⟨_, rfl⟩
  rw [← HL.out] at HY ⊢
  clear hW hg hJ h0 hY hbW
  refine (callsIn_wide (n := 0)).1 ?_
  refine callsIn_of_wp Tryz.func185 rfl trivial ?_ rfl
  simp only [Tryz.ntmps185, List.size_toArray, List.length_cons, List.length_nil, Nat.reduceAdd, Nat.reduceSub, Array.replicate_succ, Array.replicate_zero, List.push_toArray, List.append_toArray, List.nil_append, List.cons_append]
  gi_wp2_with fail
  refine ⟨trivial, rfl, (callsIn_wide.2 hSk0.out).mono ?_⟩
  rintro e w1 ⟨rfl, hb1⟩
  have hz1 := hb1.size
  have HJ0 : Hid (J W.heap.size [] w1) := H0.out _ w1 hb1 (Nat.le_refl _) hz1
  have HB1 : Hid (∀ b, b < W.heap.size → b ≠ l → b ∉ S → w1.heap[b]? = W.heap[b]?) := fun b hb _ _ => hb1.block b hb
  have Hg : Hid (∀ W' : World, W'.heap[g]? = W.heap[g]? → W'.cell? ⟨g, 0, none⟩ = some (.string s)) := fun W' h => by
    unfold World.cell? at cg ⊢; rw [h]; exact cg
  have HLt := Lib.hid (fun b (hb : b ∈ lexG) => show b < W.heap.size ∧ b ≠ l ∧ b ∉ S from by
    have h1 := HG.out b hb
    exact ⟨by omega, by omega, hGS b hb⟩)
  obtain ⟨a0, Ha0⟩ : ∃ a0 : Nat, Hid (a0 = 0 + skipG false (s.toList.drop 0)) := ⟨_, rfl⟩
  have ha0 : a0 ≤ s.size := by
    have h1 := skipG_le s.toList false
    rw [ba_len] at h1
    rw [Ha0.out]; simpa using h1
  have HL0 : Hid (L = [] ++ seqOf (lexA wordK a0 (s.toList.drop a0))) := by
    show _ = _
    rw [HL.out, Ha0.out, List.nil_append]
    unfold lexS
    rw [lexA_skip]; simp
  have HS0 : Hid (skipG false (s.toList.drop a0) = 0) := by
    show _ = _
    rw [Ha0.out]; simpa using skip_idem s.toList false
  rw [← Ha0.out]
  clear hSk0 H0 cg hb1 HG Ha0
  gi_wp2_with fail
  gi_loopw [3, 4] (fun i _ wr => ∃ (a : Nat) (pre : List LX), a ≤ s.size ∧ i = .int .i64 a ∧ Hid (L = pre ++ seqOf (lexA wordK a (s.toList.drop a))) ∧ Hid (skipG false (s.toList.drop a) = 0) ∧ Hid (J W.heap.size pre wr) ∧ Hid (∀ b, b < W.heap.size → b ≠ l → b ∉ S → wr.heap[b]? = W.heap[b]?) ∧ W.heap.size ≤ wr.heap.size) (fun i _ _ => s.size - (intOf i).toNat)
  case atStart => exact ⟨a0, [], ha0, rfl, HL0, HS0, HJ0, HB1, hz1⟩
  case round =>
    obtain ⟨a, pre, ha, rfl, HLa, HSa, HJa, HBa, hNa⟩ := hrel
    have i0 : (0 : Int) ≤ (a : Int) := by omega
    have cg := Hg.out wr (HBa.out g hglW hneq hgS)
    by_cases hlt : a < s.size
    · have i1 : (a : Int) < (s.size : Int) := by omega
      have i2 : (a : Int) ≤ (s.size : Int) := by omega
      have hne : s.toList.drop a ≠ [] := by
        intro h
        have := congrArg List.length h
        simp only [List.length_drop, List.length_nil, ba_len] at this; omega
      have HWr : LexW wr := HW.out.keep (fun b hb => HBa.out b (HLt.out b hb).1 (HLt.out b hb).2.1 (HLt.out b hb).2.2)
      have hn := next_any (s.extract a s.size) (by simp; omega) (by simp; omega) wr HWr
      rw [ba_drop] at hn
      unfold tokV at hn
      have hnle := tokL_le (s.toList.drop a)
      have hk1 := fun h => (tokL_len (wk := wordK) (s.toList.drop a) h).1
      have hsb := fun h => seqOf_bad (a := a) hne HSa.out h
      have hst := fun h => seqOf_tok (a := a) hne HSa.out h
      obtain ⟨kk, hkk⟩ : ∃ kk, kk = (tokL wordK (s.toList.drop a)).1 := ⟨_, rfl⟩
      obtain ⟨nn, hnn⟩ : ∃ nn, nn = (tokL wordK (s.toList.drop a)).2 := ⟨_, rfl⟩
      rw [← hkk, ← hnn] at hn
      rw [← hnn, List.length_drop, ba_len] at hnle
      rw [← hkk, ← hnn] at hk1 hst
      rw [← hkk] at hsb
      obtain ⟨tx, Htx⟩ : ∃ tx, Hid (tx = bytes ((s.toList.drop a).take nn)) := ⟨_, rfl⟩
      rw [← Htx.out] at hn
      have hts : tx.size = nn := by
        rw [Htx.out, ← ba_len]; unfold bytes; rw [toList_mk, List.length_take, List.length_drop, ba_len]; omega
      have HN := Lib.hid hn
      have HSB := Lib.hid hsb
      have HST := Lib.hid hst
      have HK1 := Lib.hid hk1
      clear hn hsb hst hk1 hkk hnn hne HWr
      gi_wp2_with fail
      refine ⟨trivial, rfl, (callsIn_wide.2 HN.out).mono ?_⟩
      rintro e w2 ⟨rfl, hb2⟩
      have hz2 := hb2.size
      have hrc : (w2.alloc (.cells #[.int .i64 kk, .string tx, .int .i64 a] 242)).heap[w2.heap.size]? = some (.cells #[.int .i64 kk, .string tx, .int .i64 a] 242 (0, 0)) := heapNew rfl
      obtain ⟨z0, z1, z2, f0, f1, f2⟩ := three_facts hrc
      have hbc : Below wr.heap.size wr (w2.alloc (.cells #[.int .i64 kk, .string tx, .int .i64 a] 242)) := belowA hb2 _
      have hzc : w2.heap.size < (w2.alloc (.cells #[.int .i64 kk, .string tx, .int .i64 a] 242)).heap.size := by simp
      by_cases h0 : kk = 0
      · have q0 : ((kk : Int) == 0) = true := by simp [h0]
        have HX : Hid (L = pre ++ [⟨⟨0, [], a⟩, true⟩]) := by show _ = _; rw [HLa.out, HSB.out h0]
        have HYs := Lib.hid (fun m => HY.out m W.heap.size pre ⟨⟨0, [], a⟩, true⟩ wr _ HJa.out hbc (by rw [HX.out]; exact List.prefix_rfl))
        clear HSB HST HK1 h0
        obtain ⟨fn, tmps, assign, body, hy, hR⟩ := HYs.out 0
        have HRR := Lib.hid hR
        rw [encL_bad] at hy
        clear hR HYs
        gi_wp2_with fail
        refine ⟨rfl, HRR.out.mono ?_⟩
        rintro e w4 (⟨rfl, hj, hz4, hbl, hfr⟩ | ⟨rfl, hj⟩)
        · have HJ4 := Lib.hid hj
          have HE : Hid (pre ++ [⟨⟨0, [], a⟩, true⟩] = L) := HX.out.symm
          clear hj hbl hfr hy HX HLa
          gi_wp2_with fail
          refine bodyPost_ret (results_none rfl _ _ _) rfl ?_
          exact ⟨⟨_, rfl⟩, .inl ⟨W.heap.size, _, HE, HJ4.out⟩⟩
        · have HJ4 := Lib.hid hj
          have HE : Hid (pre ++ [⟨⟨0, [], a⟩, true⟩] <+: L) := by show _ <+: _; rw [HX.out]; exact List.prefix_rfl
          clear hj hy HX HLa
          gi_wp2_with fail
          refine bodyPost_ret (results_none rfl _ _ _) rfl ?_
          exact ⟨⟨_, rfl⟩, .inr ⟨W.heap.size, _, HE, HJ4.out⟩⟩
      · have q0 : ((kk : Int) == 0) = false := by simpa using h0
        have HX : Hid (L = (pre ++ [⟨⟨kk, (s.toList.drop a).take nn, a⟩, false⟩]) ++ seqOf (lexA wordK (a + nn) ((s.toList.drop a).drop nn))) := by
          show _ = _; rw [HLa.out, HST.out h0]; simp
        have hn1 := HK1.out h0
        have HYs := Lib.hid (fun m => HY.out m W.heap.size pre ⟨⟨kk, (s.toList.drop a).take nn, a⟩, false⟩ wr _ HJa.out hbc (by show _ <+: _; rw [HX.out]; exact List.prefix_append _ _))
        have hwz : ((a : Int) + (tx.size : Int)) = ((a + nn : Nat) : Int) := by omega
        have HSk1 := Lib.hid (HSk.out (a + nn) (by omega))
        obtain ⟨a2, Ha2⟩ : ∃ a2 : Nat, Hid (a2 = a + nn + skipG false (s.toList.drop (a + nn))) := ⟨_, rfl⟩
        rw [← Ha2.out] at HSk1
        clear HSB HST HK1 h0
        obtain ⟨fn, tmps, assign, body, hy, hR⟩ := HYs.out 0
        have HRR := Lib.hid hR
        rw [encL_tok] at hy
        simp only [← Htx.out] at hy
        clear hR HYs
        gi_wp2_with fail
        refine ⟨rfl, HRR.out.mono ?_⟩
        rintro e w4 (⟨rfl, hj, hz4, hbl, hfr⟩ | ⟨rfl, hj⟩)
        · have HJ4 := Lib.hid hj
          have HB4 : Hid (∀ b, b < W.heap.size → b ≠ l → b ∉ S → w4.heap[b]? = W.heap[b]?) := fun b hb hbl' hbS => (hbl b hb hbS hbl').trans ((hbc.block b (by omega)).trans (HBa.out b hb hbl' hbS))
          have hr4 := (hfr w2.heap.size hz2 hzc).trans hrc
          obtain ⟨x0, x1, x2, -, -, -⟩ := three_facts hr4
          have cg5 := Hg.out w4 (HB4.out g hglW hneq hgS)
          have hN4 : W.heap.size ≤ w4.heap.size := by omega
          have HL4 : Hid (L = (pre ++ [⟨⟨kk, (s.toList.drop a).take nn, a⟩, false⟩]) ++ seqOf (lexA wordK a2 (s.toList.drop a2))) := by
            show _ = _
            rw [HX.out, List.drop_drop, lexA_skip, List.drop_drop, ← Ha2.out]
          have HS4 : Hid (skipG false (s.toList.drop a2) = 0) := by
            show _ = _
            rw [Ha2.out, ← List.drop_drop]; exact skip_idem _ _
          have ha2 : a2 ≤ s.size := by
            have h1 := skipG_le (s.toList.drop (a + nn)) false
            rw [List.length_drop, ba_len] at h1
            have := Ha2.out; omega
          have ha3 : a < a2 := by have := Ha2.out; omega
          clear hj hbl hfr hy HX HLa HRR hr4 hrc z0 z1 z2 f0 f1 f2 cg
          gi_wp2_with fail
          refine ⟨trivial, rfl, (callsIn_wide.2 (HSk1.out w4)).mono ?_⟩
          rintro e w5 ⟨rfl, hb5⟩
          have hz5 := hb5.size
          have HJ5 := Lib.hid (HJ.out _ _ w4 w5 HJ4.out hb5)
          have HB5 : Hid (∀ b, b < W.heap.size → b ≠ l → b ∉ S → w5.heap[b]? = W.heap[b]?) := fun b hb hbl' hbS => (hb5.block b (by omega)).trans (HB4.out b hb hbl' hbS)
          clear HJ4 HB4 x0 x1 x2 cg5
          gi_wp2_with fail
          go_roundw
          case rel => exact ⟨a2, _, ha2, rfl, HL4, HS4, HJ5, HB5, by omega⟩
          case measure => simp [intOf]; omega
        · have HJ4 := Lib.hid hj
          have HE : Hid (pre ++ [⟨⟨kk, (s.toList.drop a).take nn, a⟩, false⟩] <+: L) := by show _ <+: _; rw [HX.out]; exact List.prefix_append _ _
          clear hj hy HX HLa
          gi_wp2_with fail
          refine bodyPost_ret (results_none rfl _ _ _) rfl ?_
          exact ⟨⟨_, rfl⟩, .inr ⟨W.heap.size, _, HE, HJ4.out⟩⟩
    · have i1 : ¬ (a : Int) < (s.size : Int) := by omega
      have HE : Hid (pre = L) := by
        show _ = _
        rw [HLa.out, List.drop_eq_nil_of_le (by rw [Hlen.out]; omega)]
        simp [lexA, lexF, seqOf]
      clear HLa
      gi_wp2_with fail
      go_end0
      exact ⟨⟨_, rfl⟩, .inl ⟨W.heap.size, pre, HE.out, HJa.out⟩⟩
end Go.Proofs.YtplekbpmfaghbaaGreatDoor
