/- deps.Needs, collected. -/
import Derived.Test.YtdbpbchhkdconaaScR
import Derived.Test.YtdbpbchhkdconaaRange2
import Derived.Test.YtdbpbchhkdconaaGen
import Derived.OwnWalkIn
import Derived.TacticsInMore
import Derived.RegionIn
import Derived.LoopNIn
import Derived.LoopIn
import Derived.Shelf.Abstract
namespace Go.Proofs.Ytdbpbchhkdconaa
open Go.RowKit Go.Shelf
attribute [local go_sem] Oper.semAt_some

/-- what a node needs, each once -/
def needsF (a : Int) : Int → List GEdge → List Int
  | _, [] => []
  | last, e :: l => if e.a = a ∧ e.b ≠ last then e.b :: needsF a e.b l else needsF a last l
theorem needsF_mem (a : Int) : ∀ (l : List GEdge) (last b : Int), (b ∈ needsF a last l ∨ b = last) ↔ ((∃ e ∈ l, e.a = a ∧ e.b = b) ∨ b = last)
  | [], last, b => by simp [needsF]
  | e :: l, last, b => by
    unfold needsF
    by_cases h : e.a = a ∧ e.b ≠ last
    · rw [if_pos h, List.mem_cons]
      have ih := needsF_mem a l e.b b
      constructor
      · rintro ((rfl | hh) | hh)
        · exact .inl ⟨e, List.mem_cons_self .., h.1, rfl⟩
        · rcases ih.1 (.inl hh) with ⟨x, hx, hy⟩ | rfl
          · exact .inl ⟨x, List.mem_cons_of_mem _ hx, hy⟩
          · exact .inl ⟨e, List.mem_cons_self .., h.1, rfl⟩
        · exact .inr hh
      · rintro (⟨x, hx, hy⟩ | hh)
        · rcases List.mem_cons.1 hx with rfl | hx
          · exact .inl (.inl hy.2.symm)
          · rcases ih.2 (.inl ⟨x, hx, hy⟩) with hh | hh
            · exact .inl (.inr hh)
            · exact .inl (.inl hh)
        · exact .inr hh
    · rw [if_neg h]
      have ih := needsF_mem a l last b
      rw [ih]
      constructor
      · rintro (⟨x, hx, hy⟩ | hh)
        · exact .inl ⟨x, List.mem_cons_of_mem _ hx, hy⟩
        · exact .inr hh
      · rintro (⟨x, hx, hy⟩ | hh)
        · rcases List.mem_cons.1 hx with rfl | hx
          · right
            rcases Decidable.not_and_iff_or_not.1 h with h1 | h1
            · exact absurd hy.1 h1
            · rw [← hy.2]; exact Decidable.not_not.1 h1
          · exact .inl ⟨x, hx, hy⟩
        · exact .inr hh
theorem needsF_len (a : Int) : ∀ (l : List GEdge) (last : Int), (needsF a last l).length ≤ l.length
  | [], _ => Nat.le_refl _
  | e :: l, last => by
    unfold needsF
    split
    · have := needsF_len a l e.b; simp; omega
    · have := needsF_len a l last; simp; omega
def needsG (n : Int) (l : List GEdge) (a : Int) : List Int := if rightG n l = true then needsF a (-1) l else []
def encI (x : Int) : Array Value := #[.int .i64 x]
theorem encI_one (x : Int) : encI x = #[.int .i64 x] := rfl
def RI (L : List Int) (pre : List Int) (x : Int) (_base : Nat) (_W : World) : Prop := (pre ++ [x]) <+: L

set_option maxRecDepth 100000 in
set_option maxHeartbeats 1000000 in
theorem needs_any (n : Int) (A : Option Addr) (m c : Nat) (a : Int) (w : World) : Calls Try.prog 70 #[graphV n A m c, .int .i64 a] w fun e w' =>
    e = .returned (.func (.func 82) #[] #[.pointer (some ⟨w.heap.size, 0, none⟩), .pointer (some ⟨w.heap.size + 1, 0, none⟩)]) ∧ w' = (w.alloc (.cells #[.int .i64 n, .slice A m c] 24)).alloc (.cells #[.int .i64 a] 3) := by
  go_enter Try.func70, Try.ntmps70
  go_wp2_with fail
  go_ret
  exact ⟨by simp, rfl⟩

set_option maxRecDepth 100000 in
set_option maxHeartbeats 4000000 in
theorem needs_seq {w0 w : World} {n : Int} {A : Option Addr} {m c : Nat} {l : List GEdge} (hl : SliceIs Enc.edge w0 w0.heap.size A m c l) (hb0 : Below w0.heap.size w0 w) {a : Int} {g g2 : Nat} (hg : w.heap[g]? = some (.cells #[.int .i64 n, .slice A m c] 24 (0, 0))) (hg2 : w.heap[g2]? = some (.cells #[.int .i64 a] 3 (0, 0)))
    (S : List Nat) (hgS : g ∉ S) (hgS2 : g2 ∉ S) (hS : ∀ b ∈ S, w0.heap.size ≤ b) :
    SeqR2 Try.prog 82 #[.pointer (some ⟨g, 0, none⟩), .pointer (some ⟨g2, 0, none⟩)] encI (RI (needsG n l a)) S (fun xs => Hid (xs = needsG n l a)) (fun pre => Hid (pre <+: needsG n l a)) w := by
  intro lp J Jx W hbW hlp hlW hJ h0 hY
  have HJ := Lib.hid hJ
  have H0 := Lib.hid h0
  have HY := Lib.hid hY
  have gl : g < w.heap.size := (Array.getElem?_eq_some_iff.1 hg).1
  have gl2 : g2 < w.heap.size := (Array.getElem?_eq_some_iff.1 hg2).1
  have hsW := hbW.size
  have hs0 := hb0.size
  have hglW : g < W.heap.size := by omega
  have hglW2 : g2 < W.heap.size := by omega
  have hneq : g ≠ lp := by omega
  have hneq2 : g2 ≠ lp := by omega
  have HK : Hid (∀ V : World, (∀ b, b < W.heap.size → b ≠ lp → b ∉ S → V.heap[b]? = W.heap[b]?) → W.heap.size ≤ V.heap.size → SliceIs Enc.edge V V.heap.size A m c l ∧ V.heap[g]? = some (.cells #[.int .i64 n, .slice A m c] 24 (0, 0)) ∧ V.heap[g2]? = some (.cells #[.int .i64 a] 3 (0, 0))) := by
    intro V hV hz
    have hk : ∀ b, b < w0.heap.size → V.heap[b]? = w0.heap[b]? := fun b hb => (hV b (by omega) (by omega) (fun hbS => by have := hS b hbS; omega)).trans ((hbW.block b (by omega)).trans (hb0.block b hb))
    exact ⟨hl.mono (by omega) hk, (hV g hglW hneq hgS).trans ((hbW.block g gl).trans hg), (hV g2 hglW2 hneq2 hgS2).trans ((hbW.block g2 gl2).trans hg2)⟩
  obtain ⟨hlW', hgW, -⟩ := HK.out W (fun _ _ _ _ => rfl) (Nat.le_refl _)
  have HF := Lib.hid (right_any n A m c l W hlW')
  have Hm : Hid (l.length = m) := hl.1
  have hbm := hl.bound
  have c0 : W.cell? ⟨g, 0, none⟩ = some (.int .i64 n) := (cell_of_row _ _ 0 _ _ _ hgW).trans rfl
  have c1 : W.cell? ⟨g, 1, none⟩ = some (.slice A m c) := (cell_of_row _ _ 1 _ _ _ hgW).trans rfl
  obtain ⟨L, HL⟩ : ∃ L, Hid (L = needsG n l a) := ⟨_, rfl⟩
  rw [← HL.out] at HY ⊢
  clear hl hg hg2 hJ h0 hY hlW' hgW
  refine (callsIn_wide (n := 0)).1 ?_
  refine callsIn_of_wp Try.func82 rfl trivial ?_ rfl
  simp only [Try.ntmps82, List.size_toArray, List.length_cons, List.length_nil, Nat.reduceAdd, Nat.reduceSub, Array.replicate_succ, Array.replicate_zero, List.push_toArray, List.append_toArray, List.nil_append, List.cons_append]
  gi_wp2_with fail
  refine ⟨trivial, rfl, (callsIn_wide.2 HF.out).mono ?_⟩
  rintro e w1 ⟨rfl, hb1⟩
  have hz1 := hb1.size
  have HJ0 : Hid (J W.heap.size [] w1) := H0.out _ w1 hb1 (Nat.le_refl _) hz1
  have HB1 : Hid (∀ b, b < W.heap.size → b ≠ lp → b ∉ S → w1.heap[b]? = W.heap[b]?) := fun b hb _ _ => hb1.block b hb
  clear hb1 H0 HF c0 c1
  cases hfo : rightG n l with
  | false =>
    have HE : Hid ([] = L) := by show _ = _; rw [HL.out]; unfold needsG; rw [hfo]; rfl
    clear hfo
    gi_wp2_with fail
    refine bodyPost_ret (results_none rfl _ _ _) rfl ?_
    exact ⟨⟨_, rfl⟩, .inl ⟨W.heap.size, _, HE, HJ0.out⟩⟩
  | true =>
  have HLs : Hid (L = needsF a (-1) l) := by show _ = _; rw [HL.out]; unfold needsG; rw [hfo]; rfl
  clear hfo HL
  obtain ⟨-, hg1, hg21⟩ := HK.out w1 HB1.out hz1
  have c1 : w1.cell? ⟨g, 1, none⟩ = some (.slice A m c) := (cell_of_row _ _ 1 _ _ _ hg1).trans rfl
  clear hg1 hg21
  gi_wp2_with fail
  clear c1
  gi_loopw [4, 6, 13] (fun la _ i wr => ∃ (k : Nat) (last : Int) (pre : List Int), k ≤ m ∧ i = .int .i64 k ∧ la = .int .i64 last ∧ Hid (L = pre ++ needsF a last (l.drop k)) ∧ Hid (J W.heap.size pre wr) ∧ Hid (∀ b, b < W.heap.size → b ≠ lp → b ∉ S → wr.heap[b]? = W.heap[b]?) ∧ W.heap.size ≤ wr.heap.size) (fun _ _ i _ => m - (intOf i).toNat)
  case atStart => exact ⟨0, -1, [], by omega, rfl, rfl, by rw [List.drop_zero]; exact HLs, HJ0, HB1, hz1⟩
  case round =>
    obtain ⟨k, last, pre, hk, rfl, rfl, HLk, HJk, HBk, hNk⟩ := hrel
    have i0 : (0 : Int) ≤ (k : Int) := by omega
    by_cases hlt : k < m
    · have i1 : (k : Int) < (m : Int) := by omega
      obtain ⟨hlr, hgr, hg2r⟩ := HK.out wr HBk.out hNk
      obtain ⟨b, o, x, hA, hbl, hx, x0, x1, x2, -⟩ := hlr.edge_at hlt
      try simp only at hA
      subst hA
      have Hdrop : Hid (l.drop k = x :: l.drop (k + 1)) := by
        show _ = _
        rw [List.drop_eq_getElem_cons (by rw [Hm.out]; exact hlt)]
        have := hx.out
        rw [List.getElem?_eq_getElem (by rw [Hm.out]; exact hlt)] at this
        injection this with this
        rw [this]
      have hba : Below wr.heap.size wr (wr.alloc (.cells #[.int .i64 x.a, .int .i64 x.b, .bool x.n] 32)) := belowA (Below.refl _ _) _
      have c2 : (wr.alloc (.cells #[.int .i64 x.a, .int .i64 x.b, .bool x.n] 32)).cell? ⟨g2, 0, none⟩ = some (.int .i64 a) := cellA ((cell_of_row _ _ 0 _ _ _ hg2r).trans rfl)
      have Hba := Lib.hid hba
      clear hlr hgr hg2r hx hba
      by_cases h1 : x.a = a
      · have z1 : (x.a != a) = false := by simp [h1]
        by_cases h2 : x.b = last
        · have z2 : (x.b == last) = true := by simp [h2]
          have HL2 : Hid (L = pre ++ needsF a last (l.drop (k + 1))) := by
            show _ = _
            rw [HLk.out, Hdrop.out]
            conv => lhs; unfold needsF
            rw [if_neg (by simp [h2])]
          have HB2 : Hid (∀ b, b < W.heap.size → b ≠ lp → b ∉ S → (wr.alloc (.cells #[.int .i64 x.a, .int .i64 x.b, .bool x.n] 32)).heap[b]? = W.heap[b]?) := fun b hb hn hs => (Hba.out.block b (by omega)).trans (HBk.out b hb hn hs)
          have HJ2 : Hid (J W.heap.size pre (wr.alloc (.cells #[.int .i64 x.a, .int .i64 x.b, .bool x.n] 32))) := HJ.out _ _ _ _ HJk.out Hba.out
          clear h1 h2 HLk HJk HBk Hba Hdrop
          gi_wp2_with fail
          go_roundw
          case rel => exact ⟨k + 1, last, pre, by omega, by go_num, rfl, HL2, HJ2, HB2, by simp; omega⟩
          case measure => simp [intOf]; omega
        · have z2 : (x.b == last) = false := by simp [h2]
          have HL2 : Hid (L = pre ++ [x.b] ++ needsF a x.b (l.drop (k + 1))) := by
            show _ = _
            rw [HLk.out, Hdrop.out]
            conv => lhs; unfold needsF
            rw [if_pos ⟨h1, h2⟩]
            simp
          have HP : Hid ((pre ++ [x.b]) <+: L) := by show _ <+: _; rw [HL2.out]; exact List.prefix_append _ _
          have HYs := Lib.hid (fun mm => HY.out mm W.heap.size pre x.b wr _ HJk.out Hba.out HP.out)
          obtain ⟨fn, tmps, assign, body, hy, hR⟩ := HYs.out 0
          have HRR := Lib.hid hR
          rw [encI_one] at hy
          clear hR HYs h1 h2
          gi_wp2_with fail
          refine ⟨rfl, HRR.out.mono ?_⟩
          rintro e w4 (⟨rfl, hj, hz4, hbl4, hfr⟩ | ⟨rfl, hj⟩)
          · have HJ4 := Lib.hid hj
            have HB4 : Hid (∀ b, b < W.heap.size → b ≠ lp → b ∉ S → w4.heap[b]? = W.heap[b]?) := fun b hb hbl' hbS => (hbl4 b hb hbS hbl').trans ((Hba.out.block b (by omega)).trans (HBk.out b hb hbl' hbS))
            have hz5 : W.heap.size ≤ w4.heap.size := by have := Hba.out.size; omega
            clear hj hbl4 hfr hy HRR Hba HBk HJk HLk
            gi_wp2_with fail
            go_roundw
            case rel => exact ⟨k + 1, x.b, pre ++ [x.b], by omega, by go_num, rfl, HL2, HJ4, HB4, hz5⟩
            case measure => simp [intOf]; omega
          · have HJ4 := Lib.hid hj
            clear hj hy HRR Hba HBk HJk
            gi_wp2_with fail
            refine bodyPost_ret (results_none rfl _ _ _) rfl ?_
            exact ⟨⟨_, rfl⟩, .inr ⟨W.heap.size, _, HP, HJ4.out⟩⟩
      · have z1 : (x.a != a) = true := by simp [h1]
        have HL2 : Hid (L = pre ++ needsF a last (l.drop (k + 1))) := by
          show _ = _
          rw [HLk.out, Hdrop.out]
          conv => lhs; unfold needsF
          rw [if_neg (by simp [h1])]
        have HB2 : Hid (∀ b, b < W.heap.size → b ≠ lp → b ∉ S → (wr.alloc (.cells #[.int .i64 x.a, .int .i64 x.b, .bool x.n] 32)).heap[b]? = W.heap[b]?) := fun b hb hn hs => (Hba.out.block b (by omega)).trans (HBk.out b hb hn hs)
        have HJ2 : Hid (J W.heap.size pre (wr.alloc (.cells #[.int .i64 x.a, .int .i64 x.b, .bool x.n] 32))) := HJ.out _ _ _ _ HJk.out Hba.out
        clear h1 HLk HJk HBk Hba Hdrop
        gi_wp2_with fail
        go_roundw
        case rel => exact ⟨k + 1, last, pre, by omega, by go_num, rfl, HL2, HJ2, HB2, by simp; omega⟩
        case measure => simp [intOf]; omega
    · have i1 : ¬ (k : Int) < (m : Int) := by omega
      have HE : Hid (pre = L) := by
        show _ = _
        rw [HLk.out, List.drop_of_length_le (by rw [Hm.out]; omega)]
        simp [needsF]
      gi_wp2_with fail
      go_end0
      exact ⟨⟨_, rfl⟩, .inl ⟨W.heap.size, _, HE, HJk.out⟩⟩
end Go.Proofs.Ytdbpbchhkdconaa
